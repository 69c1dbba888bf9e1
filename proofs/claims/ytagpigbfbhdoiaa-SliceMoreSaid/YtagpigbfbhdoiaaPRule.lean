/- Rules: as cubes with what they do; which one is the first; few rules. -/
import Derived.Test.YtagpigbfbhdoiaaPCover5
set_option maxRecDepth 100000
namespace Go.Fn
open Go Go.Vi

abbrev Ru := Cu × List Atom
def ru (x : Ru) : Rule := (cu x.1, x.2)
def zAtoms : List Atom := []
theorem rule_get {L : List Ru} {i : Nat} {x : Ru} (h : L[i]? = some x) (d : Rule) : List.getD (L.map ru) (Int.toNat (i : Int)) d = ru x :=
  getD_of (by rw [List.getElem?_map, h]; rfl)
theorem rule_nat {L : List Ru} {i : Nat} {x : Ru} (h : L[i]? = some x) (d : Rule) : List.getD (L.map ru) i d = ru x := by
  have := rule_get h d
  rwa [Int.toNat_natCast] at this
theorem getD_nat {α : Type} {xs : List α} {i : Nat} {x d : α} (h : xs[i]? = some x) : List.getD xs i d = x := by
  have := getD_of (d := d) h
  rwa [Int.toNat_natCast] at this
theorem map_in {α β : Type} {L : List α} {f : α → β} {i : Nat} {x : α} (h : L[i]? = some x) : (L.map f)[i]? = some (f x) := by rw [List.getElem?_map, h]; rfl
theorem len_of {α : Type} {L : List α} {i : Nat} {x : α} (h : L[i]? = some x) : i < L.length := (List.getElem?_eq_some_iff.1 h).1

theorem beqT_refl : ∀ (τ : Ty), τ.eqs = true → ∀ x : τ.den, beqT τ x x = true
  | .int _, _, x => by show ((x : Int) == x) = true; exact beq_self_eq_true x
  | .bool, _, x => by show ((x : Bool) == x) = true; cases x <;> rfl
  | .str, _, x => by
    have h : ∀ b : ByteArray, (b == b) = true := fun b => by cases b; exact beq_self_eq_true (α := Array UInt8) _
    exact h x
  | .unit, _, _ => rfl
  | .one a, h, x => beqT_refl a h x
  | .pair a b, h, x => by
    simp only [Ty.eqs, Bool.and_eq_true] at h
    simp only [beqT, beqT_refl a h.1, beqT_refl b h.2, Bool.and_self]
  | .arr _ e, h, xs => by
    have hl : ∀ l : List e.den, beqL (beqT e) l l = true := by
      intro l
      induction l with
      | nil => rfl
      | cons y l ih => simp only [beqL, beqT_refl e h, ih, Bool.and_self]
    exact hl xs
  | .slc _, h, _ => by cases h

/-! ### which one is the first -/
def idxF {α : Type} (q : α → Bool) : List α → Nat → Int
  | [], _ => -1
  | x :: l, i => bif q x then (i : Int) else idxF q l (i + 1)
theorem index_rules (n : Nat) (f : Rule → Option Bool) (q : Ru → Bool) (hf : ∀ x, f (ru x) = some (q x)) (L : List Ru) (hL : L.length ≤ 4611686018427387904) (hn : L.length < n) : slices_IndexFunc_Rule n (L.map ru) f = some (idxF q L 0) := by
  have key : ∀ (l : List Ru) (i : Nat), loopL (R := Int) (fun i x (_ : Unit) => bif q x then .inl (some (i : Int)) else .inr ()) (fun _ => some (-1)) i l () = some (idxF q l i) := by
    intro l
    induction l with
    | nil => intro i; rfl
    | cons x l ih =>
      intro i
      simp only [loopL, idxF]
      cases q x with
      | true => rfl
      | false => exact ih (i + 1)
  rw [← key L 0]
  simp only [slices_IndexFunc_Rule, slices_IndexFunc_Rule.s, List.length_map]
  refine loopL_start (fun m (_ : Unit) i => slices_IndexFunc_Rule.l0 n (L.map ru) f ((L.length : Nat) : Int) m i) L (fun m s i x hx => ?_) (fun m s => ?_) hn ()
  · simp only [slices_IndexFunc_Rule.l0, slices_IndexFunc_Rule.s0, List.length_map, lt_of hx, decide_true, cond_true, inRange_of hx, rule_get hx, hf, obind_some, succ_of hx (by omega)]
    cases q x <;> rfl
  · simp only [slices_IndexFunc_Rule.l0, slices_IndexFunc_Rule.s0, Int.lt_irrefl, decide_false, cond_false]
theorem idxF_ge {α : Type} (q : α → Bool) : ∀ (l : List α) (i : Nat), -1 ≤ idxF q l i ∧ (idxF q l i < 0 ↔ l.find? q = none) ∧ (0 ≤ idxF q l i → (i : Int) ≤ idxF q l i ∧ ∃ x, l[(idxF q l i - i).toNat]? = some x ∧ l.find? q = some x)
  | [], i => ⟨by simp [idxF], by simp [idxF], fun h => by simp [idxF] at h⟩
  | x :: l, i => by
    simp only [idxF]
    cases hq : q x with
    | true =>
      rw [cond_true]
      refine ⟨by omega, ?_, fun _ => ⟨by omega, x, by simp, by simp [hq]⟩⟩
      rw [List.find?_cons_of_pos hq]
      exact ⟨fun h => by omega, fun h => by cases h⟩
    | false =>
      rw [cond_false]
      obtain ⟨h1, h2, h3⟩ := idxF_ge q l (i + 1)
      have hfind : (x :: l).find? q = l.find? q := List.find?_cons_of_neg (by rw [hq]; simp)
      rw [hfind]
      refine ⟨h1, h2, fun h => ?_⟩
      obtain ⟨h4, y, h5, h6⟩ := h3 h
      refine ⟨by omega, y, ?_, h6⟩
      rw [show (idxF q l (i + 1) - (i : Int)).toNat = (idxF q l (i + 1) - ((i + 1 : Nat) : Int)).toNat + 1 by omega, List.getElem?_cons_succ]
      exact h5

theorem plain_rules (n : Nat) (L : List Ru) (many : Int) (hL : L.length ≤ 4611686018427387904) (hn : L.length < n) : ∃ b, plain_Rules n (L.map ru) many = some b ∧ (b = true → ((L.length : Nat) : Int) ≤ many) := by
  unfold plain_Rules
  rw [List.length_map]
  by_cases h : ((L.length : Nat) : Int) ≤ many
  · have hi := index_rules n (fun (x4 : Rule) => some (plain_Rules_1_c x4)) (fun x => plain_Rules_1_c (ru x)) (fun x => rfl) L hL hn
    have hd : decide (((L.length : Nat) : Int) ≤ many) = true := decide_eq_true h
    simp only [hd, beq_self_eq_true, cond_true, slices_ContainsFunc_Rule, hi, obind_some]
    exact ⟨_, rfl, fun _ => h⟩
  · simp only [h, decide_false, show (false == true) = false from rfl, cond_false]
    exact ⟨false, rfl, fun h => by cases h⟩

theorem rules_wf : ∀ {a : List Rule}, (∀ x ∈ a, Wf TRule x) → ∃ L : List Ru, a = L.map ru
  | [], _ => ⟨[], rfl⟩
  | x :: a, h => by
    obtain ⟨h1, h2⟩ := h x (by simp)
    obtain ⟨c, hc⟩ := cu_wf h1
    obtain ⟨L, hL⟩ := rules_wf (a := a) fun y hy => h y (List.mem_cons_of_mem _ hy)
    refine ⟨(c, x.2) :: L, ?_⟩
    rw [hL, List.map_cons]
    show x :: _ = (cu c, x.2) :: _
    rw [← hc]
theorem rule_list {a : List Rule} (h : Wf (.slc TRule) a) : ∃ L : List Ru, a = L.map ru ∧ L.length * 792 ≤ 140737488355328 := by
  obtain ⟨_, h2, h3⟩ := h
  obtain ⟨L, hL⟩ := rules_wf h3
  have h4 : a.length * 792 ≤ 140737488351232 := h2
  rw [hL, List.length_map] at h4
  exact ⟨L, hL, Nat.le_trans h4 (by decide)⟩
theorem few_rules (n : Nat) (L : List Ru) (many : Int) (hL : L.length ≤ 4611686018427387904) (hn : L.length < n) : ∃ b, plain_Rules n (L.map ru) many = some b ∧ (b = true → ((L.length : Nat) : Int) ≤ many ∧ ∀ x ∈ L, x.2.length ≤ 12) := by
  unfold plain_Rules
  rw [List.length_map]
  by_cases h : ((L.length : Nat) : Int) ≤ many
  · have hi := index_rules n (fun (x4 : Rule) => some (plain_Rules_1_c x4)) (fun x => plain_Rules_1_c (ru x)) (fun x => rfl) L hL hn
    have hd : decide (((L.length : Nat) : Int) ≤ many) = true := decide_eq_true h
    simp only [hd, beq_self_eq_true, cond_true, slices_ContainsFunc_Rule, hi, obind_some]
    refine ⟨_, rfl, fun hb => ⟨h, fun x hx => ?_⟩⟩
    obtain ⟨_, h2, _⟩ := idxF_ge (fun x => plain_Rules_1_c (ru x)) L 0
    have hneg : idxF (fun x => plain_Rules_1_c (ru x)) L 0 < 0 := by
      have : decide (idxF (fun x => plain_Rules_1_c (ru x)) L 0 ≥ 0) = false := by simpa using hb
      have := of_decide_eq_false this
      omega
    have h3 := List.find?_eq_none.1 (h2.1 hneg) x hx
    have h4 : (!decide (((x.2.length : Nat) : Int) ≤ 12)) = false := by
      have : plain_Rules_1_c (ru x) = false := by simpa using h3
      exact this
    have h5 : decide (((x.2.length : Nat) : Int) ≤ 12) = true := by simpa using h4
    have := of_decide_eq_true h5
    omega
  · simp only [h, decide_false, show (false == true) = false from rfl, cond_false]
    exact ⟨false, rfl, fun h => by cases h⟩
end Go.Fn
