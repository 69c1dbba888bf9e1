/- Rules: the natives of chapter 34, and what they come to. -/
import Derived.Test.YtoknbagoippnhaaPCover5
set_option maxRecDepth 100000
namespace Go.Fn
open Go Go.Vi

abbrev Ru := Cu × List Atom
def ru (x : Ru) : Rule := (cu x.1, x.2)
def zAtoms : List Atom := []
theorem rule_get {L : List Ru} {i : Nat} {x : Ru} (h : L[i]? = some x) (d : Rule) : List.getD (L.map ru) (Int.toNat (i : Int)) d = ru x :=
  getD_of (by rw [List.getElem?_map, h]; rfl)
theorem rule_nat {L : List Ru} {i : Nat} {x : Ru} (h : L[i]? = some x) (d : Rule) : List.getD (L.map ru) i d = ru x := by
  have := rule_get h d
  rwa [Int.toNat_natCast] at this
theorem getD_nat {α : Type} {xs : List α} {i : Nat} {x d : α} (h : xs[i]? = some x) : List.getD xs i d = x := by
  have := getD_of (d := d) h
  rwa [Int.toNat_natCast] at this
theorem map_in {α β : Type} {L : List α} {f : α → β} {i : Nat} {x : α} (h : L[i]? = some x) : (L.map f)[i]? = some (f x) := by rw [List.getElem?_map, h]; rfl
theorem len_of {α : Type} {L : List α} {i : Nat} {x : α} (h : L[i]? = some x) : i < L.length := (List.getElem?_eq_some_iff.1 h).1

theorem beqT_refl : ∀ (τ : Ty), τ.eqs = true → ∀ x : τ.den, beqT τ x x = true
  | .int _, _, x => by show ((x : Int) == x) = true; exact beq_self_eq_true x
  | .bool, _, x => by show ((x : Bool) == x) = true; cases x <;> rfl
  | .str, _, x => by
    have h : ∀ b : ByteArray, (b == b) = true := fun b => by cases b; exact beq_self_eq_true (α := Array UInt8) _
    exact h x
  | .unit, _, _ => rfl
  | .one a, h, x => beqT_refl a h x
  | .pair a b, h, x => by
    simp only [Ty.eqs, Bool.and_eq_true] at h
    simp only [beqT, beqT_refl a h.1, beqT_refl b h.2, Bool.and_self]
  | .arr _ e, h, xs => by
    have hl : ∀ l : List e.den, beqL (beqT e) l l = true := by
      intro l
      induction l with
      | nil => rfl
      | cons y l ih => simp only [beqL, beqT_refl e h, ih, Bool.and_self]
    exact hl xs
  | .slc _, h, _ => by cases h

/-! ### which one is the first -/
def idxF {α : Type} (q : α → Bool) : List α → Nat → Int
  | [], _ => -1
  | x :: l, i => bif q x then (i : Int) else idxF q l (i + 1)
theorem index_rules (n : Nat) (f : Rule → Option Bool) (q : Ru → Bool) (hf : ∀ x, f (ru x) = some (q x)) (L : List Ru) (hL : L.length ≤ 4611686018427387904) (hn : L.length < n) : slices_IndexFunc_Rule n (L.map ru) f = some (idxF q L 0) := by
  have key : ∀ (l : List Ru) (i : Nat), loopL (R := Int) (fun i x (_ : Unit) => bif q x then .inl (some (i : Int)) else .inr ()) (fun _ => some (-1)) i l () = some (idxF q l i) := by
    intro l
    induction l with
    | nil => intro i; rfl
    | cons x l ih =>
      intro i
      simp only [loopL, idxF]
      cases q x with
      | true => rfl
      | false => exact ih (i + 1)
  rw [← key L 0]
  simp only [slices_IndexFunc_Rule, slices_IndexFunc_Rule.s, List.length_map]
  refine loopL_start (fun m (_ : Unit) i => slices_IndexFunc_Rule.l0 n (L.map ru) f ((L.length : Nat) : Int) m i) L (fun m s i x hx => ?_) (fun m s => ?_) hn ()
  · simp only [slices_IndexFunc_Rule.l0, slices_IndexFunc_Rule.s0, List.length_map, lt_of hx, decide_true, cond_true, inRange_of hx, rule_get hx, hf, obind_some, succ_of hx (by omega)]
    cases q x <;> rfl
  · simp only [slices_IndexFunc_Rule.l0, slices_IndexFunc_Rule.s0, Int.lt_irrefl, decide_false, cond_false]
theorem idxF_ge {α : Type} (q : α → Bool) : ∀ (l : List α) (i : Nat), -1 ≤ idxF q l i ∧ (idxF q l i < 0 ↔ l.find? q = none) ∧ (0 ≤ idxF q l i → (i : Int) ≤ idxF q l i ∧ ∃ x, l[(idxF q l i - i).toNat]? = some x ∧ l.find? q = some x)
  | [], i => ⟨by simp [idxF], by simp [idxF], fun h => by simp [idxF] at h⟩
  | x :: l, i => by
    simp only [idxF]
    cases hq : q x with
    | true =>
      rw [cond_true]
      refine ⟨by omega, ?_, fun _ => ⟨by omega, x, by simp, by simp [hq]⟩⟩
      rw [List.find?_cons_of_pos hq]
      exact ⟨fun h => by omega, fun h => by cases h⟩
    | false =>
      rw [cond_false]
      obtain ⟨h1, h2, h3⟩ := idxF_ge q l (i + 1)
      have hfind : (x :: l).find? q = l.find? q := List.find?_cons_of_neg (by rw [hq]; simp)
      rw [hfind]
      refine ⟨h1, h2, fun h => ?_⟩
      obtain ⟨h4, y, h5, h6⟩ := h3 h
      refine ⟨by omega, y, ?_, h6⟩
      rw [show (idxF q l (i + 1) - (i : Int)).toNat = (idxF q l (i + 1) - ((i + 1 : Nat) : Int)).toNat + 1 by omega, List.getElem?_cons_succ]
      exact h5

theorem plain_rules (n : Nat) (L : List Ru) (many : Int) (hL : L.length ≤ 4611686018427387904) (hn : L.length < n) : ∃ b, plain_Rules n (L.map ru) many = some b ∧ (b = true → ((L.length : Nat) : Int) ≤ many) := by
  unfold plain_Rules
  rw [List.length_map]
  by_cases h : ((L.length : Nat) : Int) ≤ many
  · have hi := index_rules n (fun (x4 : Rule) => some (plain_Rules_1_c x4)) (fun x => plain_Rules_1_c (ru x)) (fun x => rfl) L hL hn
    have hd : decide (((L.length : Nat) : Int) ≤ many) = true := decide_eq_true h
    simp only [hd, beq_self_eq_true, cond_true, slices_ContainsFunc_Rule, hi, obind_some]
    exact ⟨_, rfl, fun _ => h⟩
  · simp only [h, decide_false, show (false == true) = false from rfl, cond_false]
    exact ⟨false, rfl, fun h => by cases h⟩

/-! ### the cubes of rules -/
theorem set_next {α : Type} (pre : List α) (z y : α) (rest : List α) : (pre ++ z :: rest).set pre.length y = (pre ++ [y]) ++ rest := by
  rw [List.set_append_right _ _ (Nat.le_refl _), Nat.sub_self, List.set_cons_zero]; simp
theorem shadow_cubes (n : Nat) (L : List Ru) (hL : L.length * 768 ≤ 281474976710656) (hn : L.length < n) : shadow_Cubes n (L.map ru) = some ((L.map (·.1)).map cu) := by
  have key : ∀ (l : List Ru) (pre : List Cube), loopL (R := List Cube) (fun i (x : Ru) (s : List Cube) => bif inRange (i : Int) s.length then .inr (s.set i (cu x.1)) else .inl none) some pre.length l (pre ++ List.replicate l.length (List.replicate 24 ((0, 0), 0, 0))) = some (pre ++ (l.map (·.1)).map cu) := by
    intro l
    induction l with
    | nil => intro pre; simp [loopL]
    | cons x l ih =>
      intro pre
      have hin : inRange ((pre.length : Nat) : Int) (pre ++ List.replicate (x :: l).length (List.replicate 24 (((0, 0), 0, 0) : Tern))).length = true := inRange_true (by omega) (by simp; omega)
      simp only [loopL, hin, cond_true]
      rw [List.length_cons, List.replicate_succ, set_next]
      have := ih (pre ++ [cu x.1])
      simp only [List.length_append, List.length_cons, List.length_nil, Nat.zero_add] at this
      rw [this]; simp
  have k0 := key L []
  simp only [List.length_nil, List.nil_append] at k0
  rw [← k0]
  have h1 : decide ((0 : Int) ≤ ((L.length : Nat) : Int)) = true := decide_eq_true (by omega)
  have h2 : decide (((L.length : Nat) : Int) ≤ ((L.length : Nat) : Int)) = true := decide_eq_true (Int.le_refl _)
  have h3 : decide (((L.length : Nat) : Int) * ((768 : Nat) : Int) ≤ 281474976710656) = true := decide_eq_true (by omega)
  simp only [shadow_Cubes, shadow_Cubes.s, List.length_map, h1, h2, h3, Bool.and_self, cond_true, Int.toNat_natCast]
  refine loopL_start (fun m (s : List Cube) i => shadow_Cubes.l0 n (L.map ru) ((L.length : Nat) : Int) m i s) L (fun m s i x hx => ?_) (fun m s => ?_) hn _
  · simp only [shadow_Cubes.l0, shadow_Cubes.s0, List.length_map, lt_of hx, decide_true, cond_true, inRange_of hx, rule_nat hx, succ_of hx (by omega), Int.toNat_natCast, ru]
    cases inRange (i : Int) s.length <;> rfl
  · simp only [shadow_Cubes.l0, shadow_Cubes.s0, Int.lt_irrefl, decide_false, cond_false]
theorem ref34_cubes (n : Nat) (L : List Ru) (hL : L.length * 768 ≤ 140737488355328) (hn : L.length < n) : ref34_Cubes n (L.map ru) = some ((L.map (·.1)).map cu) := by
  have key : ∀ (l : List Ru) (out : List Cube) (i : Nat), (out.length + l.length) * 768 ≤ 140737488355328 → loopL (R := List Cube) (fun i (x : Ru) (s : List Cube) => bif decide ((s.length + 1) * 768 ≤ 140737488355328) then .inr (s ++ [cu x.1]) else .inl none) some i l out = some (out ++ (l.map (·.1)).map cu) := by
    intro l
    induction l with
    | nil => intro out i _; simp [loopL]
    | cons x l ih =>
      intro out i hb
      simp only [List.length_cons] at hb
      have hd : decide ((out.length + 1) * 768 ≤ 140737488355328) = true := decide_eq_true (by omega)
      simp only [loopL, hd, cond_true]
      rw [ih (out ++ [cu x.1]) (i + 1) (by simp; omega)]; simp
  have k0 := key L [] 0 (by simpa using hL)
  simp only [List.nil_append] at k0
  rw [← k0]
  simp only [ref34_Cubes, ref34_Cubes.s]
  refine loopL_start (fun m (s : List Cube) i => ref34_Cubes.l0 n (L.map ru) m s i) L (fun m s i x hx => ?_) (fun m s => ?_) hn _
  · simp only [ref34_Cubes.l0, ref34_Cubes.s0, List.length_map, lt_of hx, decide_true, cond_true, inRange_of hx, rule_get hx, succ_of hx (by omega), ru, List.length_cons, List.length_nil, Nat.zero_add]
    cases decide ((s.length + 1) * 768 ≤ 140737488355328) <;> rfl
  · simp only [ref34_Cubes.l0, ref34_Cubes.s0, List.length_map, Int.lt_irrefl, decide_false, cond_false]

/-! ### how many steps are enough -/
def bigS (cs : List Cu) : List Cu → Nat → Int → Int
  | [], _, b => b
  | c :: l, i, b => bigS cs l (i + 1) (maxI b (boundS c (cs.take i)))
theorem sub_nat {α : Type} (l : List α) (i : Nat) : sub l 0 i = l.take i := by simp [sub]
theorem sub_take {α : Type} (l : List α) (i : Nat) : sub l 0 (Int.toNat (i : Int)) = l.take i := by simp [sub]
theorem big_loop (cs : List Cu) : ∀ (l : List Cu) (i : Nat) (b : Int), loopL (R := Int) (fun i (c : Cu) (b : Int) => .inr (maxI b (boundS c (cs.take i)))) some i l b = some (bigS cs l i b)
  | [], _, _ => rfl
  | c :: l, i, b => by simp only [loopL, bigS]; exact big_loop cs l (i + 1) _
theorem shadow_bound (n : Nat) (hn' : 128 < n) (L : List Ru) (hL : L.length * 768 ≤ 140737488355328) (hn : L.length < n) : shadow_Bound n (L.map ru) = some (bigS (L.map (·.1)) (L.map (·.1)) 0 0) := by
  rw [← big_loop]
  simp only [shadow_Bound, shadow_Bound.s, shadow_cubes n L (by omega) hn, obind_some]
  generalize hcs : L.map (·.1) = cs
  have hlen : cs.length = L.length := by rw [← hcs, List.length_map]
  rw [List.length_map]
  refine loopL_start (fun m (s : Int) i => shadow_Bound.l0 n (cs.map cu) (cs.map cu) ((cs.length : Nat) : Int) m s i) cs (fun m s i x hx => ?_) (fun m s => ?_) (by omega) _
  · have hl := len_of hx
    have h1 : decide ((0 : Int) ≤ (i : Int)) = true := decide_eq_true (by omega)
    have h2 : decide ((i : Int) ≤ ((cs.length : Nat) : Int)) = true := decide_eq_true (by omega)
    have hb := cover_bound n hn' x (cs.take i) (by rw [List.length_take]; omega) (by rw [List.length_take]; omega)
    simp only [shadow_Bound.l0, shadow_Bound.s0, List.length_map, lt_of hx, decide_true, cond_true, inRange_of hx, getD_of (map_in hx), h1, h2, Bool.and_self, sub_take, ← List.map_take, hb, obind_some, succ_of hx (by omega)]
  · simp only [shadow_Bound.l0, shadow_Bound.s0, Int.lt_irrefl, decide_false, cond_false]
theorem ref34_bound (n : Nat) (hn' : 128 < n) (L : List Ru) (hL : L.length * 768 ≤ 140737488355328) (hn : L.length < n) : ref34_Bound n (L.map ru) = some (bigS (L.map (·.1)) (L.map (·.1)) 0 0) := by
  have key : ∀ (l : List Ru) (i : Nat) (b : Int), loopL (R := Int) (fun i (x : Ru) (b : Int) => .inr (maxI b (boundS x.1 ((L.map (·.1)).take i)))) some i l b = some (bigS (L.map (·.1)) (l.map (·.1)) i b) := by
    intro l
    induction l with
    | nil => intro i b; rfl
    | cons x l ih => intro i b; simp only [loopL, List.map_cons, bigS]; exact ih (i + 1) _
  rw [← key]
  simp only [ref34_Bound, ref34_Bound.s]
  refine loopL_start (fun m (s : Int) i => ref34_Bound.l0 n (L.map ru) m s i) L (fun m s i x hx => ?_) (fun m s => ?_) hn _
  · have hl := len_of hx
    have h1 : decide ((0 : Int) ≤ (i : Int)) = true := decide_eq_true (by omega)
    have h2 : decide ((i : Int) ≤ ((L.length : Nat) : Int)) = true := decide_eq_true (by omega)
    have hb := ref08_bound n hn' x.1 ((L.take i).map (·.1)) (by rw [List.length_map, List.length_take]; omega) (by rw [List.length_map, List.length_take]; omega)
    have hc := ref34_cubes n (L.take i) (by rw [List.length_take]; omega) (by rw [List.length_take]; omega)
    simp only [ref34_Bound.l0, ref34_Bound.s0, List.length_map, lt_of hx, decide_true, cond_true, inRange_of hx, rule_get hx, h1, h2, Bool.and_self, sub_take, ← List.map_take, hc, obind_some, ru, hb, succ_of hx (by omega)]
  · simp only [ref34_Bound.l0, ref34_Bound.s0, List.length_map, Int.lt_irrefl, decide_false, cond_false]
theorem bigS_ge (cs : List Cu) : ∀ (l : List Cu) (i : Nat) (b : Int), b ≤ bigS cs l i b ∧ ∀ k c, l[k]? = some c → boundS c (cs.take (i + k)) ≤ bigS cs l i b
  | [], _, b => ⟨Int.le_refl _, fun k c h => by simp at h⟩
  | c :: l, i, b => by
    simp only [bigS]
    obtain ⟨h1, h2⟩ := bigS_ge cs l (i + 1) (maxI b (boundS c (cs.take i)))
    have hm : b ≤ maxI b (boundS c (cs.take i)) ∧ boundS c (cs.take i) ≤ maxI b (boundS c (cs.take i)) := by unfold maxI; split <;> omega
    refine ⟨by omega, fun k c' hk => ?_⟩
    cases k with
    | zero =>
      simp only [List.getElem?_cons_zero, Option.some.injEq] at hk
      subst hk
      simp only [Nat.add_zero]; omega
    | succ k =>
      rw [List.getElem?_cons_succ] at hk
      have := h2 k c' hk
      rw [show i + (k + 1) = i + 1 + k by omega]; exact this

/-! ### which header hits a rule first -/
def lookIS (n : Nat) (L : List Ru) (i most : Int) : List WideI × Bool × Int :=
  bif decide (i < 0) || decide (i ≥ (L.length : Int)) then (hd (fun _ => 0), false, 6) else match L[i.toNat]? with
    | some x => ansS (LookS n x.1 ((L.take i.toNat).map (·.1)) most)
    | none => (hd (fun _ => 0), false, 6)
theorem shadow_look (n : Nat) (hn' : 4000 ≤ n) (L : List Ru) (i most : Int) (hm : most ≤ 9223372036854775807) (hL : L.length * 768 ≤ 140737488355328) (hn : L.length < n) : shadow_Look n (L.map ru) i most = some (lookIS n L i most) := by
  unfold shadow_Look lookIS
  rw [List.length_map, ← hd_zero']
  by_cases h0 : i < 0
  · simp only [h0, decide_true, Bool.true_or, cond_true, show (true == false) = false from rfl, cond_false]
  · by_cases h1 : i ≥ (L.length : Int)
    · simp only [h0, h1, decide_true, decide_false, Bool.or_true, cond_true, beq_self_eq_true]
    · obtain ⟨k, rfl⟩ : ∃ k : Nat, i = k := ⟨i.toNat, by omega⟩
      obtain ⟨x, hx⟩ : ∃ x, L[k]? = some x := ⟨_, List.getElem?_eq_getElem (by omega)⟩
      have e1 : decide ((0 : Int) ≤ (k : Int)) = true := decide_eq_true (by omega)
      have e2 : decide ((k : Int) ≤ ((L.length : Nat) : Int)) = true := decide_eq_true (by omega)
      have hx' : ((L.map (·.1)).map cu)[k]? = some (cu x.1) := map_in (map_in hx)
      have hc := cover_look n hn' x.1 ((L.take k).map (·.1)) most hm (by rw [List.length_map, List.length_take]; omega) (by rw [List.length_map, List.length_take]; omega)
      simp only [h0, h1, decide_false, Bool.or_false, cond_false, beq_self_eq_true, cond_true, shadow_cubes n L (by omega) hn, obind_some, inRange_of hx, getD_nat hx', List.length_map, e1, e2, decide_true, Bool.and_self, sub_nat, ← List.map_take, hc, Int.toNat_natCast, hx]
theorem ref34_look (n : Nat) (hn' : 4000 ≤ n) (L : List Ru) (i most : Int) (hm : most ≤ 9223372036854775807) (hL : L.length * 768 ≤ 140737488355328) (hn : L.length < n) : ref34_Look n (L.map ru) i most = some (lookIS n L i most) := by
  unfold ref34_Look lookIS
  rw [List.length_map, ← hd_zero']
  by_cases h0 : i < 0
  · simp only [h0, decide_true, Bool.true_or, cond_true, show (true == false) = false from rfl, cond_false]
  · by_cases h1 : i ≥ (L.length : Int)
    · simp only [h0, h1, decide_true, decide_false, Bool.or_true, cond_true, beq_self_eq_true]
    · obtain ⟨k, rfl⟩ : ∃ k : Nat, i = k := ⟨i.toNat, by omega⟩
      obtain ⟨x, hx⟩ : ∃ x, L[k]? = some x := ⟨_, List.getElem?_eq_getElem (by omega)⟩
      have e1 : decide ((0 : Int) ≤ (k : Int)) = true := decide_eq_true (by omega)
      have e2 : decide ((k : Int) ≤ ((L.length : Nat) : Int)) = true := decide_eq_true (by omega)
      have hc := ref08_look_eq n hn' x.1 ((L.take k).map (·.1)) most hm (by rw [List.length_map, List.length_take]; omega) (by rw [List.length_map, List.length_take]; omega)
      have hcs := ref34_cubes n (L.take k) (by rw [List.length_take]; omega) (by rw [List.length_take]; omega)
      simp only [h0, h1, decide_false, Bool.or_false, cond_false, beq_self_eq_true, cond_true, inRange_of hx, rule_nat hx, e1, e2, Bool.and_self, sub_nat, ← List.map_take, hcs, obind_some, ru, hc, Int.toNat_natCast, hx]
end Go.Fn
