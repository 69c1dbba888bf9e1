/- Rules that are hit: the natives of dropping, and what is left of rules. -/
import Derived.Test.YtoknbagoippnhaaPShadow
set_option maxRecDepth 100000
namespace Go.Fn
open Go Go.Vi

theorem loopL_inv {α σ R : Type} {step : Nat → α → σ → Option R ⊕ σ} {fin : σ → Option R} (f : Nat → σ → Int → Option R) (xs : List α) (inv : Nat → σ → Prop)
    (hs : ∀ m s (i : Nat) x, xs[i]? = some x → inv i s → (f (m + 1) s (i : Int) = match step i x s with | .inl r => r | .inr s' => f m s' ((i : Int) + 1)) ∧ ∀ s', step i x s = .inr s' → inv (i + 1) s')
    (he : ∀ m s, inv xs.length s → f (m + 1) s (xs.length : Int) = fin s) : ∀ (ys : List α) (i m : Nat) (s : σ), xs.drop i = ys → i ≤ xs.length → ys.length < m → inv i s → f m s (i : Int) = loopL step fin i ys s
  | [], i, m + 1, s, hd, hi, _, hv => by
    have : xs.length ≤ i := List.drop_eq_nil_iff.1 hd
    have : i = xs.length := by omega
    subst this
    rw [he m s hv]; rfl
  | y :: ys, i, m + 1, s, hd, hi, hm, hv => by
    have hx : xs[i]? = some y := by
      have := congrArg (fun l => l[0]?) hd
      simpa [List.getElem?_drop] using this
    have hlt : i < xs.length := (List.getElem?_eq_some_iff.1 hx).1
    have hd' : xs.drop (i + 1) = ys := by
      have := congrArg (List.drop 1) hd
      simpa [List.drop_drop, Nat.add_comm] using this
    obtain ⟨h1, h2⟩ := hs m s i y hx hv
    rw [h1]
    unfold loopL
    cases hst : step i y s with
    | inl r => rfl
    | inr s' =>
      have := loopL_inv f xs inv hs he ys (i + 1) m s' hd' (by omega) (by simp at hm; omega) (h2 s' hst)
      simpa using this
theorem loopL_inv0 {α σ R : Type} {step : Nat → α → σ → Option R ⊕ σ} {fin : σ → Option R} (f : Nat → σ → Int → Option R) (xs : List α) (inv : Nat → σ → Prop)
    (hs : ∀ m s (i : Nat) x, xs[i]? = some x → inv i s → (f (m + 1) s (i : Int) = match step i x s with | .inl r => r | .inr s' => f m s' ((i : Int) + 1)) ∧ ∀ s', step i x s = .inr s' → inv (i + 1) s')
    (he : ∀ m s, inv xs.length s → f (m + 1) s (xs.length : Int) = fin s) {m : Nat} (hm : xs.length < m) (s : σ) (hv : inv 0 s) : f m s 0 = loopL step fin 0 xs s :=
  loopL_inv f xs inv hs he xs 0 m s rfl (by omega) hm hv

theorem set_self {α : Type} {xs : List α} {i : Nat} {x : α} (h : xs[i]? = some x) : xs.set i x = xs := by
  apply List.ext_getElem?
  intro j
  by_cases e : i = j
  · subst e
    rw [List.getElem?_set_self (len_of h), h]
  · rw [List.getElem?_set_ne e]
theorem loopL_skip {α R : Type} (fin : Unit → Option R) : ∀ (l : List α) (i : Nat), loopL (R := R) (fun _ _ (_ : Unit) => .inr ()) fin i l () = fin ()
  | [], _ => rfl
  | _ :: l, i => by simp only [loopL]; exact loopL_skip fin l (i + 1)

theorem shadow_copies_eq (n : Nat) (K : List Ru) (hK : K.length * 792 ≤ 140737488355328) (hA : ∀ x ∈ K, x.2.length * 792 ≤ 140737488355328) (hn : K.length < n) : shadow_copies n (K.map ru) = some (K.map ru) := by
  have hc : slices_Clone_Rule (K.map ru) = some (K.map ru) := by
    simp only [slices_Clone_Rule, List.length_map, List.length_nil, Nat.zero_add, decide_eq_true hK, cond_true]
  rw [show (some (K.map ru) : Option (List Rule)) = loopL (fun _ (_ : Ru) (_ : Unit) => .inr ()) (fun _ => some (K.map ru)) 0 K () from (loopL_skip (fun _ => some (K.map ru)) K 0).symm]
  simp only [shadow_copies, shadow_copies.s, hc, obind_some, List.length_map]
  refine loopL_start (fun m (_ : Unit) i => shadow_copies.l0 n ((K.length : Nat) : Int) m i (K.map ru)) K (fun m s i x hx => ?_) (fun m s => ?_) hn ()
  · have hcl : slices_Clone_Atom x.2 = some x.2 := by
      simp only [slices_Clone_Atom, List.length_nil, Nat.zero_add, decide_eq_true (hA x (List.mem_of_getElem? hx)), cond_true]
    have hset : (K.map ru).set i (cu x.1, x.2) = K.map ru := set_self (map_in hx)
    simp only [shadow_copies.l0, shadow_copies.s0, List.length_map, lt_of hx, decide_true, cond_true, inRange_of hx, Int.toNat_natCast, rule_nat hx, ru, hcl, obind_some, succ_of hx (by omega), hset]
  · simp only [shadow_copies.l0, shadow_copies.s0, Int.lt_irrefl, decide_false, cond_false]

/-! ### what is hit -/
def dropS (n : Nat) (most : Int) : List Ru → List Ru → List Ru × Int
  | [], kept => (kept, 0)
  | r :: l, kept => bif decide ((LookS n r.1 (kept.map (·.1)) most).2.2 < 0) then ([], 5) else bif (LookS n r.1 (kept.map (·.1)) most).2.1 then dropS n most l (kept ++ [r]) else dropS n most l kept
def dropStep (n : Nat) (most : Int) (_ : Nat) (r : Ru) (kept : List Ru) : Option (List Rule × Int) ⊕ List Ru :=
  bif decide ((LookS n r.1 (kept.map (·.1)) most).2.2 < 0) then .inl (some ([], 5)) else bif (LookS n r.1 (kept.map (·.1)) most).2.1 then .inr (kept ++ [r]) else .inr kept
theorem drop_steps (n : Nat) (most : Int) : ∀ (l kept : List Ru) (i : Nat), loopL (dropStep n most) (fun K => some (K.map ru, 0)) i l kept = some ((dropS n most l kept).1.map ru, (dropS n most l kept).2)
  | [], kept, i => rfl
  | r :: l, kept, i => by
    simp only [loopL, dropS, dropStep]
    cases decide ((LookS n r.1 (kept.map (·.1)) most).2.2 < 0) with
    | true => rfl
    | false =>
      cases (LookS n r.1 (kept.map (·.1)) most).2.1 with
      | true => exact drop_steps n most l (kept ++ [r]) (i + 1)
      | false => exact drop_steps n most l kept (i + 1)

def keptInv (L : List Ru) (i : Nat) (K : List Ru) : Prop := K.length ≤ i ∧ ∀ x ∈ K, x ∈ L
theorem keptInv_next {L : List Ru} {i : Nat} {K : List Ru} {x : Ru} (hx : L[i]? = some x) (h : keptInv L i K) {n : Nat} {most : Int} {j : Nat} {s' : List Ru} (hs : dropStep n most j x K = .inr s') : keptInv L (i + 1) s' := by
  unfold dropStep at hs
  cases h1 : decide ((LookS n x.1 (K.map (·.1)) most).2.2 < 0) with
  | true => rw [h1] at hs; cases hs
  | false =>
    rw [h1] at hs
    cases h2 : (LookS n x.1 (K.map (·.1)) most).2.1 with
    | true =>
      rw [h2] at hs
      cases hs
      refine ⟨by simp; exact h.1, fun y hy => ?_⟩
      rcases List.mem_append.1 hy with hy | hy
      · exact h.2 y hy
      · have : y = x := by simpa using hy
        rw [this]; exact List.mem_of_getElem? hx
    | false =>
      rw [h2] at hs
      cases hs
      exact ⟨Nat.le_succ_of_le h.1, h.2⟩
theorem shadow_drop (n : Nat) (hn' : 4000 ≤ n) (L : List Ru) (most : Int) (hm : most ≤ 9223372036854775807) (hL : L.length * 792 ≤ 140737488355328) (hA : ∀ x ∈ L, x.2.length * 792 ≤ 140737488355328) (hn : L.length < n) :
    shadow_Drop n (L.map ru) most = some ((dropS n most L []).1.map ru, (dropS n most L []).2) := by
  rw [← drop_steps n most L [] 0]
  simp only [shadow_Drop, shadow_Drop.s, List.length_map]
  refine loopL_inv0 (fun m (K : List Ru) i => shadow_Drop.l0 n most (L.map ru) ((L.length : Nat) : Int) m (K.map ru) ((K.map (·.1)).map cu) i) L (keptInv L) (fun m K i x hx hv => ⟨?_, fun s' hs => keptInv_next hx hv hs⟩) (fun m K hv => ?_) hn [] ⟨Nat.le_refl _, fun x hx => by cases hx⟩
  · have hi := len_of hx
    have hlen := hv.1
    have hc := cover_look n hn' x.1 (K.map (·.1)) most hm (by rw [List.length_map]; omega) (by rw [List.length_map]; omega)
    simp only [shadow_Drop.l0, shadow_Drop.s0, List.length_map, lt_of hx, decide_true, cond_true, inRange_of hx, Int.toNat_natCast, rule_nat hx, ru, hc, obind_some, dropStep, succ_of hx (by omega)]
    generalize LookS n x.1 (K.map (·.1)) most = t
    unfold ansS
    cases decide (t.2.2 < 0) with
    | true => rfl
    | false =>
      simp only [cond_false, bne_self_eq_false]
      cases t.2.1 with
      | true =>
        have h1 : decide ((K.length + 1) * 792 ≤ 140737488355328) = true := decide_eq_true (by omega)
        have h2 : decide ((K.length + 1) * 768 ≤ 140737488355328) = true := decide_eq_true (by omega)
        simp only [Bool.not_true, cond_false, cond_true, List.length_cons, List.length_nil, Nat.zero_add, h1, h2, List.map_append, List.map_cons, List.map_nil, ru]
      | false => simp only [Bool.not_false, cond_true, cond_false]
  · have hcp := shadow_copies_eq n K (by have := hv.1; omega) (fun x hx => hA x (hv.2 x hx)) (by have := hv.1; omega)
    simp only [shadow_Drop.l0, shadow_Drop.s0, Int.lt_irrefl, decide_false, cond_false, hcp, obind_some]
theorem ref34_drop (n : Nat) (hn' : 4000 ≤ n) (L : List Ru) (most : Int) (hm : most ≤ 9223372036854775807) (hL : L.length * 792 ≤ 140737488355328) (hn : L.length < n) :
    ref34_Drop n (L.map ru) most = some ((dropS n most L []).1.map ru, (dropS n most L []).2) := by
  rw [← drop_steps n most L [] 0]
  simp only [ref34_Drop, ref34_Drop.s]
  refine loopL_inv0 (fun m (K : List Ru) i => ref34_Drop.l0 n (L.map ru) most m (K.map ru) i) L (keptInv L) (fun m K i x hx hv => ⟨?_, fun s' hs => keptInv_next hx hv hs⟩) (fun m K hv => ?_) hn [] ⟨Nat.le_refl _, fun x hx => by cases hx⟩
  · have hi := len_of hx
    have hlen := hv.1
    have hc := ref08_look_eq n hn' x.1 (K.map (·.1)) most hm (by rw [List.length_map]; omega) (by rw [List.length_map]; omega)
    have hk := ref34_cubes n K (by omega) (by omega)
    simp only [ref34_Drop.l0, ref34_Drop.s0, List.length_map, lt_of hx, decide_true, cond_true, inRange_of hx, Int.toNat_natCast, rule_nat hx, hk, ru, hc, obind_some, dropStep, succ_of hx (by omega)]
    generalize LookS n x.1 (K.map (·.1)) most = t
    unfold ansS
    cases decide (t.2.2 < 0) with
    | true => rfl
    | false =>
      simp only [cond_false, bne_self_eq_false]
      cases t.2.1 with
      | true =>
        have h1 : decide ((K.length + 1) * 792 ≤ 140737488355328) = true := decide_eq_true (by omega)
        simp only [cond_false, cond_true, List.length_cons, List.length_nil, Nat.zero_add, h1, List.map_append, List.map_cons, List.map_nil, ru]
      | false => simp only [cond_true, cond_false]
  · simp only [ref34_Drop.l0, ref34_Drop.s0, List.length_map, Int.lt_irrefl, decide_false, cond_false]

/-- What is known of the rules that are kept. -/
theorem dropS_facts (n : Nat) (most : Int) : ∀ (l kept : List Ru), ((dropS n most l kept).2 = 5 ∧ (dropS n most l kept).1 = []) ∨ ((dropS n most l kept).2 = 0 ∧ (∃ more, (dropS n most l kept).1 = kept ++ more ∧ List.Sublist more l) ∧
    ∀ i x, kept.length ≤ i → (dropS n most l kept).1[i]? = some x → (LookS n x.1 (((dropS n most l kept).1.take i).map (·.1)) most).2.1 = true ∧ ¬ (LookS n x.1 (((dropS n most l kept).1.take i).map (·.1)) most).2.2 < 0)
  | [], kept => .inr ⟨rfl, ⟨[], by simp [dropS], List.Sublist.refl _⟩, fun i x h1 h2 => by
      have := len_of (L := kept) h2
      omega⟩
  | r :: l, kept => by
    unfold dropS
    by_cases h1 : (LookS n r.1 (kept.map (·.1)) most).2.2 < 0
    · rw [decide_eq_true h1]; exact .inl ⟨rfl, rfl⟩
    · rw [decide_eq_false h1]
      simp only [cond_false]
      cases h2 : (LookS n r.1 (kept.map (·.1)) most).2.1 with
      | true =>
        rw [cond_true]
        rcases dropS_facts n most l (kept ++ [r]) with h | ⟨k1, ⟨more, k2, k3⟩, k4⟩
        · exact .inl h
        · refine .inr ⟨k1, ⟨r :: more, by rw [k2]; simp, List.Sublist.cons_cons _ k3⟩, fun i x hi hx => ?_⟩
          by_cases e : i = kept.length
          · subst e
            rw [k2] at hx ⊢
            have : x = r := by simpa using hx.symm
            subst this
            have ht : (kept ++ [x] ++ more).take kept.length = kept := by simp
            rw [ht]
            exact ⟨h2, h1⟩
          · exact k4 i x (by simp; omega) hx
      | false =>
        rw [cond_false]
        rcases dropS_facts n most l kept with h | ⟨k1, ⟨more, k2, k3⟩, k4⟩
        · exact .inl h
        · exact .inr ⟨k1, ⟨more, k2, List.Sublist.cons _ k3⟩, k4⟩
/-- The first rule that a header hits is kept. -/
theorem dropS_find (n : Nat) (most : Int) (hm : most ≤ 9223372036854775807) (g : He) : ∀ (l kept : List Ru), kept.length + l.length < n → (dropS n most l kept).2 = 0 → (dropS n most l kept).1.find? (fun x => cHas x.1 g) = (kept ++ l).find? (fun x => cHas x.1 g)
  | [], kept, _, _ => by simp [dropS]
  | r :: l, kept, hn, h => by
    simp only [List.length_cons] at hn
    unfold dropS at h ⊢
    by_cases h1 : (LookS n r.1 (kept.map (·.1)) most).2.2 < 0
    · rw [decide_eq_true h1] at h; cases h
    · rw [decide_eq_false h1] at h ⊢
      simp only [cond_false] at h ⊢
      cases h2 : (LookS n r.1 (kept.map (·.1)) most).2.1 with
      | true =>
        rw [h2, cond_true] at h
        rw [cond_true, dropS_find n most hm g l (kept ++ [r]) (by simp; omega) h]; simp
      | false =>
        rw [h2, cond_false] at h
        rw [cond_false, dropS_find n most hm g l kept (by omega) h]
        have hr := lookS_right (decide (most ≥ 1099511627776)) n r.1 (kept.map (·.1)) (maxI most 0) (by rw [List.length_map]; omega) (most_range hm).1
        have hr2 := hr.2 h2 (by unfold LookS at h1; omega) g
        rw [List.find?_append, List.find?_append]
        cases hf : kept.find? (fun x => cHas x.1 g) with
        | some y => rfl
        | none =>
          rw [Option.none_or, Option.none_or]
          cases hg : cHas r.1 g with
          | false => rw [List.find?_cons_of_neg (by rw [hg]; simp)]
          | true =>
            obtain ⟨c, hc, hcg⟩ := hr2 hg
            obtain ⟨y, hy, rfl⟩ := List.mem_map.1 hc
            have := List.find?_eq_none.1 hf y hy
            rw [hcg] at this
            exact absurd rfl this
/-- With as many steps as are enough nothing is lacking. -/
theorem dropS_enough (n : Nat) (most : Int) (hm : most ≤ 100000) (cs : List Cu) (B : Int) (hB : B ≤ most) (hB' : B ≤ 16384) (h0 : 0 ≤ B) : ∀ (l kept : List Ru) (i : Nat), kept.length + l.length < n → cs.drop i = l.map (·.1) → List.Sublist (kept.map (·.1)) (cs.take i) → i ≤ cs.length →
    (∀ k c, cs[k]? = some c → boundS c (cs.take k) ≤ B) → (dropS n most l kept).2 = 0
  | [], kept, _, _, _, _, _, _ => rfl
  | r :: l, kept, i, hn, hd, hs, hi, hb => by
    simp only [List.length_cons] at hn
    have hr : cs[i]? = some r.1 := by
      have := congrArg (fun l => l[0]?) hd
      simpa [List.getElem?_drop] using this
    have hlt := len_of hr
    have hd' : cs.drop (i + 1) = l.map (·.1) := by
      have := congrArg (List.drop 1) hd
      simpa [List.drop_drop, Nat.add_comm] using this
    have htake : cs.take (i + 1) = cs.take i ++ [r.1] := by rw [List.take_add_one, hr]; rfl
    have hbd := hb i r.1 hr
    have hen := enough_bound r.1 (cs.take i) (by omega)
    have hsub : bndL (meetsS r.1 (kept.map (·.1))) ≤ bndL (meetsS r.1 (cs.take i)) := bndL_sub (List.Sublist.filter _ hs)
    have hmm : maxI most 0 = most := by unfold maxI; split <;> omega
    have hnf : decide (most ≥ 1099511627776) = false := decide_eq_false (by omega)
    obtain ⟨_, _, k3, _⟩ := lookS_enough n r.1 (kept.map (·.1)) most most (by rw [List.length_map]; omega) (by omega) (by omega)
    have hge : ¬ (LookS n r.1 (kept.map (·.1)) most).2.2 < 0 := by
      unfold LookS
      rw [hmm, hnf]
      omega
    unfold dropS
    rw [decide_eq_false hge]
    simp only [cond_false]
    cases (LookS n r.1 (kept.map (·.1)) most).2.1 with
    | true =>
      rw [cond_true]
      refine dropS_enough n most hm cs B hB hB' h0 l (kept ++ [r]) (i + 1) (by simp; omega) hd' ?_ (by omega) hb
      rw [htake, List.map_append]
      exact List.Sublist.append hs (List.Sublist.refl _)
    | false =>
      rw [cond_false]
      refine dropS_enough n most hm cs B hB hB' h0 l kept (i + 1) (by omega) hd' ?_ (by omega) hb
      rw [htake]
      exact hs.trans (List.sublist_append_left _ _)
end Go.Fn
