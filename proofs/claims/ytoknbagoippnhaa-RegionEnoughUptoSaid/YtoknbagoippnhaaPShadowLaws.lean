/- The plain laws of chapter 34. -/
import Derived.Test.YtoknbagoippnhaaPShadow2
set_option maxRecDepth 100000
namespace Go.Fn
open Go Go.Vi

theorem rules_wf : ∀ {a : List Rule}, (∀ x ∈ a, Wf TRule x) → ∃ L : List Ru, a = L.map ru
  | [], _ => ⟨[], rfl⟩
  | x :: a, h => by
    obtain ⟨h1, h2⟩ := h x (by simp)
    obtain ⟨c, hc⟩ := cu_wf h1
    obtain ⟨L, hL⟩ := rules_wf (a := a) fun y hy => h y (List.mem_cons_of_mem _ hy)
    refine ⟨(c, x.2) :: L, ?_⟩
    rw [hL, List.map_cons]
    show x :: _ = (cu c, x.2) :: _
    rw [← hc]
theorem rule_list {a : List Rule} (h : Wf (.slc TRule) a) : ∃ L : List Ru, a = L.map ru ∧ L.length * 792 ≤ 140737488355328 := by
  obtain ⟨_, h2, h3⟩ := h
  obtain ⟨L, hL⟩ := rules_wf h3
  have h4 : a.length * 792 ≤ 140737488351232 := h2
  rw [hL, List.length_map] at h4
  exact ⟨L, hL, Nat.le_trans h4 (by decide)⟩
theorem u16_range {n : Int} (h : (Lit.int .u16 n).wf = true) : 0 ≤ n ∧ n ≤ 65535 := by
  have h1 : IntKind.min .u16 = 0 := by decide
  have h2 : IntKind.max .u16 = 65535 := by decide
  simpa only [Lit.wf, Bool.and_eq_true, decide_eq_true_eq, h1, h2] using h

theorem shadow_awake (k : Nat) : law34_awake (k + 140) = some true := by kernel_rfl

theorem few_rules (n : Nat) (L : List Ru) (many : Int) (hL : L.length ≤ 4611686018427387904) (hn : L.length < n) : ∃ b, plain_Rules n (L.map ru) many = some b ∧ (b = true → ((L.length : Nat) : Int) ≤ many ∧ ∀ x ∈ L, x.2.length ≤ 12) := by
  unfold plain_Rules
  rw [List.length_map]
  by_cases h : ((L.length : Nat) : Int) ≤ many
  · have hi := index_rules n (fun (x4 : Rule) => some (plain_Rules_1_c x4)) (fun x => plain_Rules_1_c (ru x)) (fun x => rfl) L hL hn
    have hd : decide (((L.length : Nat) : Int) ≤ many) = true := decide_eq_true h
    simp only [hd, beq_self_eq_true, cond_true, slices_ContainsFunc_Rule, hi, obind_some]
    refine ⟨_, rfl, fun hb => ⟨h, fun x hx => ?_⟩⟩
    obtain ⟨_, h2, _⟩ := idxF_ge (fun x => plain_Rules_1_c (ru x)) L 0
    have hneg : idxF (fun x => plain_Rules_1_c (ru x)) L 0 < 0 := by
      have : decide (idxF (fun x => plain_Rules_1_c (ru x)) L 0 ≥ 0) = false := by simpa using hb
      have := of_decide_eq_false this
      omega
    have h3 := List.find?_eq_none.1 (h2.1 hneg) x hx
    have h4 : (!decide (((x.2.length : Nat) : Int) ≤ 12)) = false := by
      have : plain_Rules_1_c (ru x) = false := by simpa using h3
      exact this
    have h5 : decide (((x.2.length : Nat) : Int) ≤ 12) = true := by simpa using h4
    have := of_decide_eq_true h5
    omega
  · simp only [h, decide_false, show (false == true) = false from rfl, cond_false]
    exact ⟨false, rfl, fun h => by cases h⟩
theorem light_rules (n : Nat) (hn' : 4000 ≤ n) (L : List Ru) (most : Int) (hL : L.length * 792 ≤ 140737488355328) (hn : L.length < n) : ∃ b, law34_light n (L.map ru) most = some b ∧ (b = true → L.length ≤ 12 ∧ ∀ x ∈ L, x.2.length ≤ 12) := by
  obtain ⟨b, hb, hf⟩ := few_rules n L 12 (by omega) hn
  unfold law34_light
  rw [hb, obind_some]
  cases b with
  | false => exact ⟨false, rfl, fun h => by cases h⟩
  | true =>
    obtain ⟨h1, h2⟩ := hf rfl
    simp only [beq_self_eq_true, cond_true]
    cases hm : decide (most ≤ 4096) with
    | true => exact ⟨true, rfl, fun _ => ⟨by omega, h2⟩⟩
    | false =>
      simp only [beq_self_eq_true, cond_true, ref34_bound n (by omega) L (by omega) hn, obind_some]
      exact ⟨_, rfl, fun _ => ⟨by omega, h2⟩⟩

theorem atoms_same (n : Nat) (l : List Atom) (hn : l.length < n) (hL : l.length ≤ 4611686018427387904) : slices_Equal_Atom n l l = some true := by
  simp only [slices_Equal_Atom, slices_Equal_Atom.s, bne_self_eq_false, cond_false]
  rw [show (some true : Option Bool) = loopL (fun _ (_ : Atom) (_ : Unit) => .inr ()) (fun _ => some true) 0 l () from (loopL_skip (fun _ => some true) l 0).symm]
  refine loopL_start (fun m (_ : Unit) i => slices_Equal_Atom.l0 n l l ((l.length : Nat) : Int) m i) l (fun m s i x hx => ?_) (fun m s => ?_) hn ()
  · have hr : beqT TAtom x x = true := beqT_refl TAtom (by decide) x
    simp only [slices_Equal_Atom.l0, slices_Equal_Atom.s0, lt_of hx, decide_true, cond_true, inRange_of hx, Int.toNat_natCast, getD_nat hx, hr, Bool.not_true, cond_false, succ_of hx (by omega)]
  · simp only [slices_Equal_Atom.l0, slices_Equal_Atom.s0, Int.lt_irrefl, decide_false, cond_false]
theorem rule_same (n : Nat) (x : Ru) (hn : x.2.length < n) (hL : x.2.length ≤ 4611686018427387904) : law34_same_c n (ru x) (ru x) = some true := by
  simp only [law34_same_c, ru, atoms_same n x.2 hn hL, obind_some]
  rw [show beqT TCube (cu x.1) (cu x.1) = true from cu_self x.1]; rfl
theorem rule_same' (n : Nat) (x : Ru) (hn : x.2.length < n) (hL : x.2.length ≤ 4611686018427387904) : law34_same n (ru x) (ru x) = some true := by
  simp only [law34_same, ru, atoms_same n x.2 hn hL, obind_some]
  rw [show beqT TCube (cu x.1) (cu x.1) = true from cu_self x.1]; rfl
theorem rules_same (n : Nat) (K : List Ru) (hn : K.length < n) (hK : K.length ≤ 4611686018427387904) (hA : ∀ x ∈ K, x.2.length < n ∧ x.2.length ≤ 4611686018427387904) :
    slices_EqualFunc_Rule n (K.map ru) (K.map ru) (fun (x168 : (Rule × Rule)) => law34_same_c n x168.1 x168.2) = some true := by
  simp only [slices_EqualFunc_Rule, slices_EqualFunc_Rule.s, bne_self_eq_false, cond_false]
  rw [show (some true : Option Bool) = loopL (fun _ (_ : Ru) (_ : Unit) => .inr ()) (fun _ => some true) 0 K () from (loopL_skip (fun _ => some true) K 0).symm, List.length_map]
  refine loopL_start (fun m (_ : Unit) i => slices_EqualFunc_Rule.l0 n (K.map ru) (fun (x168 : (Rule × Rule)) => law34_same_c n x168.1 x168.2) (K.map ru) ((K.length : Nat) : Int) m i) K (fun m s i x hx => ?_) (fun m s => ?_) hn ()
  · obtain ⟨h1, h2⟩ := hA x (List.mem_of_getElem? hx)
    simp only [slices_EqualFunc_Rule.l0, slices_EqualFunc_Rule.s0, List.length_map, lt_of hx, decide_true, cond_true, inRange_of hx, Int.toNat_natCast, rule_nat hx, rule_same n x h1 h2, obind_some, Bool.not_true, cond_false, succ_of hx (by omega)]
  · simp only [slices_EqualFunc_Rule.l0, slices_EqualFunc_Rule.s0, Int.lt_irrefl, decide_false, cond_false]
theorem cubes_same (n : Nat) (K : List Cu) (hn : K.length < n) (hK : K.length ≤ 4611686018427387904) : slices_Equal_Cube n (K.map cu) (K.map cu) = some true := by
  simp only [slices_Equal_Cube, slices_Equal_Cube.s, bne_self_eq_false, cond_false]
  rw [show (some true : Option Bool) = loopL (fun _ (_ : Cu) (_ : Unit) => .inr ()) (fun _ => some true) 0 K () from (loopL_skip (fun _ => some true) K 0).symm, List.length_map]
  refine loopL_start (fun m (_ : Unit) i => slices_Equal_Cube.l0 n (K.map cu) (K.map cu) ((K.length : Nat) : Int) m i) K (fun m s i x hx => ?_) (fun m s => ?_) hn ()
  · have hr : beqT TCube (cu x) (cu x) = true := cu_self x
    simp only [slices_Equal_Cube.l0, slices_Equal_Cube.s0, List.length_map, lt_of hx, decide_true, cond_true, inRange_of hx, Int.toNat_natCast, getD_nat (map_in (f := cu) hx), hr, Bool.not_true, cond_false, succ_of hx (by omega)]
  · simp only [slices_Equal_Cube.l0, slices_Equal_Cube.s0, Int.lt_irrefl, decide_false, cond_false]

/-! ### the laws -/
theorem lookIS_self (n : Nat) (L : List Ru) (i most : Int) : beqT THeader (lookIS n L i most).1 (lookIS n L i most).1 = true := beqT_refl THeader (by decide) _
theorem shadow_looks (L : List Ru) (i most : Int) (hm : most ≤ 9223372036854775807) (hL : L.length * 792 ≤ 140737488355328) : law34_ShadowLooks ((L.length + 4000) + 140) (L.map ru) i most = some true := by
  obtain ⟨b, hb, _⟩ := light_rules ((L.length + 4000) + 140) (by omega) L most hL (by omega)
  have e1 := shadow_look ((L.length + 4000) + 140) (by omega) L i most hm (by omega) (by omega)
  have e2 := ref34_look ((L.length + 4000) + 140) (by omega) L i most hm (by omega) (by omega)
  simp only [law34_ShadowLooks, hb, obind_some, shadow_awake]
  cases b with
  | false => rfl
  | true => simp only [Bool.not_true, cond_false, e1, e2, obind_some, lookIS_self, beq_self_eq_true, cond_true]
theorem pureShadowLooks : ∀ x : pdens (law34_ShadowLooks.τs.map PTy.data), WfP law34_ShadowLooks.τs x → ∃ n, law34_ShadowLooks.g n x = some true := by
  rintro ⟨a, i, most⟩ ⟨ha, hi, hm⟩
  obtain ⟨L, rfl, hL⟩ := rule_list ha
  exact ⟨(L.length + 4000) + 140, shadow_looks L i most (wf_i64.1 hm).2 hL⟩

theorem shadow_drops (L : List Ru) (most : Int) (hm : most ≤ 9223372036854775807) (hL : L.length * 792 ≤ 140737488355328) : law34_ShadowDrops ((L.length + 4000) + 140) (L.map ru) most = some true := by
  obtain ⟨b, hb, h12⟩ := light_rules ((L.length + 4000) + 140) (by omega) L most hL (by omega)
  simp only [law34_ShadowDrops, hb, obind_some, shadow_awake]
  cases b with
  | false => rfl
  | true =>
    obtain ⟨k1, k2⟩ := h12 rfl
    have hA : ∀ x ∈ L, x.2.length * 792 ≤ 140737488355328 := fun x hx => by have := k2 x hx; omega
    have e1 := shadow_drop ((L.length + 4000) + 140) (by omega) L most hm hL hA (by omega)
    have e2 := ref34_drop ((L.length + 4000) + 140) (by omega) L most hm hL (by omega)
    have e3 := shadow_bound ((L.length + 4000) + 140) (by omega) L (by omega) (by omega)
    have e4 := ref34_bound ((L.length + 4000) + 140) (by omega) L (by omega) (by omega)
    have e5 := shadow_cubes ((L.length + 4000) + 140) L (by omega) (by omega)
    have e6 := ref34_cubes ((L.length + 4000) + 140) L (by omega) (by omega)
    have e7 := cubes_same ((L.length + 4000) + 140) (L.map (·.1)) (by rw [List.length_map]; omega) (by rw [List.length_map]; omega)
    have hsub : ∀ x ∈ (dropS ((L.length + 4000) + 140) most L []).1, x ∈ L := by
      rcases dropS_facts ((L.length + 4000) + 140) most L [] with h | ⟨_, ⟨more, h1, h2⟩, _⟩
      · intro x hx; rw [h.2] at hx; cases hx
      · intro x hx; rw [h1] at hx; exact h2.subset (by simpa using hx)
    have hlen : (dropS ((L.length + 4000) + 140) most L []).1.length ≤ L.length := by
      rcases dropS_facts ((L.length + 4000) + 140) most L [] with h | ⟨_, ⟨more, h1, h2⟩, _⟩
      · rw [h.2]; simp
      · rw [h1]; simpa using h2.length_le
    have e8 := rules_same ((L.length + 4000) + 140) (dropS ((L.length + 4000) + 140) most L []).1 (by omega) (by omega) (fun x hx => by have := k2 x (hsub x hx); omega)
    simp only [Bool.not_true, cond_false, e1, e2, e3, e4, e5, e6, e7, e8, obind_some, beq_self_eq_true, cond_true]

theorem pureShadowDrops : ∀ x : pdens (law34_ShadowDrops.τs.map PTy.data), WfP law34_ShadowDrops.τs x → ∃ n, law34_ShadowDrops.g n x = some true := by
  rintro ⟨a, most⟩ ⟨ha, hm⟩
  obtain ⟨L, rfl, hL⟩ := rule_list ha
  exact ⟨(L.length + 4000) + 140, shadow_drops L most (wf_i64.1 hm).2 hL⟩

theorem pureShadowEnough : ∀ x : pdens (law34_ShadowEnough.τs.map PTy.data), WfP law34_ShadowEnough.τs x → ∃ n, law34_ShadowEnough.g n x = some true := by
  have key : ∀ (L : List Ru) (more : Int), L.length * 792 ≤ 140737488355328 → 0 ≤ more → more ≤ 65535 → law34_ShadowEnough ((L.length + 4000) + 140) (L.map ru) more = some true := by
    intro L more hL h0 h1
    obtain ⟨b, hb, h12⟩ := few_rules ((L.length + 4000) + 140) L 12 (by omega) (by omega)
    have e3 := shadow_bound ((L.length + 4000) + 140) (by omega) L (by omega) (by omega)
    obtain ⟨g1, g2⟩ := bigS_ge (L.map (·.1)) (L.map (·.1)) 0 0
    simp only [law34_ShadowEnough, hb, e3, obind_some, shadow_awake]
    cases b with
    | false => rfl
    | true =>
      generalize bigS (L.map (·.1)) (L.map (·.1)) 0 0 = B at g1 g2
      simp only [Bool.not_true, beq_self_eq_true, cond_true]
      by_cases hB : B > 4096
      · rw [decide_eq_true hB, cond_true]
      · rw [decide_eq_false hB, cond_false]
        have w1 : IntKind.wrap .i64 more = more := w64 (by omega) (by omega)
        have w2 : IntKind.wrap .i64 (B + more) = B + more := w64 (by omega) (by omega)
        have hA : ∀ x ∈ L, x.2.length * 792 ≤ 140737488355328 := fun x hx => by have := (h12 rfl).2 x hx; omega
        have e1 := shadow_drop ((L.length + 4000) + 140) (by omega) L (B + more) (by omega) hL hA (by omega)
        have e2 := dropS_enough ((L.length + 4000) + 140) (B + more) (by omega) (L.map (·.1)) B (by omega) (by omega) (by omega) L [] 0 (by simp only [List.length_nil]; omega) rfl (by simp) (Nat.zero_le _) (fun k c hk => by
          have := g2 k c hk
          rwa [Nat.zero_add] at this)
        simp only [w1, w2, e1, obind_some, e2, beq_self_eq_true, cond_true]
  rintro ⟨a, more⟩ ⟨ha, hm⟩
  obtain ⟨L, rfl, hL⟩ := rule_list ha
  have hm := u16_range hm
  exact ⟨(L.length + 4000) + 140, key L more hL hm.1 hm.2⟩

theorem idxF_at {α : Type} (q : α → Bool) : ∀ (l : List α) (i j : Nat) (x : α), l[j]? = some x → q x = true → (∀ y ∈ l.take j, q y = false) → idxF q l i = ((i + j : Nat) : Int)
  | [], _, _, _, h, _, _ => by simp at h
  | y :: l, i, 0, x, h, hq, _ => by
    simp only [List.getElem?_cons_zero, Option.some.injEq] at h
    subst h
    simp only [idxF, hq, cond_true, Nat.add_zero]
  | y :: l, i, j + 1, x, h, hq, hf => by
    rw [List.getElem?_cons_succ] at h
    have hy := hf y (by simp)
    simp only [idxF, hy, cond_false]
    rw [idxF_at q l (i + 1) j x h hq (fun z hz => hf z (by simp [hz]))]
    omega
theorem first_eq (n : Nat) (hn' : 24 < n) (K : List Ru) (g : He) (hK : K.length ≤ 4611686018427387904) (hn : K.length < n) : law34_first n (K.map ru) (hd g) = some (idxF (fun x => cHas x.1 g) K 0) := by
  simp only [law34_first, index_rules n (fun (x145 : Rule) => law34_first_1 n x145 (hd g)) (fun x => cHas x.1 g) (fun x => by simp only [law34_first_1, ru, cube_has n hn', obind_some]) K hK hn, obind_some]

theorem LookS_right (n : Nat) (c : Cu) (l : List Cu) (most : Int) (hm : most ≤ 9223372036854775807) (hl : l.length < n) : Right c l (LookS n c l most) := lookS_right (decide (most ≥ 1099511627776)) n c l (maxI most 0) hl (most_range hm).1
theorem shadow_hit (N : Nat) (hN : 4000 ≤ N) (L : List Ru) (hn : L.length < N) (haw : law34_awake N = some true) (most : Int) (hm : most ≤ 9223372036854775807) (hL : L.length * 792 ≤ 140737488355328) : law34_ShadowHit N (L.map ru) most = some true := by
  obtain ⟨b, hb, h12⟩ := light_rules N (by omega) L most hL (by omega)
  simp only [law34_ShadowHit, law34_ShadowHit.s, hb, obind_some, haw]
  cases b with
  | false => rfl
  | true =>
    have hA : ∀ x ∈ L, x.2.length * 792 ≤ 140737488355328 := fun x hx => by have := (h12 rfl).2 x hx; omega
    have e1 := shadow_drop N (by omega) L most hm hL hA (by omega)
    simp only [Bool.not_true, cond_false, e1, obind_some]
    have hf := dropS_facts N most L []
    generalize dropS N most L [] = d at hf
    obtain ⟨K, e⟩ := d
    rcases hf with ⟨h1, h2⟩ | ⟨h1, ⟨more, h2, h3⟩, h4⟩
    · simp only at h1 h2
      subst h1; subst h2
      rfl
    · simp only at h1 h2 h4
      subst h1
      have hlen : K.length ≤ L.length := by rw [h2]; simpa using h3.length_le
      simp only [bne_self_eq_false, cond_false, List.length_map]
      rw [show (some true : Option Bool) = loopL (fun _ (_ : Ru) (_ : Unit) => .inr ()) (fun _ => some true) 0 K () from (loopL_skip (fun _ => some true) K 0).symm]
      refine loopL_start (fun m (_ : Unit) i => law34_ShadowHit.l0 N (L.map ru) most (K.map ru) ((K.length : Nat) : Int) m i) K (fun m s i x hx => ?_) (fun m s => ?_) (by omega) ()
      · obtain ⟨g1, g2⟩ := h4 i x (by simp) hx
        have hi := len_of hx
        have e2 := shadow_look N (by omega) K i most hm (by omega) (by omega)
        have hr := (LookS_right N x.1 ((K.take i).map (fun y : Ru => y.1)) most hm (by rw [List.length_map, List.length_take]; omega)).1 g1
        have e3 : lookIS N K i most = ansS (LookS N x.1 ((K.take i).map (fun y : Ru => y.1)) most) := by
          unfold lookIS
          rw [decide_eq_false (show ¬ (i : Int) < 0 by omega), decide_eq_false (show ¬ (i : Int) ≥ (K.length : Int) by omega)]
          simp only [Bool.or_self, cond_false, Int.toNat_natCast, hx]
        revert g1 g2 hr e3
        generalize LookS N x.1 ((K.take i).map (fun y : Ru => y.1)) most = w
        obtain ⟨h, ok, left⟩ := w
        intro g1 g2 hr e3
        simp only at g1 g2
        obtain ⟨hr1, hr2⟩ := hr
        simp only at hr1 hr2
        subst g1
        have e3' : lookIS N K i most = (hd h, true, 0) := by
          rw [e3]; unfold ansS; rw [decide_eq_false g2]; rfl
        have e4 := first_eq N (by omega) K h (by omega) (by omega)
        rw [idxF_at (fun y : Ru => cHas y.1 h) K 0 i x hx hr1 (fun y hy => hr2 y.1 (List.mem_map.2 ⟨y, hy, rfl⟩)), Nat.zero_add] at e4
        simp only [law34_ShadowHit.l0, law34_ShadowHit.s0, lt_of hx, decide_true, cond_true, e2, e3', e4, obind_some, Bool.not_true, beq_self_eq_true, bne_self_eq_false, cond_false, succ_of hx (by omega)]
      · have hd : decide (((K.length : Nat) : Int) ≤ ((L.length : Nat) : Int)) = true := decide_eq_true (by omega)
        simp only [law34_ShadowHit.l0, law34_ShadowHit.s0, List.length_map, Int.lt_irrefl, decide_false, cond_false, hd, beq_self_eq_true, cond_true, haw, obind_some]

theorem pureShadowHit : ∀ x : pdens (law34_ShadowHit.τs.map PTy.data), WfP law34_ShadowHit.τs x → ∃ n, law34_ShadowHit.g n x = some true := by
  rintro ⟨a, most⟩ ⟨ha, hm⟩
  obtain ⟨L, rfl, hL⟩ := rule_list ha
  exact ⟨(L.length + 4000) + 140, shadow_hit ((L.length + 4000) + 140) (by omega) L (by omega) (shadow_awake (L.length + 4000)) most (wf_i64.1 hm).2 hL⟩

theorem shadow_same (L : List Ru) (most : Int) (g : He) (hm : most ≤ 9223372036854775807) (hL : L.length * 792 ≤ 140737488355328) : law34_ShadowSame ((L.length + 4000) + 140) (L.map ru) most (hd g) = some true := by
  obtain ⟨b, hb, h12⟩ := light_rules ((L.length + 4000) + 140) (by omega) L most hL (by omega)
  simp only [law34_ShadowSame, hb, obind_some, shadow_awake]
  cases b with
  | false => rfl
  | true =>
    obtain ⟨_, k2⟩ := h12 rfl
    have hA : ∀ x ∈ L, x.2.length * 792 ≤ 140737488355328 := fun x hx => by have := k2 x hx; omega
    have e1 := shadow_drop ((L.length + 4000) + 140) (by omega) L most hm hL hA (by omega)
    simp only [Bool.not_true, cond_false, e1, obind_some]
    have hf := dropS_facts ((L.length + 4000) + 140) most L []
    have hfind := dropS_find ((L.length + 4000) + 140) most hm g L [] (by simp only [List.length_nil]; omega)
    generalize dropS ((L.length + 4000) + 140) most L [] = d at hf hfind
    obtain ⟨K, e⟩ := d
    rcases hf with ⟨h1, h2⟩ | ⟨h1, ⟨more, h2, h3⟩, h4⟩
    · simp only at h1 h2
      subst h1; subst h2
      rfl
    · simp only at h1 h2 h4 hfind
      subst h1
      have hlen : K.length ≤ L.length := by rw [h2]; simpa using h3.length_le
      have hfind := hfind rfl
      rw [List.nil_append] at hfind
      have f1 := first_eq ((L.length + 4000) + 140) (by omega) L g (by omega) (by omega)
      have f2 := first_eq ((L.length + 4000) + 140) (by omega) K g (by omega) (by omega)
      obtain ⟨p1, p2, p3⟩ := idxF_ge (fun x : Ru => cHas x.1 g) L 0
      obtain ⟨q1, q2, q3⟩ := idxF_ge (fun x : Ru => cHas x.1 g) K 0
      simp only [bne_self_eq_false, cond_false, f1, f2, obind_some, List.length_map]
      generalize idxF (fun x : Ru => cHas x.1 g) L 0 = i at p1 p2 p3
      generalize idxF (fun x : Ru => cHas x.1 g) K 0 = j at q1 q2 q3
      by_cases hi : i < 0
      · have hj : j < 0 := q2.2 (by rw [hfind]; exact p2.1 hi)
        have e2 : i = j := by omega
        subst e2
        simp only [hi, decide_true, show (true == false) = false from rfl, cond_false, beq_self_eq_true, cond_true]
      · have hj : ¬ j < 0 := fun hj => hi (p2.2 (by rw [← hfind]; exact q2.1 hj))
        obtain ⟨r1, x, r2, r3⟩ := p3 (by omega)
        obtain ⟨s1, y, s2, s3⟩ := q3 (by omega)
        have hxy : x = y := by rw [hfind, r3] at s3; exact Option.some.inj s3
        subst hxy
        obtain ⟨i', rfl⟩ : ∃ k : Nat, i = k := ⟨i.toNat, by omega⟩
        obtain ⟨j', rfl⟩ : ∃ k : Nat, j = k := ⟨j.toNat, by omega⟩
        have r2 : L[i']? = some x := by simpa using r2
        have s2 : K[j']? = some x := by simpa using s2
        have hx := k2 x (List.mem_of_getElem? r2)
        have e3 := rule_same' ((L.length + 4000) + 140) x (by omega) (by omega)
        simp only [hi, hj, decide_false, beq_self_eq_true, cond_true, cond_false, inRange_of r2, inRange_of s2, Int.toNat_natCast, rule_nat r2, rule_nat s2, e3, obind_some]
theorem pureShadowSame : ∀ x : pdens (law34_ShadowSame.τs.map PTy.data), WfP law34_ShadowSame.τs x → ∃ n, law34_ShadowSame.g n x = some true := by
  rintro ⟨a, most, g⟩ ⟨ha, hm, hg⟩
  obtain ⟨L, rfl, hL⟩ := rule_list ha
  obtain ⟨g, rfl⟩ := hd_wf hg
  exact ⟨(L.length + 4000) + 140, shadow_same L most g (wf_i64.1 hm).2 hL⟩
end Go.Fn
