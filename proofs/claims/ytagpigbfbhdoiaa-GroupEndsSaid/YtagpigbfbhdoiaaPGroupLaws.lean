/- The laws of the groups (chapter 24): GroupDoes, GroupTells. -/
import Derived.Test.YtagpigbfbhdoiaaW
import Derived.Test.YtagpigbfbhdoiaaPGroup6
set_option maxRecDepth 100000
namespace Go.Fn
open Go Go.Vi
namespace P24

theorem awake24 : law24_awake 300 = some true := by kernel_rfl
theorem loop_inv {α σ R : Type} (f : Nat → σ → Int → Option R) (xs : List α) (I : σ → Prop) (r : Option R)
    (hs : ∀ m s (i : Nat) x, xs[i]? = some x → I s → f (m + 1) s (i : Int) = r ∨ ∃ s', I s' ∧ f (m + 1) s (i : Int) = f m s' ((i : Int) + 1))
    (he : ∀ m s, I s → f (m + 1) s (xs.length : Int) = r) : ∀ (ys : List α) (i m : Nat) (s : σ), xs.drop i = ys → i ≤ xs.length → ys.length < m → I s → f m s (i : Int) = r
  | [], i, m + 1, s, hd, hi, _, hI => by
    have : xs.length ≤ i := List.drop_eq_nil_iff.1 hd
    have : i = xs.length := by omega
    subst this
    exact he m s hI
  | y :: ys, i, m + 1, s, hd, hi, hm, hI => by
    have hx : xs[i]? = some y := by
      have := congrArg (fun l => l[0]?) hd
      simpa [List.getElem?_drop] using this
    have hlt : i < xs.length := (List.getElem?_eq_some_iff.1 hx).1
    have hd' : xs.drop (i + 1) = ys := by
      have := congrArg (List.drop 1) hd
      simpa [List.drop_drop, Nat.add_comm] using this
    rcases hs m s i y hx hI with h | ⟨s', hI', h⟩
    · exact h
    · rw [h]
      have := loop_inv f xs I r hs he ys (i + 1) m s' hd' (by omega) (by simp at hm; omega) hI'
      simpa using this
def Inv (l : List Group) : Prop := l.length ≤ 10 ∧ ∀ g ∈ l, Bs g.2.2
theorem inv_nil : Inv [] := ⟨by simp, fun g h => by cases h⟩
theorem drop_inv (l : List Group) (id : Int) (h : Inv l) : Inv (dropF l id).1 := by
  unfold dropF
  cases (id == 4294967292) with
  | true => exact inv_nil
  | false =>
    cases decide (id < 0) with
    | true => exact inv_nil
    | false =>
      cases decide (id > 4294967040) with
      | true => exact inv_nil
      | false =>
        cases decide (pl l id ≥ 0) && namedB l id with
        | true => exact inv_nil
        | false => exact ⟨Nat.le_trans (List.length_filter_le _ _) h.1, fun g hg => h.2 g ((List.mem_filter.1 hg).1)⟩
theorem put_inv (l : List Group) (m : GroupMod) (h : Inv l) (hm : Bs m.2.2.2) (hl : pl l m.2.2.1 < 0 → l.length < 8) : Inv (putF l m).1 := by
  have ho : Inv (outF l m) := ⟨by
    by_cases h0 : pl l m.2.2.1 < 0
    · have := out_len l m; have := hl h0; omega
    · unfold outF; rw [decide_eq_false h0, cond_false, List.length_set]; exact h.1, out_bs l m h.2 hm⟩
  unfold putF
  cases (ck m.2.1 m.2.2.2).1 with
  | true => exact inv_nil
  | false =>
    cases thereB (outF l m) m.2.2.2 with
    | false => exact inv_nil
    | true =>
      cases loopB (outF l m) with
      | true => exact inv_nil
      | false => exact ho
theorem do_inv (l : List Group) (m : GroupMod) (h : Inv l) (hm : Bs m.2.2.2) : Inv (doF l m).1 := by
  unfold doF
  cases (m.1 == 2) with
  | true => exact drop_inv l _ h
  | false =>
    cases !(m.1 == 0) && !(m.1 == 1) with
    | true => exact inv_nil
    | false =>
      cases decide (m.2.2.1 < 0) with
      | true => exact inv_nil
      | false =>
        cases decide (m.2.2.1 > 4294967040) with
        | true => exact inv_nil
        | false =>
          cases (m.1 == 1) with
          | true =>
            by_cases h0 : pl l m.2.2.1 < 0
            · rw [decide_eq_true h0]; exact inv_nil
            · rw [decide_eq_false h0]; exact put_inv l m h hm (fun h => absurd h h0)
          | false =>
            cases decide (pl l m.2.2.1 ≥ 0) with
            | true => exact inv_nil
            | false =>
              by_cases h8 : ((List.length l : Nat) : Int) ≥ 8
              · rw [decide_eq_true h8]; exact inv_nil
              · rw [decide_eq_false h8]; exact put_inv l m h hm (fun _ => by omega)
theorem long_mods (n : Nat) (mods : List GroupMod) (hL : mods.length ≤ 20) (hn : 100 ≤ n) : slices_ContainsFunc_GroupMod n mods (fun x => law24_long_c n x) = some (mods.any fun m => !bsB m.2.2.2) :=
  contains_GroupMod n mods _ _ (fun x _ => by unfold law24_long_c; rw [buckets n _ hn, obind_some]) (by omega) (by omega)
theorem long_no {mods : List GroupMod} (h : (mods.any fun m => !bsB m.2.2.2) = false) : ∀ m ∈ mods, Bs m.2.2.2 := fun m hm => Bs_of.1 (by
  have := List.any_eq_false.1 h m hm
  simpa using this)
theorem fault_self (f : Fault) : beqT TFault f f = true := by
  obtain ⟨a, b, c⟩ := f
  simp [beqT]
theorem does (l : List Group) (mods : List GroupMod) : law24_GroupDoes 300 l mods = some true := by
  have hn : 100 ≤ 300 := by omega
  unfold law24_GroupDoes law24_GroupDoes.s
  obtain ⟨r, h1, h2⟩ := groups 300 l hn
  rw [h1, obind_some]
  cases r with
  | false => simp only [awake24, obind_some]; rfl
  | true =>
    have hG := h2 rfl
    by_cases h20 : ((mods.length : Nat) : Int) > 20
    · rw [decide_eq_true h20]; simp only [awake24, obind_some]; rfl
    · rw [decide_eq_false h20, long_mods 300 mods (by omega) hn, obind_some]
      cases hq : mods.any fun m => !bsB m.2.2.2 with
      | true => simp only [awake24, obind_some]; rfl
      | false =>
        have hbs := long_no hq
        show law24_GroupDoes.l0 300 mods ((mods.length : Nat) : Int) 300 l ((0 : Nat) : Int) = some true
        refine loop_inv (fun m l i => law24_GroupDoes.l0 300 mods ((mods.length : Nat) : Int) m l i) mods Inv (some true) (fun m s i x hx hI => ?_) (fun m s hI => ?_) mods 0 300 l rfl (by omega) (by omega) ⟨hG.1, hG.2⟩
        · have hbx := hbs x (List.mem_of_getElem? hx)
          have hd := do_inv s x hI hbx
          have hI1 := hI.1
          have hd1 := hd.1
          have e1 := do_eq 300 s x (by omega) hI.2 hbx hn
          have e2 := ref_do_eq 300 s x (by omega) hI.2 hbx hn
          have e3 := refeq_Group 300 (doF s x).1 (doF s x).1 hd.2 (by omega) hn
          have e4 := right_eq 300 (doF s x).1 (by omega) hd.2 hn
          have e5 := ref_right_eq 300 (doF s x).1 (by omega) hd.2 hn
          rw [decide_eq_true rfl] at e3
          right
          refine ⟨bif !(doF s x).2.1 then (doF s x).1 else s, ?_, ?_⟩
          · cases (doF s x).2.1 with
            | true => exact hI
            | false => exact hd
          · simp only [law24_GroupDoes.l0, law24_GroupDoes.s0, lt_of hx, decide_true, cond_true, inRange_of hx, getD_of hx, succ_of hx (by omega), e1, e2, e3, e4, e5, obind_some, fault_self, beq_self_eq_true, Bool.not_true, cond_false]
            cases (doF s x).2.1 <;> rfl
        · simp only [law24_GroupDoes.l0, law24_GroupDoes.s0, Int.lt_irrefl, decide_false, cond_false, awake24, obind_some]
theorem equal_ints (n : Nat) (s : List Int) (hL : s.length ≤ 72) (hn : 100 ≤ n) : slices_Equal_int n s s = some true := by
  show (bif (((List.length s : Nat) : Int) != ((List.length s : Nat) : Int)) then some false else slices_Equal_int.l0 n s s ((List.length s : Nat) : Int) n ((0 : Nat) : Int)) = _
  rw [show (((List.length s : Nat) : Int) != ((List.length s : Nat) : Int)) = false by simp, cond_false]
  refine loop_inv (σ := Unit) (fun m _ i => slices_Equal_int.l0 n s s ((List.length s : Nat) : Int) m i) s (fun _ => True) (some true) (fun m _ i x hx _ => .inr ⟨(), trivial, ?_⟩) (fun m _ _ => ?_) s 0 n () rfl (by omega) (by omega) trivial
  · simp only [slices_Equal_int.l0, slices_Equal_int.s0, lt_of hx, decide_true, cond_true, inRange_of hx, getD_of hx, succ_of hx (by omega), bne_self_eq_false, cond_false]
  · simp only [slices_Equal_int.l0, slices_Equal_int.s0, Int.lt_irrefl, decide_false, cond_false]
theorem find_bs (l : List Group) (id : Int) (hb : ∀ g ∈ l, Bs g.2.2) : Bs (findF l id).1.2.2 := by
  unfold findF
  by_cases h0 : pl l id < 0
  · rw [decide_eq_true h0]; exact ⟨by simp, fun x h => by cases h⟩
  · obtain ⟨j, hj, hjl⟩ := pl_nat h0
    have hg : l[j]? = some l[j] := List.getElem?_eq_getElem hjl
    rw [decide_eq_false h0, hj, cond_false]
    show Bs (List.getD l (Int.toNat (j : Int)) (0, 0, ([] : List Bucket))).2.2
    rw [getD_of hg]
    exact hb _ (List.getElem_mem hjl)
theorem tells (l k : List Group) (id kind : Int) : law24_GroupTells 300 l k id kind = some true := by
  have hn : 100 ≤ 300 := by omega
  unfold law24_GroupTells law24_GroupTells.s
  obtain ⟨r, h1, h2⟩ := groups 300 l hn
  obtain ⟨r', h3, h4⟩ := groups 300 k hn
  rw [h1, obind_some]
  cases r with
  | false => simp only [awake24, obind_some]; rfl
  | true =>
    have hG := h2 rfl
    have hl := hG.1
    rw [h3, obind_some]
    cases r' with
    | false => simp only [awake24, obind_some]; rfl
    | true =>
      have e1 := find_eq 300 l id (by omega) hG.2 hn
      have e2 := ref_find_eq 300 l id (by omega) hn
      have hf : ∀ g ∈ [(findF l id).1], Bs g.2.2 := fun g hg => by rw [List.mem_singleton.1 hg]; exact find_bs l id hG.2
      have e3 := refeq_Group 300 [(findF l id).1] [(findF l id).1] hf (by simp) hn
      rw [decide_eq_true rfl] at e3
      have e4 := loop_eq 300 l (by omega) hG.2 hn
      have e5 := ref_loop_eq 300 l (by omega) hG.2 hn
      have e6 := right_eq 300 l (by omega) hG.2 hn
      have e7 := ref_right_eq 300 l (by omega) hG.2 hn
      have e8 := same 300 l k hG.2 (by omega) hn
      have e9 := refeq_Group 300 l k hG.2 (by omega) hn
      simp only [e1, e2, obind_some, law24_one, e3, e4, e5, e6, e7, e8, e9, beq_self_eq_true, Bool.not_true, cond_true, cond_false]
      show law24_GroupTells.l0 300 kind l ((l.length : Nat) : Int) 300 ((0 : Nat) : Int) = some true
      refine loop_inv (σ := Unit) (fun m _ i => law24_GroupTells.l0 300 kind l ((l.length : Nat) : Int) m i) l (fun _ => True) (some true) (fun m _ i x hx _ => .inr ⟨(), trivial, ?_⟩) (fun m _ _ => ?_) l 0 300 () rfl (by omega) (by omega) trivial
      · have hbx := hG.2 x (List.mem_of_getElem? hx)
        simp only [law24_GroupTells.l0, law24_GroupTells.s0, lt_of hx, decide_true, cond_true, inRange_of hx, getD_of hx, succ_of hx (by omega), names 300 _ hbx hn, ref_names 300 _ hbx hn, equal_ints 300 _ hbx.names hn, check 300 _ _ hn, ref_check 300 _ _ hn, fault_self, obind_some, Bool.not_true, beq_self_eq_true, cond_false]
      · simp only [law24_GroupTells.l0, law24_GroupTells.s0, Int.lt_irrefl, decide_false, cond_false, awake24, obind_some]
end P24
theorem pureGroupDoes : ∀ x : pdens (law24_GroupDoes.τs.map PTy.data), WfP law24_GroupDoes.τs x → ∃ n, law24_GroupDoes.g n x = some true := fun x _ => ⟨300, P24.does x.1 x.2⟩
theorem pureGroupTells : ∀ x : pdens (law24_GroupTells.τs.map PTy.data), WfP law24_GroupTells.τs x → ∃ n, law24_GroupTells.g n x = some true := fun x _ => ⟨300, P24.tells x.1 x.2.1 x.2.2.1 x.2.2.2⟩
end Go.Fn
