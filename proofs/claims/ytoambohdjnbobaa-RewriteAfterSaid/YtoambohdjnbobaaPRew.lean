/- The natives of rewritings, as the document has them. -/
import Derived.Test.YtoambohdjnbobaaPTern1
namespace Go.Fn
open Go Go.Vi

theorem eachC (n : Nat) (hn : 24 < n) (f : Int → Option TernI) (g : Cu) (hf : ∀ i : Nat, i < 24 → f (i : Int) = some (Tn (g i))) : rewrite_each_Cube n f = some (cu g) := by
  show rewrite_each_Cube.l0 n f (List.replicate 24 ((0, 0), 0, 0)) n 0 (List.replicate 24 ((0, 0), 0, 0)) = _
  rw [loopN_start (step := fun i out => .inr (List.set out i (Tn (g i)))) (fin := some) (fun m out i => rewrite_each_Cube.l0 n f (List.replicate 24 ((0, 0), 0, 0)) m i out) 24
    (fun m s i hi => by simp only [rewrite_each_Cube.l0, rewrite_each_Cube.s0, lt24 hi, cond_true, hf i hi, obind_some, in24 hi, nx24 hi, Int.toNat_natCast])
    (fun m s => by simp only [rewrite_each_Cube.l0, rewrite_each_Cube.s0]; rfl) hn, cu_0]
  exact loopN_set0 fun i g' hi _ => rfl
theorem eachR (n : Nat) (hn : 24 < n) (f : Int → Option TernI) (g : Cu) (hf : ∀ i : Nat, i < 24 → f (i : Int) = some (Tn (g i))) : rewrite_each_Rewrite n f = some (cu g) := by
  show rewrite_each_Rewrite.l0 n f (List.replicate 24 ((0, 0), 0, 0)) n 0 (List.replicate 24 ((0, 0), 0, 0)) = _
  rw [loopN_start (step := fun i out => .inr (List.set out i (Tn (g i)))) (fin := some) (fun m out i => rewrite_each_Rewrite.l0 n f (List.replicate 24 ((0, 0), 0, 0)) m i out) 24
    (fun m s i hi => by simp only [rewrite_each_Rewrite.l0, rewrite_each_Rewrite.s0, lt24 hi, cond_true, hf i hi, obind_some, in24 hi, nx24 hi, Int.toNat_natCast])
    (fun m s => by simp only [rewrite_each_Rewrite.l0, rewrite_each_Rewrite.s0]; rfl) hn, cu_0]
  exact loopN_set0 fun i g' hi _ => rfl

theorem rew_over (a b : BT) : rewrite_over (Tn a) (Tn b) = Tn (tOver a b) := by
  simp only [rewrite_over, tern_clean, Tn_1, Tn_2, tClean, wide_or, wide_less]; rfl
theorem rew_then (n : Nat) (hn : 24 < n) (a b : Cu) : rewrite_Then n (cu a) (cu b) = some (cu fun j => tOver (a j) (b j)) := by
  unfold rewrite_Then
  rw [eachR n hn _ (fun j => tOver (a j) (b j)) (fun i hi => by
    simp only [rewrite_Then_1, in24 hi, cond_true, cu_gn a hi, cu_gn b hi, rew_over, obind_some, Int.toNat_natCast])]
  rfl
theorem rew_after (n : Nat) (hn : 24 < n) (r c : Cu) : rewrite_After n (cu r) (cu c) = some (cu fun j => tOver (c j) (r j)) := by
  unfold rewrite_After
  rw [eachC n hn _ (fun j => tOver (c j) (r j)) (fun i hi => by
    simp only [rewrite_After_1, in24 hi, cond_true, cu_gn c hi, cu_gn r hi, rew_over, obind_some, Int.toNat_natCast])]
  rfl
theorem rew_clean (n : Nat) (hn : 24 < n) (r : Cu) : rewrite_Clean n (cu r) = some (cu (cClean r)) := by
  unfold rewrite_Clean
  rw [eachR n hn _ (cClean r) (fun i hi => by
    simp only [rewrite_Clean_1, in24 hi, cond_true, cu_gn r hi, tern_clean, obind_some, Int.toNat_natCast]; rfl)]
  rfl
def rBefore (r c : Cu) : Cu := fun j => tClean ((c j).1, (c j).2 &&& ~~~(r j).2)
def rApply (r : Cu) (h : He) : He := fun j => wApply (r j) (h j)
theorem rew_before (n : Nat) (hn : 24 < n) (r c : Cu) : rewrite_Before n (cu r) (cu c) = bif cMeetOk r c then some (cu (rBefore r c), true) else some (cu (fun _ => (0, 0)), false) := by
  show rewrite_Before.l0 n (cu r) (cu r) (cu c) (List.replicate 24 ((0, 0), 0, 0)) n 0 = _
  rw [loopN_start (σ := Unit) (step := fun i (_ : Unit) => bif tMeetOk (r i) (c i) then .inr () else .inl (some (cu (fun _ => (0, 0)), false))) (fin := fun _ => some (cu (rBefore r c), true))
    (fun m _ i => rewrite_Before.l0 n (cu r) (cu r) (cu c) (List.replicate 24 ((0, 0), 0, 0)) m i) 24
    (fun m s i hi => by
      simp only [rewrite_Before.l0, rewrite_Before.s0, lt24 hi, cond_true, in24 hi, cu_gn r hi, cu_gn c hi, tern_meet, obind_some, nx24 hi, Int.toNat_natCast]
      cases tMeetOk (r i) (c i) <;> rfl)
    (fun m s => by
      simp only [rewrite_Before.l0, rewrite_Before.s0]
      rw [eachC n hn _ (rBefore r c) (fun i hi => by
        simp only [rewrite_Before_1, in24 hi, cond_true, cu_gn c hi, cu_gn r hi, Tn_1, Tn_2, wide_less, Tn_mk, tern_clean, obind_some, Int.toNat_natCast]; rfl)]
      rfl) hn]
  exact loopN_all0 _ _ _ 24
theorem rew_apply (n : Nat) (hn : 24 < n) (r : Cu) (h : He) : rewrite_Apply n (cu r) (hd h) = some (hd (rApply r h)) := by
  show rewrite_Apply.l0 n (cu r) (List.replicate 24 (0, 0)) n 0 (hd h) = _
  rw [loopN_start (step := fun i out => .inr (List.set out i (wide_Or (wide_Less (List.getD out i (0, 0)) (Wd (r i).2)) (Wd ((r i).1 &&& (r i).2))))) (fin := some) (fun m out i => rewrite_Apply.l0 n (cu r) (List.replicate 24 (0, 0)) m i out) 24
    (fun m s i hi => by
      simp only [rewrite_Apply.l0, rewrite_Apply.s0, lt24 hi, cond_true, in24 hi, cu_gn r hi, Tn_1, Tn_2, wide_and, obind_some, nx24 hi, Int.toNat_natCast])
    (fun m s => by simp only [rewrite_Apply.l0, rewrite_Apply.s0]; rfl) hn]
  exact loopN_set0 fun i g hi hg => by
    rw [arr_getD _ _ _ _ hi, hg i (Nat.le_refl _), wide_less, wide_or]; rfl

theorem ref_clean (n : Nat) (hn : 24 < n) (r : Cu) : ref09_Clean n (cu r) = some (cu (cClean r)) := by
  show ref09_Clean.l0 n (List.replicate 24 ((0, 0), 0, 0)) n 0 (cu r) = _
  rw [loopN_start (step := fun i out => .inr (List.set out i (ref05_Clean (List.getD out i ((0, 0), 0, 0))))) (fin := some) (fun m out i => ref09_Clean.l0 n (List.replicate 24 ((0, 0), 0, 0)) m i out) 24
    (fun m s i hi => by simp only [ref09_Clean.l0, ref09_Clean.s0, lt24 hi, cond_true, in24 hi, obind_some, nx24 hi, Int.toNat_natCast])
    (fun m s => by simp only [ref09_Clean.l0, ref09_Clean.s0]; rfl) hn]
  exact loopN_set0 fun i g hi hg => by
    rw [arr_getD _ _ _ _ hi, hg i (Nat.le_refl _), ref05_clean]; rfl
theorem ref_then (n : Nat) (hn : 24 < n) (a b : Cu) : ref09_Then n (cu a) (cu b) = some (cu fun j => tOver (a j) (b j)) := by
  unfold ref09_Then ref09_Then.s
  rw [ref_clean n hn, ref_clean n hn, obind_some, obind_some]
  show ref09_Then.l0 n (cu (cClean b)) (List.replicate 24 ((0, 0), 0, 0)) n 0 (cu (cClean a)) = _
  rw [loopN_start (step := fun i out => .inr (List.set out i (ref02_Or (ref02_Less (List.getD out i ((0, 0), 0, 0)).1 (Wd (cClean b i).2)) (Wd (cClean b i).1), ref02_Or (List.getD out i ((0, 0), 0, 0)).2 (Wd (cClean b i).2)))) (fin := some) (fun m out i => ref09_Then.l0 n (cu (cClean b)) (List.replicate 24 ((0, 0), 0, 0)) m i out) 24
    (fun m s i hi => by simp only [ref09_Then.l0, ref09_Then.s0, lt24 hi, cond_true, in24 hi, obind_some, nx24 hi, cu_gn _ hi, Tn_1, Tn_2, Int.toNat_natCast])
    (fun m s => by simp only [ref09_Then.l0, ref09_Then.s0]; rfl) hn]
  exact loopN_set0 fun i g hi hg => by
    rw [arr_getD _ _ _ _ hi, hg i (Nat.le_refl _), Tn_1, Tn_2, ref02_less, ref02_or, ref02_or]; rfl
theorem ref_after (n : Nat) (hn : 24 < n) (r c : Cu) : ref09_After n (cu r) (cu c) = some (cu fun j => tOver (c j) (r j)) := by
  show ref09_After.l0 n (cu r) (cu c) (List.replicate 24 ((0, 0), 0, 0)) n 0 (List.replicate 24 ((0, 0), 0, 0)) = _
  rw [loopN_start (step := fun i out => .inr (List.set out i (Tn (tOver (c i) (r i))))) (fin := some) (fun m out i => ref09_After.l0 n (cu r) (cu c) (List.replicate 24 ((0, 0), 0, 0)) m i out) 24
    (fun m s i hi => by
      simp only [ref09_After.l0, ref09_After.s0, lt24 hi, cond_true, in24 hi, obind_some, nx24 hi, cu_gn _ hi, ref05_clean, Tn_1, Tn_2, ref02_less, ref02_and, ref02_or, Int.toNat_natCast]; rfl)
    (fun m s => by simp only [ref09_After.l0, ref09_After.s0]; rfl) hn, cu_0]
  exact loopN_set0 fun i g hi hg => rfl
theorem ref_before (n : Nat) (hn : 24 < n) (r c : Cu) : ref09_Before n (cu r) (cu c) = bif cMeetOk r c then some (cu (rBefore r c), true) else some (cu (fun _ => (0, 0)), false) := by
  show ref09_Before.l0 n (cu r) (cu c) (List.replicate 24 ((0, 0), 0, 0)) n 0 (List.replicate 24 ((0, 0), 0, 0)) = _
  rw [loopN_start (step := fun i out => bif tMeetOk (r i) (c i) then .inr (List.set out i (Tn (rBefore r c i))) else .inl (some (cu (fun _ => (0, 0)), false))) (fin := fun out => some (out, true))
    (fun m out i => ref09_Before.l0 n (cu r) (cu c) (List.replicate 24 ((0, 0), 0, 0)) m i out) 24
    (fun m s i hi => by
      simp only [ref09_Before.l0, ref09_Before.s0, lt24 hi, cond_true, in24 hi, cu_gn r hi, cu_gn c hi, ref05_meet, obind_some, nx24 hi, Tn_1, Tn_2, ref02_less, Tn_mk, ref05_clean, Int.toNat_natCast]
      cases tMeetOk (r i) (c i) <;> rfl)
    (fun m s => by simp only [ref09_Before.l0, ref09_Before.s0]; rfl) hn, cu_0]
  exact loopN_setAll0 _ _ 24 (fun i => tMeetOk (r i) (c i)) (fun i => Tn (rBefore r c i)) _
theorem ref_apply (n : Nat) (hn : 24 < n) (r : Cu) (h : He) : ref09_Apply n (cu r) (hd h) = some (hd (rApply r h)) := by
  show ref09_Apply.l0 n (cu r) (List.replicate 24 (0, 0)) n 0 (hd h) = _
  rw [loopN_start (step := fun i out => .inr (List.set out i (ref02_Or (ref02_Less (List.getD out i (0, 0)) (Wd (r i).2)) (Wd ((r i).1 &&& (r i).2))))) (fin := some) (fun m out i => ref09_Apply.l0 n (cu r) (List.replicate 24 (0, 0)) m i out) 24
    (fun m s i hi => by
      simp only [ref09_Apply.l0, ref09_Apply.s0, lt24 hi, cond_true, in24 hi, cu_gn r hi, Tn_1, Tn_2, ref02_and, obind_some, nx24 hi, Int.toNat_natCast])
    (fun m s => by simp only [ref09_Apply.l0, ref09_Apply.s0]; rfl) hn]
  exact loopN_set0 fun i g hi hg => by
    rw [arr_getD _ _ _ _ hi, hg i (Nat.le_refl _), ref02_less, ref02_or]; rfl
theorem rew_awake (k : Nat) : law09_awake (k + 26) = some true := by kernel_rfl
end Go.Fn
