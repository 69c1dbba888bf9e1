/- The plain laws of cubes. -/
import Derived.Test.YtpiboooclejjcaaPCube
namespace Go.Fn
open Go Go.Vi

theorem cube_awake (k : Nat) : law06_awake (k + 140) = some true := by kernel_rfl
theorem cmeet_self (a b : Cu) (o : Bool) : beqT (.arr 24 TyT) (bif o then (cu (cMeet a b), true) else (cu (fun _ => (0, 0)), false)).1 (bif o then (cu (cMeet a b), true) else (cu (fun _ => (0, 0)), false)).1 = true := by
  cases o <;> simp only [cond_true, cond_false, cu_self]
theorem pureCubeTells : ∀ x : pdens (law06_CubeTells.τs.map PTy.data), WfP law06_CubeTells.τs x → ∃ n, law06_CubeTells.g n x = some true := by
  rintro ⟨a, b, h⟩ ⟨ha, hb, hh⟩
  obtain ⟨a, rfl⟩ := cu_wf ha
  obtain ⟨b, rfl⟩ := cu_wf hb
  obtain ⟨h, rfl⟩ := hd_wf hh
  refine ⟨200 + 140, ?_⟩
  show law06_CubeTells (200 + 140) (cu a) (cu b) (hd h) = some true
  unfold law06_CubeTells
  have hn : 24 < 200 + 140 := by omega
  have hm : 128 < 200 + 140 := by omega
  simp only [cube_meet _ hn, ref06_meet _ hn, cube_has _ hn, ref06_has _ hn, cube_within _ hn, ref06_within _ hn, cube_pick _ hn, ref06_pick _ hn, cube_size _ hn, ref06_size _ hm, cube_clean _ hn, ref06_clean _ hn, cube_one _ hn, ref06_one _ hm, cube_all, ref06_all, obind_some, cmeet_self, cu_self, hd_self, beq_self_eq_true, cond_true, cube_awake]

theorem pureCubeMeet : ∀ x : pdens (law06_CubeMeet.τs.map PTy.data), WfP law06_CubeMeet.τs x → ∃ n, law06_CubeMeet.g n x = some true := by
  rintro ⟨a, b, h⟩ ⟨ha, hb, hh⟩
  obtain ⟨a, rfl⟩ := cu_wf ha
  obtain ⟨b, rfl⟩ := cu_wf hb
  obtain ⟨h, rfl⟩ := hd_wf hh
  refine ⟨200 + 140, ?_⟩
  show law06_CubeMeet (200 + 140) (cu a) (cu b) (hd h) = some true
  unfold law06_CubeMeet
  have hn : 24 < 200 + 140 := by omega
  have k := cMeet_has a b h
  simp only [cube_meet _ hn, cube_has _ hn, obind_some]
  cases ho : cMeetOk a b <;> rw [ho] at k <;> simp only [cond_true, cond_false, Bool.true_and, Bool.false_and, beq_self_eq_true, show (false == true) = false from rfl, cube_has _ hn, obind_some, cube_awake] at k ⊢ <;>
    revert k <;> cases cHas a h <;> cases cHas b h <;> cases cHas (cMeet a b) h <;> simp

theorem pick_has (c : Cu) : cHas c (cPick c) = true := cHas_iff.2 fun j _ => tHas_iff.2 fun i hi => by
  unfold cPick tClean
  rw [BitVec.getLsbD_and, hi, Bool.and_true]
theorem mix_has (c : Cu) (h : He) : cHas c (fun j => ((c j).1 &&& (c j).2) ||| (h j &&& ~~~(c j).2)) = true := cHas_iff.2 fun j _ => tHas_iff.2 fun i hi => by
  rw [BitVec.getLsbD_or, BitVec.getLsbD_and, BitVec.getLsbD_and, BitVec.getLsbD_not, hi]
  simp
theorem one_has (h g : He) : cHas (cOne h) g = allN 24 fun j => h j == g j := by
  unfold cHas
  refine allN_congr fun j _ => ?_
  rw [Bool.eq_iff_iff, tHas_iff, beq_iff_eq]
  constructor
  · intro k
    refine bits_ext fun i => ?_
    by_cases hi : i < 128
    · exact k i (by show (lowW 128).getLsbD i = true; rw [lowW_bit]; simp [hi])
    · rw [BitVec.getLsbD_of_ge _ _ (by omega), BitVec.getLsbD_of_ge _ _ (by omega)]
  · intro k i _
    show (h j).getLsbD i = _
    rw [k]
theorem all_has (g : He) : cHas (fun _ => (0, 0)) g = true := cHas_iff.2 fun j _ => tHas_iff.2 fun i hi => by simp at hi
theorem pureCubePick : ∀ x : pdens (law06_CubePick.τs.map PTy.data), WfP law06_CubePick.τs x → ∃ n, law06_CubePick.g n x = some true := by
  rintro ⟨c, h, g⟩ ⟨hc, hh, hg⟩
  obtain ⟨c, rfl⟩ := cu_wf hc
  obtain ⟨h, rfl⟩ := hd_wf hh
  obtain ⟨g, rfl⟩ := hd_wf hg
  refine ⟨200 + 140, ?_⟩
  have hn : 24 < 200 + 140 := by omega
  show law06_CubePick.l0 (200 + 140) (cu c) (cu c) (hd h) (hd g) (200 + 140) 0 (hd h) = some true
  rw [loopN_start (step := fun i out => .inr (List.set out i (Wd (((c i).1 &&& (c i).2) ||| (h i &&& ~~~(c i).2))))) (fin := fun x => law06_CubePick.s0 (200 + 140) (fun _ _ => none) (cu c) 24 (cu c) (hd h) (hd g) x) (fun m out i => law06_CubePick.l0 (200 + 140) (cu c) (cu c) (hd h) (hd g) m i out) 24
    (fun m s i hi => by simp only [law06_CubePick.l0, law06_CubePick.s0, lt24 hi, cond_true, in24 hi, Int.toNat_natCast, cu_gn c hi, hd_gn h hi, Tn_1, Tn_2, wide_and, wide_less, wide_or, obind_some, nx24 hi])
    (fun m s => by simp only [law06_CubePick.l0, law06_CubePick.s0]; rfl) hn]
  refine (loopN_set0 (f := fun i => Wd (((c i).1 &&& (c i).2) ||| (h i &&& ~~~(c i).2))) fun i g hi _ => rfl).trans ?_
  unfold law06_CubePick.s0
  have e : arrN 24 (fun i => Wd (((c i).1 &&& (c i).2) ||| (h i &&& ~~~(c i).2))) = hd fun i => ((c i).1 &&& (c i).2) ||| (h i &&& ~~~(c i).2) := rfl
  simp only [show ¬ (24 : Int) < 24 by omega, show ¬ ((24 : Nat) : Int) < 24 by omega, decide_false, cond_false, e, cube_pick _ hn, cube_has _ hn, cube_one _ hn, cube_all, obind_some, pick_has, mix_has, one_has, hd_beq, all_has, beq_self_eq_true, cond_true, cube_awake]

theorem within_meet {a b : BT} (h : tWithin a b = true) : tMeetOk a b = true ∧ tMeet a b = tClean a := by
  rw [tWithin_iff] at h
  constructor
  · rw [tMeetOk_iff]
    intro i _ hb
    exact (h i hb).2.symm
  · unfold tMeet tClean
    refine Prod.ext (bits_ext fun i => ?_) (bits_ext fun i => ?_)
    · have := h i
      simp only [BitVec.getLsbD_or, BitVec.getLsbD_and]
      revert this
      cases a.1.getLsbD i <;> cases a.2.getLsbD i <;> cases b.1.getLsbD i <;> cases b.2.getLsbD i <;> simp
    · have := h i
      simp only [BitVec.getLsbD_or]
      revert this
      cases a.2.getLsbD i <;> cases b.2.getLsbD i <;> simp
theorem cnt_mono {x y : W128} (h : ∀ i, x.getLsbD i = true → y.getLsbD i = true) : cnt x ≤ cnt y := by
  unfold cnt
  exact List.countP_mono_left fun i _ => h i
theorem size_mono {a b : Cu} (h : ∀ j, j < 24 → cnt (b j).2 ≤ cnt (a j).2) : ∀ k, k ≤ 24 → cSizeTo b k ≤ cSizeTo a k
  | 0, _ => Nat.le_refl _
  | k + 1, hk => by
    have h1 := size_mono h k (by omega)
    have h2 := h k (by omega)
    show cSizeTo b k + _ ≤ cSizeTo a k + _
    omega
theorem pureCubeWithin : ∀ x : pdens (law06_CubeWithin.τs.map PTy.data), WfP law06_CubeWithin.τs x → ∃ n, law06_CubeWithin.g n x = some true := by
  rintro ⟨a, b, h⟩ ⟨ha, hb, hh⟩
  obtain ⟨a, rfl⟩ := cu_wf ha
  obtain ⟨b, rfl⟩ := cu_wf hb
  obtain ⟨h, rfl⟩ := hd_wf hh
  refine ⟨200 + 140, ?_⟩
  show law06_CubeWithin (200 + 140) (cu a) (cu b) (hd h) = some true
  unfold law06_CubeWithin
  have hn : 24 < 200 + 140 := by omega
  simp only [cube_meet _ hn, cube_has _ hn, cube_within _ hn, cube_clean _ hn, cube_size _ hn, obind_some, cube_awake]
  cases hw : cWithin a b with
  | false => rfl
  | true =>
    have hw' : ∀ j, j < 24 → tWithin (a j) (b j) = true := allN_iff.1 hw
    have hm : cMeetOk a b = true := allN_iff.2 fun j hj => (within_meet (hw' j hj)).1
    have he : cu (cMeet a b) = cu (cClean a) := cu_congr fun j hj => (within_meet (hw' j hj)).2
    have hs : decide ((cSize b : Int) ≤ (cSize a : Int)) = true := decide_eq_true (by
      have : cSizeTo b 24 ≤ cSizeTo a 24 := size_mono (fun j hj => cnt_mono fun i hi => (tWithin_iff.1 (hw' j hj) i hi).1) 24 (Nat.le_refl _)
      unfold cSize; omega)
    simp only [hm, cond_true, cond_false, Bool.not_true, he, cu_self, hs, beq_self_eq_true]
    cases hc : cHas a h with
    | false => rfl
    | true =>
      have : cHas b h = true := cHas_iff.2 fun j hj => tHas_iff.2 fun i hi => by
        have h1 := tWithin_iff.1 (hw' j hj) i hi
        rw [h1.2]
        exact tHas_iff.1 (cHas_iff.1 hc j hj) i h1.1
      rw [this]; rfl
end Go.Fn
