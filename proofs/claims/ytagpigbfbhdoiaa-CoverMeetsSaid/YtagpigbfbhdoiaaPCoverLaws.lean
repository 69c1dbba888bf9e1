/- The plain laws of CoverLooks, CoverMeets, CoverTells, CoverEnough. -/
import Derived.Test.YtagpigbfbhdoiaaPCover5
namespace Go.Fn
open Go Go.Vi

theorem cover_looks (c : Cu) (l : List Cu) (most : Int) (hm' : most ≤ 9223372036854775807) : law08_CoverLooks (4000 + 140) (cu c) (l.map cu) most = some true := by
  obtain ⟨b, hb, h12⟩ := cover_light (4000 + 140) (by omega) c l most
  simp only [law08_CoverLooks, hb, obind_some, cover_awake]
  cases b with
  | false => rfl
  | true =>
    have := h12 rfl
    have e : beqT THeader (ansS (LookS (4000 + 140) c l most)).1 (ansS (LookS (4000 + 140) c l most)).1 = true := by
      unfold ansS
      cases decide ((LookS (4000 + 140) c l most).2.2 < 0) <;> exact hd_self _
    simp only [cover_look (4000 + 140) (by omega) c l most hm' (by omega) (by omega), ref08_look_eq (4000 + 140) (by omega) c l most hm' (by omega) (by omega), obind_some, beq_self_eq_true, cond_true, Bool.not_true, cond_false, e]
theorem pureCoverLooks : ∀ x : pdens (law08_CoverLooks.τs.map PTy.data), WfP law08_CoverLooks.τs x → ∃ n, law08_CoverLooks.g n x = some true := by
  rintro ⟨a, l, most⟩ ⟨ha, hl, hm⟩
  obtain ⟨c, rfl⟩ := cu_wf ha
  obtain ⟨l, rfl⟩ := cus_wf hl.2.2
  exact ⟨4000 + 140, cover_looks c l most (wf_i64.1 hm).2⟩

theorem pureCoverMeets : ∀ x : pdens (law08_CoverMeets.τs.map PTy.data), WfP law08_CoverMeets.τs x → ∃ n, law08_CoverMeets.g n x = some true := by
  rintro ⟨a, l⟩ ⟨ha, hl⟩
  obtain ⟨c, rfl⟩ := cu_wf ha
  obtain ⟨l, rfl⟩ := cus_wf hl.2.2
  refine ⟨4000 + 140, ?_⟩
  show law08_CoverMeets (4000 + 140) (cu c) (l.map cu) = some true
  have hml := meetsS_length c l
  unfold law08_CoverMeets
  rw [List.length_map]
  by_cases h : ((l.length : Nat) : Int) > 200
  · simp only [h, decide_true, cond_true, cover_awake, obind_some]
  · simp only [h, decide_false, cond_false, cover_meets (4000 + 140) (by omega) c l (by omega) (by omega), ref08_meets (4000 + 140) (by omega) c l (by omega) (by omega), obind_some, cube_equal (4000 + 140) (meetsS c l) (by omega) (by omega),
      cover_bound (4000 + 140) (by omega) c l (by omega) (by omega), ref08_bound (4000 + 140) (by omega) c l (by omega) (by omega), beq_self_eq_true, cond_true, cover_awake]

theorem pureCoverTells : ∀ x : pdens (law08_CoverTells.τs.map PTy.data), WfP law08_CoverTells.τs x → ∃ n, law08_CoverTells.g n x = some true := by
  rintro ⟨a, l, most, g⟩ ⟨ha, hl, hm, hg⟩
  obtain ⟨c, rfl⟩ := cu_wf ha
  obtain ⟨l, rfl⟩ := cus_wf hl.2.2
  obtain ⟨g, rfl⟩ := hd_wf hg
  exact ⟨4000 + 140, cover_tells c l most (wf_i64.1 hm).2 g⟩

theorem pureCoverEnough : ∀ x : pdens (law08_CoverEnough.τs.map PTy.data), WfP law08_CoverEnough.τs x → ∃ n, law08_CoverEnough.g n x = some true := by
  rintro ⟨a, l, more⟩ ⟨ha, hl, hm⟩
  obtain ⟨c, rfl⟩ := cu_wf ha
  have h1 := hl.2.1
  obtain ⟨l, rfl⟩ := cus_wf hl.2.2
  have h2 : (l.map cu).length * 768 ≤ 140737488351232 := h1
  rw [List.length_map] at h2
  obtain ⟨m0, m1⟩ := wf_u32.1 hm
  exact ⟨l.length + 4000 + 140, cover_enough c l (Nat.le_trans h2 (by decide)) more m0 m1⟩
end Go.Fn
