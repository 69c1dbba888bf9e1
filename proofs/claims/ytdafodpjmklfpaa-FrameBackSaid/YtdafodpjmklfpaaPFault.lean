/- The plain laws of FaultReplies, FaultParses. -/
import Derived.Test.YtdafodpjmklfpaaPHead
namespace Go.Fn
open Go Go.Vi

theorem fault_name (f : Fault) : fault_Name f = some (ref19_Name f) := by
  obtain ⟨t, k, c⟩ := f
  cases t with
  | false => rfl
  | true =>
    by_cases h1 : k < 1
    · have n : ∀ j : Int, 1 ≤ j → (k == j) = false := fun j hj => by
        simp; omega
      simp [fault_Name, ref19_Name, h1, n 1 (by omega), n 2 (by omega), n 3 (by omega), n 4 (by omega), n 5 (by omega), n 6 (by omega)]
    · by_cases h2 : k ≥ 7
      · have n : ∀ j : Int, j ≤ 6 → (k == j) = false := fun j hj => by
          simp; omega
        simp [fault_Name, ref19_Name, h1, h2, n 1 (by omega), n 2 (by omega), n 3 (by omega), n 4 (by omega), n 5 (by omega), n 6 (by omega)]
      · have : k = 1 ∨ k = 2 ∨ k = 3 ∨ k = 4 ∨ k = 5 ∨ k = 6 := by omega
        rcases this with rfl | rfl | rfl | rfl | rfl | rfl <;> rfl

theorem fault_reply (K : Nat) (f : Fault) (m : List Int) (hb : ∀ x ∈ m, 0 ≤ x ∧ x ≤ 255) (hL : m.length ≤ 4000) : ∃ r, fault_Reply (K + 6) f m = some r ∧ ref19_Reply (K + 6) f m = some r := by
  have hmin : minI 64 ((m.length : Nat) : Int) = (min 64 m.length : Nat) := by
    unfold minI; split <;> omega
  have hc1 : (decide ((0 : Int) ≤ ((min 64 m.length : Nat) : Int)) && decide (((min 64 m.length : Nat) : Int) ≤ ((m.length : Nat) : Int))) = true := by
    simp only [Bool.and_eq_true, decide_eq_true_eq]; omega
  have hsub : (sub m 0 (min 64 m.length)).length ≤ 64 := by simp [sub]; omega
  have l1 := numP_len [] f.2.1 2
  have l2 := numP_len (numP [] f.2.1 2) f.2.2 2
  simp only [List.length_nil] at l1
  have hc2 : decide (((numP (numP [] f.2.1 2) f.2.2 2).length + (sub m 0 (min 64 m.length)).length) * 1 ≤ 140737488355328) = true := by
    rw [decide_eq_true_eq]; omega
  have hz : ([] : List Int).length ≤ 10000 := by simp
  have hbl : ((numP (numP [] f.2.1 2) f.2.2 2) ++ sub m 0 (min 64 m.length)).length ≤ 140737488351232 := by
    rw [List.length_append]; omega
  cases h0 : f.1 with
  | false => exact ⟨[], by simp [fault_Reply, h0], by simp [ref19_Reply, h0]⟩
  | true =>
    cases h1 : ref01_Right f.2.1 2 with
    | false => exact ⟨[], by simp [fault_Reply, h0, right_eq, h1, obind_some], by simp [ref19_Reply, h0, h1, obind_some]⟩
    | true =>
      cases h2 : ref01_Right f.2.2 2 with
      | false => exact ⟨[], by simp [fault_Reply, h0, right_eq, h1, h2, obind_some], by simp [ref19_Reply, h0, h1, h2, obind_some]⟩
      | true =>
        by_cases h3 : (m.length : Int) < 8
        · obtain ⟨Y, e1, e2⟩ : ∃ Y, frame_Head (K + 6) 1 0 ((numP (numP [] f.2.1 2) f.2.2 2) ++ sub m 0 (min 64 m.length)) = some Y ∧ ref16_Head (K + 6) 1 0 ((numP (numP [] f.2.1 2) f.2.2 2) ++ sub m 0 (min 64 m.length)) = some Y := ⟨_, head_eq K 1 0 _ hbl⟩
          have h3' : ¬ (m.length : Int) ≥ 8 := by omega
          refine ⟨Y.1, ?_, ?_⟩
          rotate_left
          · simp only [ref19_Reply, h0, h1, h2, h3', obind_some, Bool.not_true, beq_self_eq_true, cond_true, cond_false, decide_true, decide_false, ref_P K [] f.2.1 2 hz, ref_P K (numP [] f.2.1 2) f.2.2 2 (by omega), hmin, hc1, Int.toNat_natCast, hc2, e2]
          · simp only [fault_Reply, fault_xid, h0, right_eq, h1, h2, h3, obind_some, Bool.not_true, beq_self_eq_true, cond_true, cond_false, decide_true, put_P K [] f.2.1 2 hz, put_P K (numP [] f.2.1 2) f.2.2 2 (by omega), hmin, hc1, Int.toNat_natCast, hc2, e1]
        · obtain ⟨v, v1, v2⟩ := get_in K m 4 4 hb (by omega) (by omega) (by omega) (by omega)
          obtain ⟨Y, e1, e2⟩ : ∃ Y, frame_Head (K + 6) 1 v ((numP (numP [] f.2.1 2) f.2.2 2) ++ sub m 0 (min 64 m.length)) = some Y ∧ ref16_Head (K + 6) 1 v ((numP (numP [] f.2.1 2) f.2.2 2) ++ sub m 0 (min 64 m.length)) = some Y := ⟨_, head_eq K 1 v _ hbl⟩
          have h3' : (m.length : Int) ≥ 8 := by omega
          refine ⟨Y.1, ?_, ?_⟩
          rotate_left
          · simp only [ref19_Reply, h0, h1, h2, h3', obind_some, Bool.not_true, beq_self_eq_true, cond_true, cond_false, decide_true, decide_false, v2, ref_P K [] f.2.1 2 hz, ref_P K (numP [] f.2.1 2) f.2.2 2 (by omega), hmin, hc1, Int.toNat_natCast, hc2, e2]
          · simp only [fault_Reply, fault_xid, h0, right_eq, h1, h2, h3, obind_some, Bool.not_true, beq_self_eq_true, cond_true, cond_false, decide_true, decide_false, v1, put_P K [] f.2.1 2 hz, put_P K (numP [] f.2.1 2) f.2.2 2 (by omega), hmin, hc1, Int.toNat_natCast, hc2, e1]

theorem beq_ba (x : ByteArray) : (x == x) = true := by
  obtain ⟨d⟩ := x
  show (d == d) = true
  simp

theorem fault_awake (K : Nat) : law19_awake (K + 6) = some true := by kernel_rfl
theorem beq_fault (f : Fault) : beqT TFault f f = true := by
  obtain ⟨t, k, c⟩ := f
  simp [beqT]

theorem pureFaultReplies : ∀ x : pdens (law19_FaultReplies.τs.map PTy.data), WfP law19_FaultReplies.τs x → ∃ n, law19_FaultReplies.g n x = some true := by
  rintro ⟨f, m⟩ ⟨_, hm⟩
  obtain ⟨h1, h2, h3⟩ := hm
  refine ⟨0 + 6, ?_⟩
  show law19_FaultReplies (0 + 6) f m = some true
  by_cases hL : ((List.length (α := Int) m : Nat) : Int) > 4000
  · simp only [law19_FaultReplies, hL, decide_true, cond_true, fault_awake, obind_some]
  · obtain ⟨r, r1, r2⟩ := fault_reply 0 f m (fun x hx => wf_u8.1 (h3 x hx)) (by omega)
    simp only [law19_FaultReplies, hL, decide_false, cond_false, r1, r2, obind_some, bytes_Equal, beq_ba, beq_self_eq_true, cond_true, fault_name, fault_awake, show ref19_Of f.2.1 f.2.2 = fault_Of f.2.1 f.2.2 from rfl, beq_fault]

theorem fault_parse (K : Nat) (b : List Int) (hb : ∀ x ∈ b, 0 ≤ x ∧ x ≤ 255) (hL : b.length ≤ 4000) : ∃ r, fault_Parse (K + 6) b = some r ∧ ref19_Parse (K + 6) b = some r := by
  by_cases h4 : (b.length : Int) < 4
  · refine ⟨((false, 0, 0), [], false), ?_, by simp only [ref19_Parse, h4, decide_true, cond_true]⟩
    obtain ⟨e, e0, e1, _⟩ := get_out K b 2 2 hb (by omega) (by omega) (by omega)
    by_cases h2 : (b.length : Int) < 2
    · obtain ⟨e', e0', e1', _⟩ := get_out K b 0 2 hb (by omega) (by omega) (by omega)
      simp only [fault_Parse, e1, e1', obind_some]
      have : (e' != 0) = true := by simpa using e0'
      simp only [this]
      rfl
    · obtain ⟨v, v1, _⟩ := get_in K b 0 2 hb (by omega) (by omega) (by omega) (by omega)
      simp only [fault_Parse, e1, v1, obind_some]
      have : (e != 0) = true := by simpa using e0
      simp only [this]
      rfl
  · obtain ⟨v, v1, v2⟩ := get_in K b 0 2 hb (by omega) (by omega) (by omega) (by omega)
    obtain ⟨u, u1, u2⟩ := get_in K b 2 2 hb (by omega) (by omega) (by omega) (by omega)
    have h4' : (4 : Int) ≤ (b.length : Int) := by omega
    have hd : (List.drop 4 b).length ≤ 4000 := by simp; omega
    have hc : decide ((List.length ([] : List Int) + (List.drop 4 b).length) * 1 ≤ 140737488355328) = true := by
      rw [decide_eq_true_eq, List.length_nil]; omega
    refine ⟨((true, v, u), List.drop 4 b, true), ?_, ?_⟩
    · simp only [fault_Parse, v1, u1, obind_some, bne_self_eq_false, beq_self_eq_true, cond_true, cond_false, h4', decide_true, slices_Clone_byte, hc]
      rfl
    · simp only [ref19_Parse, h4, v2, u2, obind_some, decide_false, cond_false, h4', decide_true, cond_true, hc, List.nil_append]
      rfl

theorem pureFaultParses : ∀ x : pdens (law19_FaultParses.τs.map PTy.data), WfP law19_FaultParses.τs x → ∃ n, law19_FaultParses.g n x = some true := by
  intro b hb
  obtain ⟨h1, h2, h3⟩ := hb
  refine ⟨0 + 6, ?_⟩
  show law19_FaultParses (0 + 6) b = some true
  by_cases hL : ((List.length (α := Int) b : Nat) : Int) > 4000
  · simp only [law19_FaultParses, hL, decide_true, cond_true, fault_awake, obind_some]
  · obtain ⟨r, r1, r2⟩ := fault_parse 0 b (fun x hx => wf_u8.1 (h3 x hx)) (by omega)
    simp only [law19_FaultParses, hL, decide_false, cond_false, r1, r2, obind_some, bytes_Equal, beq_ba, beq_self_eq_true, cond_true, fault_awake, beq_fault]
end Go.Fn
