/- The plain laws of chapter 16. -/
import Derived.Test.YtdafodpjmklfpaaPFrame
set_option maxRecDepth 100000
namespace Go.Fn
open Go Go.Vi

theorem frame_awake (k : Nat) : law16_awake (k + 40) = some true := by kernel_rfl
theorem pureFrameHeads : ∀ x : pdens (law16_FrameHeads.τs.map PTy.data), WfP law16_FrameHeads.τs x → ∃ n, law16_FrameHeads.g n x = some true := by
  have key : ∀ (kind xid : Int) (body : List Int), law16_FrameHeads (34 + 6) kind xid body = some true := by
    intro kind xid body
    unfold law16_FrameHeads
    by_cases h : ((body.length : Nat) : Int) > 70000
    · simp only [h, decide_true, cond_true, show law16_awake (34 + 6) = some true from frame_awake 0, obind_some]
    · obtain ⟨e1, e2⟩ := head_eq 34 kind xid body (by omega)
      simp only [h, decide_false, cond_false, e1, e2, obind_some, bytes_Equal, beq_ba, beq_self_eq_true, cond_true, show law16_awake (34 + 6) = some true from frame_awake 0]
  rintro ⟨kind, xid, body⟩ _
  exact ⟨34 + 6, key kind xid body⟩

theorem lists_same (n : Nat) (K : List (List Int)) (hn : K.length < n) (hK : K.length ≤ 4611686018427387904) : slices_EqualFunc_Lbyte n K K (fun (x : List Int × List Int) => some (bytes_Equal_c x.1 x.2)) = some true := by
  simp only [slices_EqualFunc_Lbyte, slices_EqualFunc_Lbyte.s, bne_self_eq_false, cond_false]
  have skip : ∀ (l : List (List Int)) (i : Nat), loopL (R := Bool) (fun _ (_ : List Int) (_ : Unit) => .inr ()) (fun _ => some true) i l () = some true := by
    intro l
    induction l with
    | nil => intro i; rfl
    | cons x l ih => intro i; simp only [loopL]; exact ih (i + 1)
  rw [← skip K 0]
  refine loopL_start (fun m (_ : Unit) i => slices_EqualFunc_Lbyte.l0 n K (fun (x : List Int × List Int) => some (bytes_Equal_c x.1 x.2)) K ((K.length : Nat) : Int) m i) K (fun m s i x hx => ?_) (fun m s => ?_) hn ()
  · have hr : bytes_Equal_c x x = true := beq_ba _
    simp only [slices_EqualFunc_Lbyte.l0, slices_EqualFunc_Lbyte.s0, lt_of hx, decide_true, cond_true, inRange_of hx, getD_of hx, hr, obind_some, Bool.not_true, cond_false, succ_of hx (by omega)]
  · simp only [slices_EqualFunc_Lbyte.l0, slices_EqualFunc_Lbyte.s0, Int.lt_irrefl, decide_false, cond_false]
theorem all_take (n : Nat) (most : Nat) (hmost : most ≤ 1000) : ∀ (l out : List (List Int)), out.length < most → law16_all.l0 n ((most : Nat) : Int) l out = some (out ++ l.take (most - out.length))
  | [], out, _ => by rw [List.take_nil, List.append_nil]; rfl
  | x :: l, out, h => by
    have hd : decide ((out.length + 1) * 24 ≤ 140737488355328) = true := decide_eq_true (by omega)
    simp only [law16_all.l0, law16_all.s0, List.length_cons, List.length_nil, Nat.zero_add, hd, cond_true, List.length_append]
    by_cases h1 : out.length + 1 = most
    · have e : decide (((out.length + 1 : Nat) : Int) ≥ ((most : Nat) : Int)) = true := decide_eq_true (by omega)
      rw [e, cond_true, show most - out.length = 1 by omega]
      rfl
    · have e : decide (((out.length + 1 : Nat) : Int) ≥ ((most : Nat) : Int)) = false := decide_eq_false (by omega)
      rw [e, cond_false, all_take n most hmost l (out ++ [x]) (by simp only [List.length_append, List.length_cons, List.length_nil]; omega), show most - out.length = (most - (out.length + 1)) + 1 by omega]
      simp only [List.take_succ_cons, List.length_append, List.length_cons, List.length_nil, Nat.zero_add, List.append_assoc, List.cons_append, List.nil_append]
theorem frame_splits (K : Nat) (b : List Int) (most : Nat) (hb : By b) (hL : b.length ≤ 140737488351232) (hn : b.length < K + 6) (hK : 34 ≤ K) (hm : most ≤ 255) : law16_FrameSplits (K + 6) b ((most : Nat) : Int) = some true := by
  have haw : law16_awake (K + 6) = some true := by
    have := frame_awake (K - 34)
    rwa [show K - 34 + 40 = K + 6 by omega] at this
  have e1 := frame_split_eq K b hb hL hn
  simp only [law16_FrameSplits, haw, obind_some, Bool.not_true, beq_self_eq_true, cond_true, e1]
  by_cases h : ((b.length : Nat) : Int) > 4000
  · simp only [h, decide_true, cond_true]
  · have e2 := ref16_list_eq (K + 6) b hb (by omega) hn
    have e3 := frame_list_eq K b hb (by omega) hn
    have e4 := frame_rest_eq K b hb hL hn
    have e5 := ref16_rest_eq (K + 6) b hb hL hn
    have hpl := pieces_len (K + 6) b
    have hlen : ((piecesS (K + 6) b).map (·.1)).length * 8 ≤ b.length := by rw [List.length_map]; exact hpl
    generalize (piecesS (K + 6) b).map (·.1) = W at e1 e2 e3 hlen
    have e6 := lists_same (K + 6) W (by omega) (by omega)
    have w1 : IntKind.wrap .i64 ((most : Nat) : Int) = ((most : Nat) : Int) := w64 (by omega) (by omega)
    have w2 : IntKind.wrap .i64 (1 + ((most : Nat) : Int)) = ((most + 1 : Nat) : Int) := by rw [w64 (by omega) (by omega)]; omega
    have e7 : law16_all (K + 6) b ((most + 1 : Nat) : Int) = some (W.take (most + 1)) := by
      simp only [law16_all, law16_all.s, e1, obind_some]
      rw [all_take (K + 6) (most + 1) (by omega) W [] (by simp), List.nil_append, List.length_nil, Nat.sub_zero]
    have hmin : minI ((most + 1 : Nat) : Int) ((W.length : Nat) : Int) = ((min (most + 1) W.length : Nat) : Int) := by unfold minI; split <;> omega
    have h1 : decide (0 ≤ ((min (most + 1) W.length : Nat) : Int)) = true := decide_eq_true (by omega)
    have h2 : decide (((min (most + 1) W.length : Nat) : Int) ≤ ((W.length : Nat) : Int)) = true := decide_eq_true (by omega)
    have htk : W.take (min (most + 1) W.length) = W.take (most + 1) := by rw [← List.take_take, List.take_length]
    have e8 := lists_same (K + 6) (W.take (most + 1)) (by rw [List.length_take]; omega) (by rw [List.length_take]; omega)
    simp only [h, decide_false, cond_false, e2, e3, e6, obind_some, beq_self_eq_true, cond_true, w1, w2, e7, hmin, h1, h2, Bool.and_self, Int.toNat_natCast, sub_t, htk, e8, e4, e5, bytes_Equal, beq_ba]
theorem frame_splits' (b : List Int) (most : Int) (hb : By b) (hL : b.length ≤ 140737488351232) (h0 : 0 ≤ most) (h1 : most ≤ 255) : law16_FrameSplits ((b.length + 34) + 6) b most = some true := by
  obtain ⟨k, rfl⟩ : ∃ k : Nat, most = (k : Int) := ⟨most.toNat, by omega⟩
  exact frame_splits (b.length + 34) b k hb hL (by omega) (by omega) (by omega)
theorem pureFrameSplits : ∀ x : pdens (law16_FrameSplits.τs.map PTy.data), WfP law16_FrameSplits.τs x → ∃ n, law16_FrameSplits.g n x = some true := by
  rintro ⟨b, most⟩ ⟨⟨_, hb2, hb3⟩, hm⟩
  have hm := wf_u8.1 hm
  have hb2 : List.length (α := Int) b * 1 ≤ 140737488351232 := hb2
  rw [Nat.mul_one] at hb2
  exact ⟨(List.length (α := Int) b + 34) + 6, frame_splits' b most (fun x hx => wf_u8.1 (hb3 x hx)) hb2 hm.1 hm.2⟩
end Go.Fn
