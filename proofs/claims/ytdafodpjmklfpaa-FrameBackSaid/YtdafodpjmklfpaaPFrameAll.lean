/- The plain laws of FrameAll, FrameBack: the pieces and what is behind them are the whole; messages one behind the other are cut where they begin. -/
import Derived.Test.YtdafodpjmklfpaaPFrame2
import Derived.Test.YtdafodpjmklfpaaPFrameLaws
set_option maxRecDepth 100000
namespace Go.Fn
open Go Go.Vi

theorem by_all {x : List Int} (h : By x) : x.all (fun n => decide (0 ≤ n) && decide (n ≤ 255)) = true := by
  rw [List.all_eq_true]
  intro n hn
  have := h n hn
  rw [Bool.and_eq_true, decide_eq_true_eq, decide_eq_true_eq]
  exact this
theorem join_eq (l : List (List Int)) (hb : ∀ x ∈ l, By x) (hf : l.flatten.length ≤ 140737488355328) (hl : l.length ≤ 140737488355328) : bytes_Join l ([] : List Int) = some l.flatten := by
  have e1 : l.all (fun x => x.all (fun n => decide (0 ≤ n) && decide (n ≤ 255))) = true := by
    rw [List.all_eq_true]
    exact fun x hx => by_all (hb x hx)
  have e2 : decide (([] : List Int).length = 0) = true := rfl
  unfold bytes_Join
  rw [e1, e2, decide_eq_true hf, decide_eq_true hl]
  rfl
theorem frame_all (K : Nat) (hK : 34 ≤ K) (b : List Int) (hb : By b) (hL : b.length ≤ 140737488351232) (hn : b.length < K + 6) : law16_FrameAll (K + 6) b = some true := by
  have haw : law16_awake (K + 6) = some true := by
    have := frame_awake (K - 34)
    rwa [show K - 34 + 40 = K + 6 by omega] at this
  unfold law16_FrameAll
  by_cases h : ((b.length : Nat) : Int) > 4000
  · rw [decide_eq_true h]
    simp only [cond_true, haw, obind_some]
  · have hw := pieces_whole (K + 6) b
    have hpl := pieces_len (K + 6) b
    have hr := congrArg List.length hw
    rw [List.length_append] at hr
    have e1 := frame_list_eq K b hb (by omega) hn
    have e2 := frame_rest_eq K b hb hL hn
    have hlen : ((piecesS (K + 6) b).map (·.1)).length * 8 ≤ b.length := by rw [List.length_map]; exact hpl
    generalize (piecesS (K + 6) b).map (·.1) = W at e1 hw hr hlen
    generalize restS (K + 6) b = R at e2 hw hr
    have hbW : ∀ x ∈ W, By x := fun x hx n hnx => hb n (by rw [← hw]; exact List.mem_append_left _ (List.mem_flatten.2 ⟨x, hx, hnx⟩))
    have e3 := join_eq W hbW (by omega) (by omega)
    have e4 : decide ((W.flatten.length + R.length) * 1 ≤ 140737488355328) = true := decide_eq_true (by omega)
    rw [decide_eq_false h]
    simp only [cond_false, e1, e2, e3, obind_some, e4, cond_true, hw, bytes_Equal, beq_ba, beq_self_eq_true, haw]
theorem pureFrameAll : ∀ x : pdens (law16_FrameAll.τs.map PTy.data), WfP law16_FrameAll.τs x → ∃ n, law16_FrameAll.g n x = some true := by
  rintro b ⟨_, hb2, hb3⟩
  have hb2 : List.length (α := Int) b * 1 ≤ 140737488351232 := hb2
  rw [Nat.mul_one] at hb2
  have hb : By b := fun x hx => wf_u8.1 (hb3 x hx)
  have key : ∀ (b : List Int), By b → b.length ≤ 140737488351232 → law16_FrameAll ((b.length + 34) + 6) b = some true :=
    fun b hb hl => frame_all (b.length + 34) (by omega) b hb hl (by omega)
  exact ⟨(List.length (α := Int) b + 34) + 6, key b hb hb2⟩

/-! ### FrameBack -/
def anyLong (l : List (List Int)) : Bool := l.any fun x => decide (((x.length : Nat) : Int) > 400)
theorem index_long (n : Nat) (s : List (List Int)) (hL : s.length ≤ 4611686018427387904) : ∀ (suf pre : List (List Int)) (m : Nat), s = pre ++ suf → suf.length < m →
    ∃ i : Int, slices_IndexFunc_Lbyte.l0 n s (fun x => some (law16_FrameBack_1_c x)) ((s.length : Nat) : Int) m ((pre.length : Nat) : Int) = some i ∧ decide (i ≥ 0) = anyLong suf
  | [], pre, m + 1, hs, _ => by
    have hl : s.length = pre.length := by rw [hs, List.append_nil]
    have hlt : ¬ ((pre.length : Nat) : Int) < ((s.length : Nat) : Int) := by omega
    refine ⟨-1, ?_, rfl⟩
    simp only [slices_IndexFunc_Lbyte.l0, slices_IndexFunc_Lbyte.s0, hlt, decide_false, cond_false]
  | x :: suf, pre, m + 1, hs, hm => by
    have hl : s.length = pre.length + (suf.length + 1) := by rw [hs, List.length_append, List.length_cons]
    have hlt : ((pre.length : Nat) : Int) < ((s.length : Nat) : Int) := by omega
    have hin : inRange ((pre.length : Nat) : Int) s.length = true := inRange_true (by omega) (by omega)
    have hg : s.getD pre.length ([] : List Int) = x := by
      rw [hs, List.getD_eq_getElem?_getD, List.getElem?_append_right (Nat.le_refl _), Nat.sub_self]; rfl
    have hw : IntKind.wrap .i64 (((pre.length : Nat) : Int) + 1) = (((pre ++ [x]).length : Nat) : Int) := by
      rw [w64 (by omega) (by omega), List.length_append, List.length_cons, List.length_nil]; omega
    simp only [slices_IndexFunc_Lbyte.l0, slices_IndexFunc_Lbyte.s0, hlt, decide_true, cond_true, hin, Int.toNat_natCast, hg, obind_some, hw, anyLong, List.any_cons, law16_FrameBack_1_c]
    cases hq : decide (((x.length : Nat) : Int) > 400) with
    | true => exact ⟨_, rfl, by rw [Bool.true_or]; exact decide_eq_true (by omega)⟩
    | false =>
      rw [cond_false, Bool.false_or]
      exact index_long n s hL suf (pre ++ [x]) m (by rw [hs, List.append_assoc]; rfl) (by simp at hm; omega)
theorem contains_long (n : Nat) (s : List (List Int)) (hL : s.length ≤ 4611686018427387904) (hn : s.length < n) : slices_ContainsFunc_Lbyte n s (fun x => some (law16_FrameBack_1_c x)) = some (anyLong s) := by
  obtain ⟨i, h1, h2⟩ := index_long n s hL s [] n rfl hn
  have : slices_IndexFunc_Lbyte n s (fun x => some (law16_FrameBack_1_c x)) = some i := h1
  simp only [slices_ContainsFunc_Lbyte, this, obind_some, h2]

theorem msgH_by (kind xid : Int) (body : List Int) (hb : By body) : By (msgH kind xid body) := by
  intro x hx
  have b4 := byt_in 4
  have bk := byt_in kind
  have bl := byt_in (8 + ((body.length : Nat) : Int))
  have bv := byt_in xid
  simp only [msgH, List.mem_cons] at hx
  rcases hx with rfl | rfl | rfl | rfl | rfl | rfl | rfl | rfl | h
  · exact b4.1
  · exact bk.1
  · exact bl.2.1
  · exact bl.1
  · exact bv.2.2.2
  · exact bv.2.2.1
  · exact bv.2.1
  · exact bv.1
  · exact hb x h
theorem head_H (K : Nat) (kind xid : Int) (body : List Int) (hk : 0 ≤ kind ∧ kind ≤ 255) (hx : 0 ≤ xid ∧ xid ≤ 4294967295) (hL : body.length ≤ 400) : frame_Head (K + 6) kind xid body = some (msgH kind xid body, 0) := by
  have h := (head_eq K kind xid body (by omega)).1
  rw [right1 hk.1 hk.2, right4 hx.1 hx.2, decide_eq_true (show ((body.length : Nat) : Int) ≤ 65527 by omega), headB_H kind xid body hk hx (by omega)] at h
  exact h
theorem flatten_le {k : Nat} : ∀ (l : List (List Int)), (∀ x ∈ l, x.length ≤ k) → l.flatten.length ≤ l.length * k
  | [], _ => by simp
  | x :: l, h => by
    have := flatten_le l fun y hy => h y (List.mem_cons_of_mem _ hy)
    have hx := h x (List.mem_cons_self ..)
    rw [List.flatten_cons, List.length_append, List.length_cons, Nat.succ_mul]
    omega
/-- Behind the loop. -/
theorem back_end (K : Nat) (hK : 20000 ≤ K) (kind xid : Int) (bodies : List (List Int)) (rest : List Int) (hb : ∀ x ∈ bodies, By x) (hr : By rest) (h20 : bodies.length ≤ 20) (h400 : ∀ x ∈ bodies, x.length ≤ 400) (h7 : rest.length ≤ 7) (k0 : List (List Int) → Int → Option Bool) (i v29 : Int) (hi : ¬ i < v29) :
    law16_FrameBack.s0 (K + 6) k0 kind xid rest (bodies.map (msgH kind xid)) bodies v29 i = some true := by
  have haw : law16_awake (K + 6) = some true := by
    have := frame_awake (K - 34)
    rwa [show K - 34 + 40 = K + 6 by omega] at this
  have hbW : ∀ x ∈ bodies.map (msgH kind xid), By x := fun x hx => by
    obtain ⟨y, hy, rfl⟩ := List.mem_map.1 hx
    exact msgH_by kind xid y (hb y hy)
  have hlW : ∀ x ∈ bodies.map (msgH kind xid), x.length ≤ 408 := fun x hx => by
    obtain ⟨y, hy, rfl⟩ := List.mem_map.1 hx
    have := h400 y hy
    rw [msgH_len]; omega
  have hfl := flatten_le _ hlW
  rw [List.length_map] at hfl
  have e1 := join_eq (bodies.map (msgH kind xid)) hbW (by omega) (by rw [List.length_map]; omega)
  obtain ⟨p1, p2⟩ := msgs_pieces kind xid rest h7 bodies (K + 6) (fun x hx => by have := h400 x hx; omega) (by omega)
  have hbf : By ((bodies.map (msgH kind xid)).flatten ++ rest) := fun n hn => by
    rcases List.mem_append.1 hn with h | h
    · obtain ⟨x, hx, hn⟩ := List.mem_flatten.1 h
      exact hbW x hx n hn
    · exact hr n h
  have hlen : ((bodies.map (msgH kind xid)).flatten ++ rest).length ≤ 9000 := by rw [List.length_append]; omega
  have e2 := frame_list_eq K _ hbf (by omega) (by omega)
  have e3 := frame_rest_eq K _ hbf (by omega) (by omega)
  rw [p1] at e2
  rw [p2] at e3
  have e4 := lists_same (K + 6) (bodies.map (msgH kind xid)) (by rw [List.length_map]; omega) (by rw [List.length_map]; omega)
  have e5 : decide (((bodies.map (msgH kind xid)).flatten.length + rest.length) * 1 ≤ 140737488355328) = true := decide_eq_true (by omega)
  simp only [law16_FrameBack.s0, hi, decide_false, cond_false, e1, obind_some, e5, cond_true, e2, e4, beq_self_eq_true, e3, bytes_Equal, beq_ba, haw]
theorem back_loop (K : Nat) (hK : 20000 ≤ K) (kind xid : Int) (bodies : List (List Int)) (rest : List Int) (hk : 0 ≤ kind ∧ kind ≤ 255) (hx : 0 ≤ xid ∧ xid ≤ 4294967295) (hb : ∀ x ∈ bodies, By x) (hr : By rest) (h20 : bodies.length ≤ 20) (h400 : ∀ x ∈ bodies, x.length ≤ 400) (h7 : rest.length ≤ 7) :
    ∀ (suf pre : List (List Int)) (m : Nat), bodies = pre ++ suf → suf.length < m → law16_FrameBack.l0 (K + 6) kind xid rest bodies ((bodies.length : Nat) : Int) m (pre.map (msgH kind xid)) ((pre.length : Nat) : Int) = some true
  | [], pre, m + 1, hs, _ => by
    rw [List.append_nil] at hs
    subst hs
    exact back_end K hK kind xid bodies rest hb hr h20 h400 h7 _ _ _ (Int.lt_irrefl _)
  | x :: suf, pre, m + 1, hs, hm => by
    have hl : bodies.length = pre.length + (suf.length + 1) := by rw [hs, List.length_append, List.length_cons]
    have hlt : ((pre.length : Nat) : Int) < ((bodies.length : Nat) : Int) := by omega
    have hin : inRange ((pre.length : Nat) : Int) bodies.length = true := inRange_true (by omega) (by omega)
    have hg : bodies.getD pre.length ([] : List Int) = x := by
      rw [hs, List.getD_eq_getElem?_getD, List.getElem?_append_right (Nat.le_refl _), Nat.sub_self]; rfl
    have hw : IntKind.wrap .i64 (((pre.length : Nat) : Int) + 1) = (((pre ++ [x]).length : Nat) : Int) := by
      rw [w64 (by omega) (by omega), List.length_append, List.length_cons, List.length_nil]; omega
    have hx4 := h400 x (by rw [hs]; exact List.mem_append_right _ (List.mem_cons_self ..))
    have e1 := head_H K kind xid x hk hx hx4
    have w1 : IntKind.wrap .i64 kind = kind := w64 (by omega) (by omega)
    have w2 : IntKind.wrap .i64 xid = xid := w64 (by omega) (by omega)
    have w3 : IntKind.wrap .i64 (8 + ((x.length : Nat) : Int)) = 8 + ((x.length : Nat) : Int) := w64 (by omega) (by omega)
    have w4 : (((msgH kind xid x).length : Nat) : Int) = 8 + ((x.length : Nat) : Int) := by rw [msgH_len]; omega
    have e2 : decide (8 ≤ 8 + ((x.length : Nat) : Int)) = true := decide_eq_true (by omega)
    have e3 : (msgH kind xid x).drop 8 = x := rfl
    have e4 : decide ((List.length (pre.map (msgH kind xid)) + List.length ([msgH kind xid x] : List (List Int))) * 24 ≤ 140737488355328) = true := decide_eq_true (by rw [List.length_map, List.length_cons, List.length_nil]; omega)
    have e5 : pre.map (msgH kind xid) ++ [msgH kind xid x] = (pre ++ [x]).map (msgH kind xid) := by rw [List.map_append]; rfl
    have ih := back_loop K hK kind xid bodies rest hk hx hb hr h20 h400 h7 suf (pre ++ [x]) m (by rw [hs, List.append_assoc]; rfl) (by simp at hm; omega)
    simp only [law16_FrameBack.l0, law16_FrameBack.s0, hlt, decide_true, cond_true, hin, Int.toNat_natCast, hg, w1, w2, e1, obind_some, bne_self_eq_false, beq_self_eq_true, w3, w4, e2, bytes_Equal, e3, beq_ba, Bool.not_true, cond_false, e4, e5, hw]
    exact ih
theorem frame_back (K : Nat) (hK : 20000 ≤ K) (kind xid : Int) (bodies : List (List Int)) (rest : List Int) (hk : 0 ≤ kind ∧ kind ≤ 255) (hx : 0 ≤ xid ∧ xid ≤ 4294967295) (hb : ∀ x ∈ bodies, By x) (hr : By rest) (hL : bodies.length ≤ 4611686018427387904) (hn : bodies.length < K + 6) :
    law16_FrameBack (K + 6) kind xid bodies rest = some true := by
  have haw : law16_awake (K + 6) = some true := by
    have := frame_awake (K - 34)
    rwa [show K - 34 + 40 = K + 6 by omega] at this
  unfold law16_FrameBack law16_FrameBack.s
  by_cases h20 : ((bodies.length : Nat) : Int) > 20
  · rw [decide_eq_true h20]
    simp only [show (true == false) = false from rfl, cond_false, haw, obind_some]
  · rw [decide_eq_false h20, contains_long (K + 6) bodies hL hn]
    simp only [beq_self_eq_true, cond_true, obind_some]
    cases hq : anyLong bodies with
    | true => simp only [show (true == false) = false from rfl, cond_false, haw, obind_some]
    | false =>
      have h400 : ∀ x ∈ bodies, x.length ≤ 400 := fun x hxb => by
        have := List.any_eq_false.1 hq x hxb
        rw [decide_eq_true_eq] at this
        omega
      by_cases h7 : ((rest.length : Nat) : Int) > 7
      · rw [decide_eq_true h7]
        simp only [beq_self_eq_true, cond_true, haw, obind_some]
      · rw [decide_eq_false h7]
        simp only [beq_self_eq_true, cond_true, cond_false]
        exact back_loop K hK kind xid bodies rest hk hx hb hr (by omega) h400 (by omega) bodies [] (K + 6) rfl hn
theorem pureFrameBack : ∀ x : pdens (law16_FrameBack.τs.map PTy.data), WfP law16_FrameBack.τs x → ∃ n, law16_FrameBack.g n x = some true := by
  rintro ⟨kind, xid, bodies, rest⟩ ⟨hk, hx, ⟨_, hb2, hb3⟩, ⟨_, _, hr3⟩⟩
  have hk := wf_u8.1 hk
  have hx := wf_u32.1 hx
  have hb2 : List.length (α := List Int) bodies * 24 ≤ 140737488351232 := hb2
  have hb : ∀ x ∈ bodies, By x := fun x hxb n hn => wf_u8.1 ((hb3 x hxb).2.2 n hn)
  have hr : By rest := fun x hx => wf_u8.1 (hr3 x hx)
  have key : ∀ (kind xid : Int) (bodies : List (List Int)) (rest : List Int), 0 ≤ kind ∧ kind ≤ 255 → 0 ≤ xid ∧ xid ≤ 4294967295 → (∀ x ∈ bodies, By x) → By rest → bodies.length * 24 ≤ 140737488351232 →
      law16_FrameBack ((bodies.length + 20000) + 6) kind xid bodies rest = some true :=
    fun kind xid bodies rest hk hx hb hr hl => frame_back (bodies.length + 20000) (by omega) kind xid bodies rest hk hx hb hr (by omega) (by omega)
  exact ⟨(List.length (α := List Int) bodies + 20000) + 6, key kind xid bodies rest hk hx hb hr hb2⟩
end Go.Fn
