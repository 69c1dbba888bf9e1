/- The plain law of FaultBack: what a message says that tells a fault. -/
import Derived.Test.YtdafodpjmklfpaaPFrame
set_option maxRecDepth 100000
namespace Go.Fn
open Go Go.Vi

theorem get_two (K : Nat) (b : List Int) (p : Nat) (a c : Int) (hy : sub b p (p + 2) = [a, c]) (ha : 0 ≤ a ∧ a ≤ 255) (hc : 0 ≤ c ∧ c ≤ 255) (hp : p + 2 ≤ b.length) (hL : b.length ≤ 140737488351232) :
    num_Get (K + 6) b ((p : Nat) : Int) 2 = some (a * 256 + c, 0) := by
  have e0 : decide (((p : Nat) : Int) < 0) = false := decide_eq_false (by omega)
  have e1 : IntKind.wrap .i64 (((b.length : Nat) : Int) - ((p : Nat) : Int)) = ((b.length : Nat) : Int) - ((p : Nat) : Int) := w64 (by omega) (by omega)
  have e2 : decide (((b.length : Nat) : Int) - ((p : Nat) : Int) < 2) = false := decide_eq_false (by omega)
  have e3 : IntKind.wrap .i64 (((p : Nat) : Int) + 2) = ((p + 2 : Nat) : Int) := by rw [w64 (by omega) (by omega)]; omega
  have e4 : decide ((0 : Int) ≤ ((p : Nat) : Int)) = true := decide_eq_true (by omega)
  have e5 : decide (((p : Nat) : Int) ≤ ((p + 2 : Nat) : Int)) = true := decide_eq_true (by omega)
  have e6 : decide (((p + 2 : Nat) : Int) ≤ ((b.length : Nat) : Int)) = true := decide_eq_true (by omega)
  have a0 : bitsI .or .i64 (shlI .i64 0 8) (IntKind.wrap .i64 a) = a := by
    have := or_byte (n := 0) (b := a) (by omega) (by omega) ha.1 ha.2
    rw [this]; omega
  have a1 := or_byte (n := a) (b := c) ha.1 (by omega) hc.1 hc.2
  simp only [num_Get, num_Get.s, show num_sized 2 = true from rfl, obind_some, Bool.not_true, beq_self_eq_true, cond_true, e0, cond_false, e1, e2, e3, e4, e5, e6, Bool.and_self, Int.toNat_natCast, hy]
  show num_Get.l0 (K + 6) [a, c] 2 (K + 3 + 1 + 1 + 1) 0 0 = _
  have s0 : List.getD [a, c] (Int.toNat 0) 0 = a := rfl
  have s1 : List.getD [a, c] (Int.toNat 1) 0 = c := rfl
  have i0 : inRange 0 (List.length [a, c]) = true := rfl
  have i1 : inRange 1 (List.length [a, c]) = true := rfl
  simp only [num_Get.l0, num_Get.s0, show decide ((0 : Int) < 2) = true from rfl, i0, cond_true, s0, a0, show IntKind.wrap .i64 (0 + 1) = 1 by decide, show decide ((1 : Int) < 2) = true from rfl, i1, s1, a1, show IntKind.wrap .i64 (1 + 1) = 2 by decide, show decide ((2 : Int) < 2) = false from rfl, cond_false]
theorem get_four (K : Nat) (b : List Int) (p : Nat) (a c d e : Int) (hy : sub b p (p + 4) = [a, c, d, e]) (ha : 0 ≤ a ∧ a ≤ 255) (hc : 0 ≤ c ∧ c ≤ 255) (hd : 0 ≤ d ∧ d ≤ 255) (he : 0 ≤ e ∧ e ≤ 255) (hp : p + 4 ≤ b.length) (hL : b.length ≤ 140737488351232) :
    num_Get (K + 6) b ((p : Nat) : Int) 4 = some (((a * 256 + c) * 256 + d) * 256 + e, 0) := by
  have e0 : decide (((p : Nat) : Int) < 0) = false := decide_eq_false (by omega)
  have e1 : IntKind.wrap .i64 (((b.length : Nat) : Int) - ((p : Nat) : Int)) = ((b.length : Nat) : Int) - ((p : Nat) : Int) := w64 (by omega) (by omega)
  have e2 : decide (((b.length : Nat) : Int) - ((p : Nat) : Int) < 4) = false := decide_eq_false (by omega)
  have e3 : IntKind.wrap .i64 (((p : Nat) : Int) + 4) = ((p + 4 : Nat) : Int) := by rw [w64 (by omega) (by omega)]; omega
  have e4 : decide ((0 : Int) ≤ ((p : Nat) : Int)) = true := decide_eq_true (by omega)
  have e5 : decide (((p : Nat) : Int) ≤ ((p + 4 : Nat) : Int)) = true := decide_eq_true (by omega)
  have e6 : decide (((p + 4 : Nat) : Int) ≤ ((b.length : Nat) : Int)) = true := decide_eq_true (by omega)
  have a0 : bitsI .or .i64 (shlI .i64 0 8) (IntKind.wrap .i64 a) = a := by
    have := or_byte (n := 0) (b := a) (by omega) (by omega) ha.1 ha.2
    rw [this]; omega
  have a1 := or_byte (n := a) (b := c) ha.1 (by omega) hc.1 hc.2
  have a2 := or_byte (n := a * 256 + c) (b := d) (by omega) (by omega) hd.1 hd.2
  have a3 := or_byte (n := (a * 256 + c) * 256 + d) (b := e) (by omega) (by omega) he.1 he.2
  simp only [num_Get, num_Get.s, show num_sized 4 = true from rfl, obind_some, Bool.not_true, beq_self_eq_true, cond_true, e0, cond_false, e1, e2, e3, e4, e5, e6, Bool.and_self, Int.toNat_natCast, hy]
  show num_Get.l0 (K + 6) [a, c, d, e] 4 (K + 1 + 1 + 1 + 1 + 1 + 1) 0 0 = _
  have s0 : List.getD [a, c, d, e] (Int.toNat 0) 0 = a := rfl
  have s1 : List.getD [a, c, d, e] (Int.toNat 1) 0 = c := rfl
  have s2 : List.getD [a, c, d, e] (Int.toNat 2) 0 = d := rfl
  have s3 : List.getD [a, c, d, e] (Int.toNat 3) 0 = e := rfl
  have i0 : inRange 0 (List.length [a, c, d, e]) = true := rfl
  have i1 : inRange 1 (List.length [a, c, d, e]) = true := rfl
  have i2 : inRange 2 (List.length [a, c, d, e]) = true := rfl
  have i3 : inRange 3 (List.length [a, c, d, e]) = true := rfl
  simp only [num_Get.l0, num_Get.s0, show decide ((0 : Int) < 4) = true from rfl, i0, cond_true, s0, a0, show IntKind.wrap .i64 (0 + 1) = 1 by decide, show decide ((1 : Int) < 4) = true from rfl, i1, s1, a1, show IntKind.wrap .i64 (1 + 1) = 2 by decide, show decide ((2 : Int) < 4) = true from rfl, i2, s2, a2, show IntKind.wrap .i64 (2 + 1) = 3 by decide, show decide ((3 : Int) < 4) = true from rfl, i3, s3, a3, show IntKind.wrap .i64 (3 + 1) = 4 by decide, show decide ((4 : Int) < 4) = false from rfl, cond_false]
theorem byt_in (x : Int) : (0 ≤ byt x 0 ∧ byt x 0 ≤ 255) ∧ (0 ≤ byt x 8 ∧ byt x 8 ≤ 255) ∧ (0 ≤ byt x 16 ∧ byt x 16 ≤ 255) ∧ (0 ≤ byt x 24 ∧ byt x 24 ≤ 255) := by
  obtain ⟨h0, h8, h16, h24⟩ := byt_eq (x := x)
  omega
theorem byt_two {x : Int} (h0 : 0 ≤ x) (h1 : x ≤ 65535) : byt x 8 * 256 + byt x 0 = x := by
  obtain ⟨h0, h8, h16, h24⟩ := byt_eq (x := x)
  omega
theorem right2 {x : Int} (h0 : 0 ≤ x) (h1 : x ≤ 65535) : ref01_Right x 2 = true := by
  show (bif ((decide (x ≥ 0)) == true) then decide (x ≤ 65535) else false) = true
  rw [decide_eq_true (show x ≥ 0 by omega), decide_eq_true h1]; rfl
theorem right4 {x : Int} (h0 : 0 ≤ x) (h1 : x ≤ 4294967295) : ref01_Right x 4 = true := by
  show (bif ((decide (x ≥ 0)) == true) then decide (x ≤ 4294967295) else false) = true
  rw [decide_eq_true (show x ≥ 0 by omega), decide_eq_true h1]; rfl

/-- The bytes of a fault's body; of its message. -/
def bodyF (kind code : Int) (s : List Int) : List Int := byt kind 8 :: byt kind 0 :: byt code 8 :: byt code 0 :: s
def msgF (kind code v : Int) (s : List Int) : List Int :=
  byt 4 0 :: byt 1 0 :: byt (12 + ((s.length : Nat) : Int)) 8 :: byt (12 + ((s.length : Nat) : Int)) 0 :: byt v 24 :: byt v 16 :: byt v 8 :: byt v 0 :: bodyF kind code s
theorem headB_F (kind code v : Int) (s : List Int) (hk : 0 ≤ kind ∧ kind ≤ 65535) (hc : 0 ≤ code ∧ code ≤ 65535) (hv : 0 ≤ v ∧ v ≤ 4294967295) (hs : s.length ≤ 64) :
    headB 1 v (numP (numP [] kind 2) code 2 ++ s) = msgF kind code v s := by
  have hbody : numP (numP [] kind 2) code 2 ++ s = bodyF kind code s := by
    unfold numP
    rw [right2 hk.1 hk.2, right2 hc.1 hc.2]; rfl
  rw [hbody]
  have hl : (8 + (((bodyF kind code s).length : Nat) : Int)) = 12 + ((s.length : Nat) : Int) := by
    show (8 + ((s.length + 1 + 1 + 1 + 1 : Nat) : Int)) = _
    omega
  unfold headB
  rw [hl]
  unfold numP
  rw [right2 (x := 12 + ((s.length : Nat) : Int)) (by omega) (by omega), right4 hv.1 hv.2]
  rfl
theorem msgF_by (kind code v : Int) (s : List Int) (hs : By s) : By (msgF kind code v s) := by
  intro x hx
  have b4 := byt_in 4
  have b1 := byt_in 1
  have bl := byt_in (12 + ((s.length : Nat) : Int))
  have bv := byt_in v
  have bk := byt_in kind
  have bc := byt_in code
  simp only [msgF, bodyF, List.mem_cons] at hx
  rcases hx with rfl | rfl | rfl | rfl | rfl | rfl | rfl | rfl | rfl | rfl | rfl | rfl | h
  · exact b4.1
  · exact b1.1
  · exact bl.2.1
  · exact bl.1
  · exact bv.2.2.2
  · exact bv.2.2.1
  · exact bv.2.1
  · exact bv.1
  · exact bk.2.1
  · exact bk.1
  · exact bc.2.1
  · exact bc.1
  · exact hs x h
theorem msgF_len (kind code v : Int) (s : List Int) : (msgF kind code v s).length = s.length + 12 := rfl
theorem msgF_says (kind code v : Int) (s : List Int) (hs : s.length ≤ 64) : saysS (msgF kind code v s) = (12 + ((s.length : Nat) : Int), true) := by
  have h2 : two (msgF kind code v s) = 12 + ((s.length : Nat) : Int) := byt_two (by omega) (by omega)
  unfold saysS
  rw [h2, msgF_len, decide_eq_false (show ¬ ((s.length + 12 : Nat) : Int) < 8 by omega), decide_eq_false (show ¬ 12 + ((s.length : Nat) : Int) < 8 by omega), decide_eq_true (show 12 + ((s.length : Nat) : Int) ≤ ((s.length + 12 : Nat) : Int) by omega)]
  rfl
theorem pieces_nil : ∀ m : Nat, piecesS m [] = []
  | 0 => rfl
  | _ + 1 => rfl
theorem msgF_pieces (m : Nat) (kind code v : Int) (s : List Int) (hs : s.length ≤ 64) : piecesS (m + 1) (msgF kind code v s) = [(msgF kind code v s, [])] := by
  have hn : (12 + ((s.length : Nat) : Int)).toNat = (msgF kind code v s).length := by rw [msgF_len]; omega
  unfold piecesS
  rw [msgF_says kind code v s hs]
  simp only [cond_true, hn, List.take_length, List.drop_length, pieces_nil]
theorem msgF_list (K : Nat) (hK : 100 ≤ K) (kind code v : Int) (s : List Int) (hs : s.length ≤ 64) (hb : By s) : frame_List (K + 6) (msgF kind code v s) = some [msgF kind code v s] := by
  have hl := msgF_len kind code v s
  rw [frame_list_eq K _ (msgF_by kind code v s hb) (by omega) (by omega)]
  have := msgF_pieces (K + 5) kind code v s hs
  rw [show K + 6 = K + 5 + 1 from rfl, this]
  rfl
theorem body_parse (K : Nat) (kind code : Int) (s : List Int) (hk : 0 ≤ kind ∧ kind ≤ 65535) (hc : 0 ≤ code ∧ code ≤ 65535) (hs : s.length ≤ 64) : fault_Parse (K + 6) (bodyF kind code s) = some ((true, kind, code), s, true) := by
  have bk := byt_in kind
  have bc := byt_in code
  have hl : (bodyF kind code s).length = s.length + 4 := rfl
  have g0 : num_Get (K + 6) (bodyF kind code s) 0 2 = some (byt kind 8 * 256 + byt kind 0, 0) := get_two K (bodyF kind code s) 0 _ _ rfl bk.2.1 bk.1 (by omega) (by omega)
  have g2 : num_Get (K + 6) (bodyF kind code s) 2 2 = some (byt code 8 * 256 + byt code 0, 0) := get_two K (bodyF kind code s) 2 _ _ rfl bc.2.1 bc.1 (by omega) (by omega)
  rw [byt_two hk.1 hk.2] at g0
  rw [byt_two hc.1 hc.2] at g2
  have h4 : decide ((4 : Int) ≤ (((bodyF kind code s).length : Nat) : Int)) = true := decide_eq_true (by omega)
  have hd : List.drop 4 (bodyF kind code s) = s := rfl
  simp only [fault_Parse, g0, g2, obind_some, bne_self_eq_false, beq_self_eq_true, cond_true, cond_false, h4, hd, clone_eq (show s.length ≤ 140737488351232 by omega), fault_Of]
def xidS (m : List Int) : Int := bif decide (((m.length : Nat) : Int) < 8) then 0 else ((List.getD m 4 0 * 256 + List.getD m 5 0) * 256 + List.getD m 6 0) * 256 + List.getD m 7 0
theorem eight {b : List Int} (h : ¬ ((b.length : Nat) : Int) < 8) : ∃ x0 x1 x2 x3 x4 x5 x6 x7 l, b = x0 :: x1 :: x2 :: x3 :: x4 :: x5 :: x6 :: x7 :: l := by
  obtain ⟨x0, x1, x2, x3, l, rfl⟩ := four h
  match l, h with
  | x4 :: x5 :: x6 :: x7 :: l, _ => exact ⟨x0, x1, x2, x3, x4, x5, x6, x7, l, rfl⟩
  | [], h => exact absurd (by simp) h
  | [_], h => exact absurd (by simp) h
  | [_, _], h => exact absurd (by simp) h
  | [_, _, _], h => exact absurd (by simp) h
theorem xid_eq (K : Nat) (m : List Int) (hb : By m) (hL : m.length ≤ 4000) : fault_xid (K + 6) m = some (xidS m) ∧ 0 ≤ xidS m ∧ xidS m ≤ 4294967295 ∧
    (¬ ((m.length : Nat) : Int) < 8 → sub m 4 8 = [byt (xidS m) 24, byt (xidS m) 16, byt (xidS m) 8, byt (xidS m) 0]) := by
  by_cases h : ((m.length : Nat) : Int) < 8
  · have e : xidS m = 0 := by unfold xidS; rw [decide_eq_true h]; rfl
    rw [e]
    refine ⟨?_, by omega, by omega, fun h' => absurd h h'⟩
    simp only [fault_xid, h, decide_true, cond_true]
  · obtain ⟨x0, x1, x2, x3, x4, x5, x6, x7, l, rfl⟩ := eight h
    have h4 := hb x4 (by simp)
    have h5 := hb x5 (by simp)
    have h6 := hb x6 (by simp)
    have h7 := hb x7 (by simp)
    have e : xidS (x0 :: x1 :: x2 :: x3 :: x4 :: x5 :: x6 :: x7 :: l) = ((x4 * 256 + x5) * 256 + x6) * 256 + x7 := by
      unfold xidS; rw [decide_eq_false h]; rfl
    have g : num_Get (K + 6) (x0 :: x1 :: x2 :: x3 :: x4 :: x5 :: x6 :: x7 :: l) 4 4 = some (((x4 * 256 + x5) * 256 + x6) * 256 + x7, 0) :=
      get_four K (x0 :: x1 :: x2 :: x3 :: x4 :: x5 :: x6 :: x7 :: l) 4 x4 x5 x6 x7 rfl h4 h5 h6 h7 (by simp) (by omega)
    rw [e]
    refine ⟨?_, by omega, by omega, fun _ => ?_⟩
    · simp only [fault_xid, h, decide_false, cond_false, g, obind_some]
    · obtain ⟨b0, b8, b16, b24⟩ := byt_eq (x := ((x4 * 256 + x5) * 256 + x6) * 256 + x7)
      have c0 : byt (((x4 * 256 + x5) * 256 + x6) * 256 + x7) 0 = x7 := by omega
      have c8 : byt (((x4 * 256 + x5) * 256 + x6) * 256 + x7) 8 = x6 := by omega
      have c16 : byt (((x4 * 256 + x5) * 256 + x6) * 256 + x7) 16 = x5 := by omega
      have c24 : byt (((x4 * 256 + x5) * 256 + x6) * 256 + x7) 24 = x4 := by omega
      rw [c0, c8, c16, c24]
      rfl
theorem reply_F (K : Nat) (kind code : Int) (m : List Int) (hk : 0 ≤ kind ∧ kind ≤ 65535) (hc : 0 ≤ code ∧ code ≤ 65535) (hb : By m) (hL : m.length ≤ 4000) :
    fault_Reply (K + 6) (true, kind, code) m = some (msgF kind code (xidS m) (sub m 0 (min 64 m.length))) := by
  obtain ⟨hx, hx0, hx1, _⟩ := xid_eq K m hb hL
  have hmin : minI 64 ((m.length : Nat) : Int) = (min 64 m.length : Nat) := by
    unfold minI; split <;> omega
  have hc1 : (decide ((0 : Int) ≤ ((min 64 m.length : Nat) : Int)) && decide (((min 64 m.length : Nat) : Int) ≤ ((m.length : Nat) : Int))) = true := by
    simp only [Bool.and_eq_true, decide_eq_true_eq]; omega
  have hsub : (sub m 0 (min 64 m.length)).length ≤ 64 := by simp [sub]; omega
  have l1 := numP_len [] kind 2
  have l2 := numP_len (numP [] kind 2) code 2
  simp only [List.length_nil] at l1
  have hc2 : decide (((numP (numP [] kind 2) code 2).length + (sub m 0 (min 64 m.length)).length) * 1 ≤ 140737488355328) = true := by
    rw [decide_eq_true_eq]; omega
  have hz : ([] : List Int).length ≤ 10000 := by simp
  have hbl : (numP (numP [] kind 2) code 2 ++ sub m 0 (min 64 m.length)).length ≤ 140737488351232 := by
    rw [List.length_append]; omega
  have hh := (head_eq K 1 (xidS m) _ hbl).1
  rw [show ref01_Right 1 1 = true from rfl, right4 hx0 hx1, decide_eq_true (show (((numP (numP [] kind 2) code 2 ++ sub m 0 (min 64 m.length)).length : Nat) : Int) ≤ 65527 by rw [List.length_append]; omega)] at hh
  rw [headB_F kind code (xidS m) _ hk hc ⟨hx0, hx1⟩ hsub] at hh
  simp only [Bool.and_self, cond_true] at hh
  simp only [fault_Reply, right_eq, right2 hk.1 hk.2, right2 hc.1 hc.2, obind_some, Bool.not_true, beq_self_eq_true, cond_true, cond_false, put_P K [] kind 2 hz, put_P K (numP [] kind 2) code 2 (by omega), hmin, hc1, Int.toNat_natCast, hc2, hx, hh]
theorem fault_back (K : Nat) (hK : 100 ≤ K) (kind code : Int) (m : List Int) (hk : 0 ≤ kind ∧ kind ≤ 65535) (hc : 0 ≤ code ∧ code ≤ 65535) (hb : By m) : law19_FaultBack (K + 6) kind code m = some true := by
  unfold law19_FaultBack
  by_cases h : ((m.length : Nat) : Int) > 4000
  · simp only [h, decide_true, cond_true, fault_awake, obind_some]
  · have w1 : IntKind.wrap .i64 kind = kind := w64 (by omega) (by omega)
    have w2 : IntKind.wrap .i64 code = code := w64 (by omega) (by omega)
    obtain ⟨_, _, _, hx⟩ := xid_eq K m hb (by omega)
    have e1 := reply_F K kind code m hk hc hb (by omega)
    have hmin : minI 64 ((m.length : Nat) : Int) = (min 64 m.length : Nat) := by
      unfold minI; split <;> omega
    have hc1 : (decide ((0 : Int) ≤ ((min 64 m.length : Nat) : Int)) && decide (((min 64 m.length : Nat) : Int) ≤ ((m.length : Nat) : Int))) = true := by
      simp only [Bool.and_eq_true, decide_eq_true_eq]; omega
    have hsub : (sub m 0 (min 64 m.length)).length ≤ 64 := by simp [sub]; omega
    have hsb : By (sub m 0 (min 64 m.length)) := fun x hx => hb x (by rw [sub_t] at hx; exact List.mem_of_mem_take hx)
    obtain ⟨s, hs⟩ : ∃ s, sub m 0 (min 64 m.length) = s := ⟨_, rfl⟩
    rw [hs] at e1 hsub hsb
    have e2 := msgF_list K hK kind code (xidS m) s hsub hsb
    have e3 := body_parse K kind code s hk hc hsub
    have hl := msgF_len kind code (xidS m) s
    have d1 : decide ((((msgF kind code (xidS m) s).length : Nat) : Int) < 12) = false := decide_eq_false (by omega)
    have d2 : decide ((8 : Int) ≤ (((msgF kind code (xidS m) s).length : Nat) : Int)) = true := decide_eq_true (by omega)
    have hdrop : List.drop 8 (msgF kind code (xidS m) s) = bodyF kind code s := rfl
    have hsub4 : sub (msgF kind code (xidS m) s) 4 8 = [byt (xidS m) 24, byt (xidS m) 16, byt (xidS m) 8, byt (xidS m) 0] := rfl
    have hone : ((((List.length [msgF kind code (xidS m) s] : Nat) : Int) != 1) == false) = true := rfl
    have hof : fault_Of kind code = (true, kind, code) := rfl
    by_cases h8 : ((m.length : Nat) : Int) < 8
    · have d3 : decide (((m.length : Nat) : Int) ≥ 8) = false := decide_eq_false (by omega)
      simp only [h, decide_false, cond_false, w1, w2, hof, obind_some, e1, d1, beq_self_eq_true, cond_true, e2, hone, d3, show (false == true) = false from rfl, d2, hdrop, e3, beq_fault, hmin, hc1, Int.toNat_natCast, hs, bytes_Equal, beq_ba, fault_awake]
    · have d3 : decide (((m.length : Nat) : Int) ≥ 8) = true := decide_eq_true (by omega)
      have d4 : decide ((8 : Int) ≤ ((m.length : Nat) : Int)) = true := decide_eq_true (by omega)
      simp only [h, decide_false, cond_false, w1, w2, hof, obind_some, e1, d1, beq_self_eq_true, cond_true, e2, hone, d3, d4, d2, hsub4, hx h8, bytes_Equal, beq_ba, Bool.not_true, hdrop, e3, beq_fault, hmin, hc1, Int.toNat_natCast, hs, fault_awake]
theorem u16_in {n : Int} (h : (Lit.int .u16 n).wf = true) : 0 ≤ n ∧ n ≤ 65535 := by
  have h1 : IntKind.min .u16 = 0 := by decide
  have h2 : IntKind.max .u16 = 65535 := by decide
  simpa only [Lit.wf, Bool.and_eq_true, decide_eq_true_eq, h1, h2] using h
theorem pureFaultBack : ∀ x : pdens (law19_FaultBack.τs.map PTy.data), WfP law19_FaultBack.τs x → ∃ n, law19_FaultBack.g n x = some true := by
  rintro ⟨kind, code, m⟩ ⟨hk, hc, ⟨_, _, hm⟩⟩
  exact ⟨100 + 6, fault_back 100 (Nat.le_refl _) kind code m (u16_in hk) (u16_in hc) (fun x hx => wf_u8.1 (hm x hx))⟩
end Go.Fn
