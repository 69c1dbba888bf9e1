/- Messages: pieces and what is behind them are the whole; messages one behind the other are cut where they begin. (For FrameAll, FrameBack.) -/
import Derived.Test.YtdafodpjmklfpaaPFaultBack
set_option maxRecDepth 100000
namespace Go.Fn
open Go Go.Vi

theorem pieces_whole : ∀ (m : Nat) (b : List Int), ((piecesS m b).map (·.1)).flatten ++ restS m b = b
  | 0, b => rfl
  | m + 1, b => by
    unfold piecesS restS
    cases hok : (saysS b).2 with
    | false => rfl
    | true =>
      simp only [cond_true, List.map_cons, List.flatten_cons, List.append_assoc, pieces_whole m, List.take_append_drop]

/-- A message's bytes, of a body that is not long. -/
def msgH (kind xid : Int) (body : List Int) : List Int :=
  byt 4 0 :: byt kind 0 :: byt (8 + ((body.length : Nat) : Int)) 8 :: byt (8 + ((body.length : Nat) : Int)) 0 :: byt xid 24 :: byt xid 16 :: byt xid 8 :: byt xid 0 :: body
theorem right1 {x : Int} (h0 : 0 ≤ x) (h1 : x ≤ 255) : ref01_Right x 1 = true := by
  show (bif ((decide (x ≥ 0)) == true) then decide (x ≤ 255) else false) = true
  rw [decide_eq_true (show x ≥ 0 by omega), decide_eq_true h1]; rfl
theorem headB_H (kind xid : Int) (body : List Int) (hk : 0 ≤ kind ∧ kind ≤ 255) (hx : 0 ≤ xid ∧ xid ≤ 4294967295) (hL : body.length ≤ 60000) : headB kind xid body = msgH kind xid body := by
  unfold headB numP
  rw [right1 hk.1 hk.2, right2 (x := 8 + ((body.length : Nat) : Int)) (by omega) (by omega), right4 hx.1 hx.2]
  rfl
theorem msgH_len (kind xid : Int) (body : List Int) : (msgH kind xid body).length = body.length + 8 := rfl
theorem msgH_says (kind xid : Int) (body more : List Int) (hL : body.length ≤ 60000) : saysS (msgH kind xid body ++ more) = (8 + ((body.length : Nat) : Int), true) := by
  have h2 : two (msgH kind xid body ++ more) = 8 + ((body.length : Nat) : Int) := byt_two (by omega) (by omega)
  have hl : (msgH kind xid body ++ more).length = body.length + 8 + more.length := by rw [List.length_append, msgH_len]
  unfold saysS
  rw [h2, hl, decide_eq_false (show ¬ ((body.length + 8 + more.length : Nat) : Int) < 8 by omega), decide_eq_false (show ¬ 8 + ((body.length : Nat) : Int) < 8 by omega), decide_eq_true (show 8 + ((body.length : Nat) : Int) ≤ ((body.length + 8 + more.length : Nat) : Int) by omega)]
  rfl
theorem says_short {b : List Int} (h : b.length ≤ 7) : (saysS b).2 = false := by
  unfold saysS
  rw [decide_eq_true (show ((b.length : Nat) : Int) < 8 by omega)]; rfl
theorem msgs_pieces (kind xid : Int) (rest : List Int) (hr : rest.length ≤ 7) : ∀ (l : List (List Int)) (m : Nat), (∀ x ∈ l, x.length ≤ 60000) → l.length < m →
    (piecesS m ((l.map (msgH kind xid)).flatten ++ rest)).map (·.1) = l.map (msgH kind xid) ∧ restS m ((l.map (msgH kind xid)).flatten ++ rest) = rest
  | [], m + 1, _, _ => by
    unfold piecesS restS
    simp only [List.map_nil, List.flatten_nil, List.nil_append, says_short hr, cond_false, and_self]
  | x :: l, m + 1, h, hm => by
    have hx := h x (List.mem_cons_self ..)
    have hs := msgH_says kind xid x ((l.map (msgH kind xid)).flatten ++ rest) hx
    have hn : (8 + ((x.length : Nat) : Int)).toNat = (msgH kind xid x).length := by rw [msgH_len]; omega
    obtain ⟨i1, i2⟩ := msgs_pieces kind xid rest hr l m (fun y hy => h y (List.mem_cons_of_mem _ hy)) (by simpa using hm)
    unfold piecesS restS
    simp only [List.map_cons, List.flatten_cons, List.append_assoc, hs, cond_true, hn, List.take_left, List.drop_left]
    exact ⟨by rw [i1], i2⟩
end Go.Fn
