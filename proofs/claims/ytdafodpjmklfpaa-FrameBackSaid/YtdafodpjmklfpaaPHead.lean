/- The head of a message, as the document says. -/
import Derived.Test.YtdafodpjmklfpaaPNum
namespace Go.Fn
open Go Go.Vi

/-- A message's head and body. -/
def headB (kind xid : Int) (body : List Int) : List Int := numP (numP (numP (numP [] 4 1) kind 1) (8 + body.length) 2) xid 4 ++ body
theorem head_eq (k : Nat) (kind xid : Int) (body : List Int) (hL : body.length ≤ 140737488351232) :
    frame_Head (k + 6) kind xid body = some (bif ref01_Right kind 1 && ref01_Right xid 4 && decide ((body.length : Int) ≤ 65527) then (headB kind xid body, 0) else ([], 1)) ∧
    ref16_Head (k + 6) kind xid body = some (bif ref01_Right kind 1 && ref01_Right xid 4 && decide ((body.length : Int) ≤ 65527) then (headB kind xid body, 0) else ([], 1)) := by
  have l1 := numP_len [] 4 1
  have l2 := numP_len (numP [] 4 1) kind 1
  have l3 := numP_len (numP (numP [] 4 1) kind 1) (8 + body.length) 2
  have l4 := numP_len (numP (numP (numP [] 4 1) kind 1) (8 + body.length) 2) xid 4
  simp only [List.length_nil] at l1
  have hw : IntKind.wrap .i64 (8 + (body.length : Int)) = 8 + body.length := w64 (by omega) (by omega)
  have hc : decide (((numP (numP (numP (numP [] 4 1) kind 1) (8 + body.length) 2) xid 4).length + body.length) * 1 ≤ 140737488355328) = true := by
    rw [decide_eq_true_eq]; omega
  have hz : ([] : List Int).length ≤ 10000 := by simp
  cases h1 : ref01_Right kind 1 with
  | false => constructor <;> simp [frame_Head, ref16_Head, right_eq, obind_some, h1]
  | true =>
    cases h2 : ref01_Right xid 4 with
    | false => constructor <;> simp [frame_Head, ref16_Head, right_eq, obind_some, h1, h2]
    | true =>
      by_cases h3 : (body.length : Int) ≤ 65527
      · have h3' : ¬ (body.length : Int) > 65527 := by omega
        constructor
        · simp only [frame_Head, right_eq, obind_some, h1, h2, h3, h3', Bool.not_true, beq_self_eq_true, cond_true, decide_true, decide_false, cond_false, Bool.and_self, put_P k [] 4 1 hz, put_P k (numP [] 4 1) kind 1 (by omega), hw,
            put_P k (numP (numP [] 4 1) kind 1) (8 + body.length) 2 (by omega), put_P k (numP (numP (numP [] 4 1) kind 1) (8 + body.length) 2) xid 4 (by omega), hc]
          rfl
        · simp only [ref16_Head, right_eq, obind_some, h1, h2, h3, h3', Bool.not_true, beq_self_eq_true, cond_true, decide_true, decide_false, cond_false, Bool.and_self, ref_P k [] 4 1 hz, ref_P k (numP [] 4 1) kind 1 (by omega), hw,
            ref_P k (numP (numP [] 4 1) kind 1) (8 + body.length) 2 (by omega), ref_P k (numP (numP (numP [] 4 1) kind 1) (8 + body.length) 2) xid 4 (by omega), hc]
          rfl
      · have h3' : (body.length : Int) > 65527 := by omega
        constructor <;> simp [frame_Head, ref16_Head, right_eq, obind_some, h1, h2, h3, h3']
end Go.Fn
