/- The natives of terns, as the document has them (clean, has, meet). -/
import Derived.Test.YtagpigbfbhdoiaaPWide1
namespace Go.Fn
open Go Go.Vi

theorem tern_clean (t : BT) : tern_Clean (Tn t) = Tn (tClean t) := by
  simp only [tern_Clean, Tn, wide_and, tClean]
theorem tern_has (t : BT) (v : W128) : tern_Has (Tn t) (Wd v) = tHas t v := by
  simp only [tern_Has, tern_unlike, Tn, wide_and, wide_xor, wide_zero, tHas]
theorem tern_meet (a b : BT) : tern_Meet (Tn a) (Tn b) = bif tMeetOk a b then (Tn (tMeet a b), true) else (Tn (0, 0), false) := by
  have h : tern_Has ((Tn a).1, wide_And (Tn a).2 (Tn b).2) (Tn b).1 = tMeetOk a b := by
    rw [show wide_And (Tn a).2 (Tn b).2 = Wd (a.2 &&& b.2) from wide_and _ _]
    exact tern_has (a.1, a.2 &&& b.2) b.1
  unfold tern_Meet
  simp only [h]
  cases tMeetOk a b with
  | false => rfl
  | true => simp only [Bool.not_true, cond_false, cond_true, tern_clean, Tn_1, Tn_2, tClean, wide_or]; rfl
theorem ref05_clean (t : BT) : ref05_Clean (Tn t) = Tn (tClean t) := by
  simp only [ref05_Clean, Tn, ref02_and, tClean]
theorem ref05_meet (a b : BT) : ref05_Meet (Tn a) (Tn b) = bif tMeetOk a b then (Tn (tMeet a b), true) else (Tn (0, 0), false) := by
  have h : ref02_Zero (ref02_And (ref02_Xor (Tn a).1 (Tn b).1) (ref02_And (Tn a).2 (Tn b).2)) = tMeetOk a b := by
    simp only [Tn, ref02_and, ref02_xor, ref02_zero, tMeetOk]
  unfold ref05_Meet
  simp only [h]
  cases tMeetOk a b with
  | false => rfl
  | true => simp only [Bool.not_true, cond_false, cond_true, ref05_clean, Tn_1, Tn_2, tClean, ref02_or]; rfl
end Go.Fn
