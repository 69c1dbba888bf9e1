/- The search for a header that none of a list has: what the code tells, what the document says. -/
import Derived.Test.YtagpigbfbhdoiaaPParts
namespace Go.Fn
open Go Go.Vi

theorem within_meet {a b : Cu} (h : cWithin a b = true) : cMeetOk a b = true := by
  have h' := allN_iff.1 h
  refine allN_iff.2 fun j hj => ?_
  exact tMeetOk_iff.2 fun i _ hi => ((tWithin_iff.1 (h' j hj) i hi).2).symm

/-- The first of a list that a cube meets, and those behind it. -/
def firstS (c : Cu) : List Cu → Option (Cu × List Cu)
  | [] => none
  | x :: l => bif cMeetOk c x then some (x, l) else firstS c l
def idxS (c : Cu) : List Cu → Nat → Int
  | [], _ => -1
  | x :: l, i => bif cMeetOk c x then (i : Int) else idxS c l (i + 1)
theorem idxS_first (c : Cu) : ∀ (l : List Cu) (i : Nat), (idxS c l i = -1 ∧ firstS c l = none) ∨ ∃ pre x suf, l = pre ++ x :: suf ∧ idxS c l i = ((i + pre.length : Nat) : Int) ∧ firstS c l = some (x, suf)
  | [], _ => .inl ⟨rfl, rfl⟩
  | x :: l, i => by
    unfold idxS firstS
    cases cMeetOk c x with
    | true => exact .inr ⟨[], x, l, rfl, rfl, rfl⟩
    | false =>
      rcases idxS_first c l (i + 1) with ⟨h1, h2⟩ | ⟨pre, y, suf, h1, h2, h3⟩
      · exact .inl ⟨h1, h2⟩
      · refine .inr ⟨x :: pre, y, suf, by rw [h1]; rfl, ?_, h3⟩
        rw [cond_false, h2]
        simp only [List.length_cons]; omega

/-- The answer of a loop over the parts. -/
def ploop (rec : Cu → Int → He × Bool × Int) : List Cu → Int → He × Bool × Int
  | [], left => (fun _ => 0, false, left)
  | p :: ps, left => bif (rec p left).2.1 || decide ((rec p left).2.2 < 0) then rec p left else ploop rec ps (rec p left).2.2
def lookS (free : Bool) : Nat → Cu → List Cu → Int → He × Bool × Int
  | 0, _, _, left => (fun _ => 0, false, left)
  | k + 1, c, l, left =>
    bif !free && decide (left < 1) then (fun _ => 0, false, -1) else
    bif l.any (cWithin c) then (fun _ => 0, false, bif free then left else left - 1) else
    match firstS c l with
    | none => (cPick c, true, bif free then left else left - 1)
    | some (x, suf) => ploop (fun p left => lookS free k p suf left) (partsS c x) (bif free then left else left - 1)

theorem hd_zero : hd (fun _ => 0) = List.replicate 24 (0, 0) := hd_0.symm
theorem hd_zero' : hd (fun _ => 0) = ([(0, 0), (0, 0), (0, 0), (0, 0), (0, 0), (0, 0), (0, 0), (0, 0), (0, 0), (0, 0), (0, 0), (0, 0), (0, 0), (0, 0), (0, 0), (0, 0), (0, 0), (0, 0), (0, 0), (0, 0), (0, 0), (0, 0), (0, 0), (0, 0)] : List WideI) := by
  rw [hd_zero]; rfl

theorem cus_get (pre : List Cu) (x : Cu) (suf : List Cu) : List.getD ((pre ++ x :: suf).map cu) pre.length (List.replicate 24 ((0, 0), 0, 0)) = cu x := by
  rw [List.getD_eq_getElem?_getD, List.getElem?_map]; simp

theorem among_loop (n : Nat) (hn : 24 < n) (c : Cu) (l : List Cu) (hL : l.length ≤ 4611686018427387904) : ∀ (suf pre : List Cu) (m : Nat) (first : Int), l = pre ++ suf → suf.length < m →
    (suf.any (cWithin c) = true → ∃ j, cover_among.l0 n (l.map cu) ((l.length : Nat) : Int) (cu c) m first ((pre.length : Nat) : Int) = some (true, j)) ∧
    (suf.any (cWithin c) = false → cover_among.l0 n (l.map cu) ((l.length : Nat) : Int) (cu c) m first ((pre.length : Nat) : Int) = some (false, bif decide (first < 0) then (bif decide (idxS c suf pre.length < 0) then first else idxS c suf pre.length) else first))
  | [], pre, m + 1, first, he, _ => by
    have hlt : ¬ ((pre.length : Nat) : Int) < ((l.length : Nat) : Int) := by rw [he]; simp
    refine ⟨fun h => by simp at h, fun _ => ?_⟩
    simp only [cover_among.l0, cover_among.s0, hlt, decide_false, cond_false, idxS]
    cases decide (first < 0) <;> rfl
  | x :: suf, pre, m + 1, first, he, hm => by
    have hlen : l.length = pre.length + suf.length + 1 := by rw [he]; simp; omega
    have hlt : ((pre.length : Nat) : Int) < ((l.length : Nat) : Int) := by omega
    have hin : inRange ((pre.length : Nat) : Int) (l.map cu).length = true := inRange_true (by omega) (by rw [List.length_map]; exact hlt)
    have hg : List.getD (l.map cu) pre.length (List.replicate 24 ((0, 0), 0, 0)) = cu x := by rw [he]; exact cus_get pre x suf
    have hw : IntKind.wrap .i64 (((pre.length : Nat) : Int) + 1) = (((pre ++ [x]).length : Nat) : Int) := by rw [w64 (by omega) (by omega)]; simp
    simp only [List.length_cons] at hm
    have ih := fun first' => among_loop n hn c l hL suf (pre ++ [x]) m first' (by rw [he]; simp) (by omega)
    have hi1 : (pre ++ [x]).length = pre.length + 1 := by simp
    simp only [cover_among.l0, cover_among.s0, hlt, decide_true, cond_true, hin, Int.toNat_natCast, hg, cube_meet n hn, cube_within n hn, obind_some, hw, List.any_cons, idxS]
    rcases (Bool.eq_false_or_eq_true (cMeetOk c x)).symm with hme | hme
    · have hwi : cWithin c x = false := by
        cases h : cWithin c x with
        | false => rfl
        | true => rw [within_meet h] at hme; cases hme
      have := ih first
      rw [hi1] at this
      simp only [hme, hwi, Bool.false_or, cond_false, Bool.not_false, cond_true, hi1]
      exact this
    · simp only [hme, cond_true, Bool.not_true, cond_false]
      cases hwi : cWithin c x with
      | true => exact ⟨fun _ => ⟨_, rfl⟩, fun h => by simp at h⟩
      | false =>
        simp only [Bool.false_or, cond_false]
        have hpos : decide (((pre.length : Nat) : Int) < 0) = false := by rw [decide_eq_false_iff_not]; omega
        cases hf : decide (first < 0) with
        | true =>
          have := ih ((pre.length : Nat) : Int)
          rw [hi1, hpos] at this
          simp only [cond_true, hpos, cond_false, hi1]
          exact this
        | false =>
          have := ih first
          rw [hi1, hf] at this
          simp only [cond_false, hi1]
          exact this
theorem cover_among_eq (n : Nat) (hn : 24 < n) (c : Cu) (l : List Cu) (hL : l.length ≤ 4611686018427387904) (hl : l.length < n) :
    (l.any (cWithin c) = true → ∃ j, cover_among n (cu c) (l.map cu) = some (true, j)) ∧ (l.any (cWithin c) = false → cover_among n (cu c) (l.map cu) = some (false, idxS c l 0)) := by
  have := among_loop n hn c l hL l [] n (-1) rfl hl
  simp only [cover_among, cover_among.s, List.length_map]
  refine ⟨this.1, fun h => (this.2 h).trans ?_⟩
  rw [show decide ((-1 : Int) < 0) = true from rfl, cond_true]
  rcases idxS_first c l 0 with ⟨h1, h2⟩ | ⟨pre, x, suf, h1, h2, h3⟩
  · rw [show ([] : List Cu).length = 0 from rfl, h1]; rfl
  · have : decide (idxS c l ([] : List Cu).length < 0) = false := by
      rw [decide_eq_false_iff_not]; show ¬ idxS c l 0 < 0; rw [h2]; omega
    rw [this]; rfl
end Go.Fn
