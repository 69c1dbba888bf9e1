/- Which cubes of a list meet one, and how many steps are enough: the code's and the document's are the same. -/
import Derived.Test.YtagpigbfbhdoiaaPCover2
namespace Go.Fn
open Go Go.Vi

def meetsS (c : Cu) (l : List Cu) : List Cu := l.filter fun x => cMeetOk c x
theorem meetsS_length (c : Cu) (l : List Cu) : (meetsS c l).length ≤ l.length := List.length_filter_le _ _

theorem meets_loop (n : Nat) (hn : 24 < n) (c : Cu) (l : List Cu) (hL : l.length * 768 ≤ 140737488355328) : ∀ (suf pre : List Cu) (m : Nat) (out : List Cu), l = pre ++ suf → suf.length < m → out.length ≤ pre.length →
    cover_Meets.l0 n (l.map cu) ((l.length : Nat) : Int) (cu c) m (out.map cu) ((pre.length : Nat) : Int) = some ((out ++ meetsS c suf).map cu) ∧
    ref08_Meets.l0 n (l.map cu) (cu c) m (out.map cu) ((pre.length : Nat) : Int) = some ((out ++ meetsS c suf).map cu)
  | [], pre, m + 1, out, he, _, _ => by
    have hlt : ¬ ((pre.length : Nat) : Int) < ((l.length : Nat) : Int) := by rw [he]; simp
    simp [cover_Meets.l0, cover_Meets.s0, ref08_Meets.l0, ref08_Meets.s0, List.length_map, hlt, meetsS]
  | x :: suf, pre, m + 1, out, he, hm, ho => by
    have hlen : l.length = pre.length + suf.length + 1 := by rw [he]; simp; omega
    have hlt : ((pre.length : Nat) : Int) < ((l.length : Nat) : Int) := by omega
    have hin : inRange ((pre.length : Nat) : Int) l.length = true := inRange_true (by omega) hlt
    have hg : List.getD (l.map cu) pre.length (List.replicate 24 ((0, 0), 0, 0)) = cu x := by rw [he]; exact cus_get pre x suf
    have hw : IntKind.wrap .i64 (((pre.length : Nat) : Int) + 1) = (((pre ++ [x]).length : Nat) : Int) := by rw [w64 (by omega) (by omega)]; simp
    have hc : decide ((out.length + List.length ([cu x] : List (List TernI))) * 768 ≤ 140737488355328) = true := by
      rw [decide_eq_true_eq]
      have hle : out.length + 1 ≤ l.length := by clear hL; omega
      exact Nat.le_trans (Nat.mul_le_mul_right 768 hle) hL
    simp only [List.length_cons] at hm
    simp only [cover_Meets.l0, cover_Meets.s0, ref08_Meets.l0, ref08_Meets.s0, List.length_map, hlt, decide_true, cond_true, hin, Int.toNat_natCast, hg, cube_meet n hn, ref06_meet n hn, obind_some, hw, hc]
    rcases (Bool.eq_false_or_eq_true (cMeetOk c x)).symm with hme | hme
    · have := meets_loop n hn c l hL suf (pre ++ [x]) m out (by rw [he]; simp) (by omega) (by simp; omega)
      rw [show meetsS c (x :: suf) = meetsS c suf by unfold meetsS; rw [List.filter_cons, hme]; rfl]
      simp only [hme, cond_false]
      exact this
    · have := meets_loop n hn c l hL suf (pre ++ [x]) m (out ++ [x]) (by rw [he]; simp) (by omega) (by simp; omega)
      rw [show meetsS c (x :: suf) = x :: meetsS c suf by unfold meetsS; rw [List.filter_cons, hme]; rfl]
      simp only [hme, cond_true, show out.map cu ++ [cu x] = (out ++ [x]).map cu by simp]
      rw [show out ++ x :: meetsS c suf = out ++ [x] ++ meetsS c suf by simp]
      exact this
theorem cover_meets (n : Nat) (hn : 24 < n) (c : Cu) (l : List Cu) (hL : l.length * 768 ≤ 140737488355328) (hl : l.length < n) : cover_Meets n (cu c) (l.map cu) = some ((meetsS c l).map cu) := by
  have := (meets_loop n hn c l hL l [] n [] rfl hl (Nat.le_refl _)).1
  simp only [cover_Meets, cover_Meets.s, List.length_map]
  exact this
theorem ref08_meets (n : Nat) (hn : 24 < n) (c : Cu) (l : List Cu) (hL : l.length * 768 ≤ 140737488355328) (hl : l.length < n) : ref08_Meets n (cu c) (l.map cu) = some ((meetsS c l).map cu) :=
  (meets_loop n hn c l hL l [] n [] rfl hl (Nat.le_refl _)).2

def capI (n : Int) : Int := minI n 1099511627776
def boundL : List Cu → Int → Int
  | [], n => n
  | x :: l, n => boundL l (capI (n * maxI (cSize x : Int) 1))
def boundS (c : Cu) (l : List Cu) : Int := boundL (meetsS c l) (capI (((meetsS c l).length : Int) + 1))
theorem capI_range {n : Int} (h : 0 ≤ n) : 0 ≤ capI n ∧ capI n ≤ 1099511627776 := by unfold capI minI; split <;> omega
theorem cSize_le (c : Cu) : cSize c ≤ 3072 := cSizeTo_le c 24

theorem mul_range {n s : Int} (h0 : 0 ≤ n) (h1 : n ≤ 1099511627776) (h2 : 0 ≤ s) (h3 : s ≤ 3072) : 0 ≤ n * s ∧ n * s ≤ 9223372036854775807 :=
  ⟨Int.mul_nonneg h0 h2, Int.le_trans (Int.mul_le_mul h1 h3 h2 (by decide)) (by decide)⟩
theorem bound_loop (n : Nat) (hn : 128 < n) (l : List Cu) (hL : l.length ≤ 4611686018427387904) : ∀ (suf pre : List Cu) (m : Nat) (b : Int), l = pre ++ suf → suf.length < m → 0 ≤ b → b ≤ 1099511627776 →
    cover_Bound.l0 n (l.map cu) ((l.length : Nat) : Int) m b ((pre.length : Nat) : Int) = some (boundL suf b) ∧
    ref08_Bound.l0 n (l.map cu) m b ((pre.length : Nat) : Int) = some (boundL suf b)
  | [], pre, m + 1, b, he, _, _, _ => by
    have hlt : ¬ ((pre.length : Nat) : Int) < ((l.length : Nat) : Int) := by rw [he]; simp
    simp only [cover_Bound.l0, cover_Bound.s0, ref08_Bound.l0, ref08_Bound.s0, List.length_map, hlt, decide_false, cond_false, boundL, and_self]
  | x :: suf, pre, m + 1, b, he, hm, h0, h1 => by
    have hlen : l.length = pre.length + suf.length + 1 := by rw [he]; simp; omega
    have hlt : ((pre.length : Nat) : Int) < ((l.length : Nat) : Int) := by omega
    have hin : inRange ((pre.length : Nat) : Int) l.length = true := inRange_true (by omega) hlt
    have hg : List.getD (l.map cu) pre.length (List.replicate 24 ((0, 0), 0, 0)) = cu x := by rw [he]; exact cus_get pre x suf
    have hw : IntKind.wrap .i64 (((pre.length : Nat) : Int) + 1) = (((pre ++ [x]).length : Nat) : Int) := by rw [w64 (by omega) (by omega)]; simp
    have hs := cSize_le x
    have hmx : 0 ≤ maxI (cSize x : Int) 1 ∧ maxI (cSize x : Int) 1 ≤ 3072 := by unfold maxI; split <;> omega
    have hr := mul_range h0 h1 hmx.1 hmx.2
    simp only [List.length_cons] at hm
    have ih := bound_loop n hn l hL suf (pre ++ [x]) m (capI (b * maxI (cSize x : Int) 1)) (by rw [he]; simp) (by omega) (capI_range hr.1).1 (capI_range hr.1).2
    simp only [cover_Bound.l0, cover_Bound.s0, ref08_Bound.l0, ref08_Bound.s0, List.length_map, hlt, decide_true, cond_true, hin, Int.toNat_natCast, hg, cube_size n (by omega), ref06_size n hn, obind_some, hw]
    rw [w64 (n := b * maxI (cSize x : Int) 1) (by omega) (by omega)]
    exact ih
theorem cover_bound (n : Nat) (hn : 128 < n) (c : Cu) (l : List Cu) (hL : l.length * 768 ≤ 140737488355328) (hl : l.length < n) : cover_Bound n (cu c) (l.map cu) = some (boundS c l) := by
  have hml := meetsS_length c l
  simp only [cover_Bound, cover_Bound.s, cover_meets n (by omega) c l hL hl, obind_some, List.length_map]
  rw [w64 (n := ((meetsS c l).length : Int) + 1) (by omega) (by omega)]
  exact (bound_loop n hn (meetsS c l) (by omega) (meetsS c l) [] n _ rfl (by omega) (capI_range (by omega)).1 (capI_range (by omega)).2).1
theorem ref08_bound (n : Nat) (hn : 128 < n) (c : Cu) (l : List Cu) (hL : l.length * 768 ≤ 140737488355328) (hl : l.length < n) : ref08_Bound n (cu c) (l.map cu) = some (boundS c l) := by
  have hml := meetsS_length c l
  simp only [ref08_Bound, ref08_Bound.s, ref08_meets n (by omega) c l hL hl, obind_some, List.length_map]
  rw [w64 (n := ((meetsS c l).length : Int) + 1) (by omega) (by omega)]
  exact (bound_loop n hn (meetsS c l) (by omega) (meetsS c l) [] n _ rfl (by omega) (capI_range (by omega)).1 (capI_range (by omega)).2).2

/-- What the code's search answers. -/
def LookS (k : Nat) (c : Cu) (l : List Cu) (most : Int) : He × Bool × Int := lookS (decide (most ≥ 1099511627776)) k c l (maxI most 0)
def ansS (r : He × Bool × Int) : List WideI × Bool × Int := bif decide (r.2.2 < 0) then (hd (fun _ => 0), false, 5) else (hd r.1, r.2.1, 0)
theorem most_range {most : Int} (h : most ≤ 9223372036854775807) : 0 ≤ maxI most 0 ∧ maxI most 0 ≤ 9223372036854775807 := by unfold maxI; split <;> omega
theorem cover_look (n : Nat) (hn : 4000 ≤ n) (c : Cu) (l : List Cu) (most : Int) (hm : most ≤ 9223372036854775807) (hl : l.length < n) (hL : l.length ≤ 4611686018427387904) : cover_Look n (cu c) (l.map cu) most = some (ansS (LookS n c l most)) := by
  have := look_code n hn (decide (most ≥ 1099511627776)) n c l (maxI most 0) hl hl hL (most_range hm).1 (most_range hm).2
  simp only [cover_Look, this, obind_some]
  unfold ansS LookS
  generalize lookS (decide (most ≥ 1099511627776)) n c l (maxI most 0) = r
  by_cases h : r.2.2 < 0
  · simp only [h, decide_true, decide_eq_false (show ¬ 0 ≤ r.2.2 by omega), Bool.not_false, cond_true, hd_zero']
  · simp only [h, decide_false, decide_eq_true (show 0 ≤ r.2.2 by omega), Bool.not_true, cond_false]
theorem ref08_look_eq (n : Nat) (hn : 4000 ≤ n) (c : Cu) (l : List Cu) (most : Int) (hm : most ≤ 9223372036854775807) (hl : l.length < n) (hL : l.length ≤ 4611686018427387904) : ref08_Look n (cu c) (l.map cu) most = some (ansS (LookS n c l most)) := by
  have := look_ref n hn (decide (most ≥ 1099511627776)) n c l (maxI most 0) hl hl hL (most_range hm).1 (most_range hm).2
  simp only [ref08_Look, this, obind_some]
  unfold ansS LookS
  generalize lookS (decide (most ≥ 1099511627776)) n c l (maxI most 0) = r
  by_cases h : r.2.2 < 0
  · simp only [h, decide_true, cond_true, hd_zero']
  · simp only [h, decide_false, cond_false]

theorem cus_wf : ∀ {a : List (List TernI)}, (∀ x ∈ a, Wf (.arr 24 TyT) x) → ∃ l : List Cu, a = l.map cu
  | [], _ => ⟨[], rfl⟩
  | x :: a, h => by
    obtain ⟨c, rfl⟩ := cu_wf (h x (by simp))
    obtain ⟨l, rfl⟩ := cus_wf (a := a) fun y hy => h y (List.mem_cons_of_mem _ hy)
    exact ⟨c :: l, rfl⟩
theorem cover_awake (k : Nat) : law08_awake (k + 140) = some true := by kernel_rfl

theorem cover_light (n : Nat) (hn : 4000 ≤ n) (c : Cu) (l : List Cu) (most : Int) : ∃ b, law08_light n (cu c) (l.map cu) most = some b ∧ (b = true → l.length ≤ 12) := by
  unfold law08_light
  rw [List.length_map]
  by_cases h : ((l.length : Nat) : Int) ≤ 12
  · simp only [h, decide_true, beq_self_eq_true, cond_true, ref08_bound n (by omega) c l (by omega) (by omega), obind_some]
    cases decide (most ≤ 16384) with
    | true => exact ⟨true, rfl, fun _ => by omega⟩
    | false => exact ⟨_, rfl, fun _ => by omega⟩
  · simp only [h, decide_false, show (false == true) = false from rfl, cond_false]
    exact ⟨false, rfl, fun h => by cases h⟩
end Go.Fn
