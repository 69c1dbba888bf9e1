/- The parts of a cube that another one has not: what the code tells, what the document says. -/
import Derived.Test.YtagpigbfbhdoiaaPCube
namespace Go.Fn
open Go Go.Vi

def up (c : Cu) (f : Nat) (t : BT) : Cu := fun j => if j = f then t else c j
theorem up_set (c : Cu) (f : Nat) (t : BT) : List.set (cu c) f (Tn t) = cu (up c f t) := by
  unfold cu
  rw [arr_set]
  exact arr_congr fun j _ => by unfold up; split <;> rfl
/-- One field's bits, one behind the other: the parts, and what is left. -/
def fixes (f : Nat) (t : BT) : List Int → Cu → List Cu × Cu
  | [], c => ([], c)
  | i :: l, c => (up c f (tFix (c f) i (!hasB t.1 i)) :: (fixes f t l (up c f (tFix (c f) i (hasB t.1 i)))).1, (fixes f t l (up c f (tFix (c f) i (hasB t.1 i)))).2)
def fields (b : Cu) : Nat → Nat → Cu → List Cu
  | 0, _, _ => []
  | k + 1, i, c => (fixes i (b i) (tBits (c i) (b i)) c).1 ++ fields b k (i + 1) (fixes i (b i) (tBits (c i) (b i)) c).2
def partsS (a b : Cu) : List Cu := bif cMeetOk a b then fields b 24 0 (cClean a) else [cClean a]

theorem obind_assoc {α β γ : Type} (o : Option α) (g : α → Option β) (h : β → Option γ) : obind (obind o g) h = obind o fun z => obind (g z) h := by cases o <;> rfl
theorem obind_id {α : Type} (o : Option α) : obind o (fun z => some z) = o := by cases o <;> rfl

theorem fixes_length (f : Nat) (t : BT) : ∀ (l : List Int) (c : Cu), (fixes f t l c).1.length = l.length
  | [], _ => rfl
  | _ :: l, c => by simp [fixes, fixes_length f t l]
theorem fields_length (b : Cu) : ∀ (k i : Nat) (c : Cu), (fields b k i c).length ≤ 128 * k
  | 0, _, _ => Nat.le_refl _
  | k + 1, i, c => by
    have h1 : (tBits (c i) (b i)).length ≤ 128 := bitsL_le _ _
    have h2 := fields_length b k (i + 1) (fixes i (b i) (tBits (c i) (b i)) c).2
    simp only [fields, List.length_append, fixes_length]
    omega
theorem partsS_length (a b : Cu) : (partsS a b).length ≤ 3072 := by
  unfold partsS
  cases cMeetOk a b with
  | true => exact fields_length b 24 0 _
  | false => simp

theorem parts_inner (n : Nat) (b : Cu) (f : Nat) (hf : f < 24) (l : List Int) (hl : l.length ≤ 128) (k0 : List TernI → Int → List TernI → Option (List (List TernI))) :
    ∀ (suf pre : List Int) (m : Nat) (c : Cu), l = pre ++ suf → suf.length < m →
      carve_Parts_1.l1 n (f : Int) (cu b) (f : Int) l ((l.length : Nat) : Int) (Tn (b f)) k0 m ((pre.length : Nat) : Int) (cu c) =
        obind (k0 (cu b) ((f : Int) + 1) (cu (fixes f (b f) suf c).2)) fun z => some ((fixes f (b f) suf c).1.map cu ++ z)
  | [], pre, m + 1, c, h, _ => by
    have hlt : ¬ ((pre.length : Nat) : Int) < ((l.length : Nat) : Int) := by rw [h]; simp
    simp only [carve_Parts_1.l1, carve_Parts_1.s1, hlt, decide_false, cond_false, nx24 hf, fixes, List.map_nil, List.nil_append]
    exact (obind_id _).symm
  | x :: suf, pre, m + 1, c, h, hm => by
    have hlen : l.length = pre.length + suf.length + 1 := by rw [h]; simp; omega
    have hlt : ((pre.length : Nat) : Int) < ((l.length : Nat) : Int) := by omega
    have hin : inRange ((pre.length : Nat) : Int) l.length = true := inRange_true (by omega) hlt
    have hget : List.getD l pre.length 0 = x := by rw [h]; simp
    have hw : IntKind.wrap .i64 (((pre.length : Nat) : Int) + 1) = (((pre ++ [x]).length : Nat) : Int) := by
      rw [w64 (by omega) (by omega)]; simp
    have ih := parts_inner n b f hf l hl k0 suf (pre ++ [x]) m (up c f (tFix (c f) x (hasB (b f).1 x))) (by rw [h]; simp) (by simp at hm; omega)
    simp only [carve_Parts_1.l1, carve_Parts_1.s1, hlt, decide_true, cond_true, hin, Int.toNat_natCast, hget, cu_gn c hf, Tn_1, wide_has, obind_some, in24 hf, tern_fix, up_set, hw]
    rw [ih, obind_assoc]
    rfl

theorem parts_outer (n : Nat) (hn : 128 < n) (b : Cu) : ∀ (k i m : Nat) (c : Cu), i + k = 24 → k < m → carve_Parts_1.l0 n (cu b) m (i : Int) (cu c) = some ((fields b k i c).map cu)
  | 0, i, m + 1, c, hi, _ => by
    have : ¬ (i : Int) < 24 := by omega
    simp only [carve_Parts_1.l0, carve_Parts_1.s0, this, decide_false, cond_false]
    rfl
  | k + 1, i, m + 1, c, hi, hm => by
    have h24 : i < 24 := by omega
    have hb : (tBits (c i) (b i)).length ≤ 128 := bitsL_le _ _
    simp only [carve_Parts_1.l0, carve_Parts_1.s0, lt24 h24, cond_true, in24 h24, cu_get b h24, cu_get c h24, tern_bits n hn, obind_some]
    cases h0 : (((tBits (c i) (b i)).length : Nat) : Int) == 0 with
    | true =>
      have hnil : tBits (c i) (b i) = [] := by
        have : (((tBits (c i) (b i)).length : Nat) : Int) = 0 := by simpa using h0
        exact List.eq_nil_of_length_eq_zero (by omega)
      rw [cond_true, nx24 h24, show ((i : Int) + 1) = ((i + 1 : Nat) : Int) by omega, parts_outer n hn b k (i + 1) m c (by omega) (by omega)]
      simp only [fields, hnil, fixes, List.nil_append]
    | false =>
      rw [cond_false]
      have := parts_inner n b i h24 (tBits (c i) (b i)) hb (fun v27'' v28'' left'' => carve_Parts_1.l0 n v27'' m v28'' left'') (tBits (c i) (b i)) [] n c rfl (by omega)
      rw [show (((([] : List Int).length : Nat)) : Int) = 0 from rfl] at this
      rw [this, show ((i : Int) + 1) = ((i + 1 : Nat) : Int) by omega, parts_outer n hn b k (i + 1) m _ (by omega) (by omega), obind_some]
      simp only [fields, List.map_append]

theorem carve_parts1 (n : Nat) (hn : 128 < n) (a b : Cu) : carve_Parts_1 n (cu a) (cu b) = some ((partsS a b).map cu) := by
  simp only [carve_Parts_1, carve_Parts_1.s, cube_clean n (by omega), cube_meet n (by omega), obind_some]
  unfold partsS
  cases cMeetOk a b with
  | true =>
    simp only [cond_true, Bool.not_true, cond_false]
    exact parts_outer n hn b 24 0 n (cClean a) rfl (by omega)
  | false => rfl
theorem carve_parts (n : Nat) (hn : 128 < n) (a b : Cu) : carve_Parts n (cu a) (cu b) = some ((partsS a b).map cu) := by
  simp only [carve_Parts, carve_parts1 n hn, obind_some]

theorem cube_equal_loop (n : Nat) (s : List Cu) (hL : s.length ≤ 100000) : ∀ (k m i : Nat), i + k = s.length → k < m → slices_Equal_Cube.l0 n (s.map cu) (s.map cu) ((s.map cu).length : Int) m (i : Int) = some true
  | 0, m + 1, i, hi, _ => by
    simp only [slices_Equal_Cube.l0, slices_Equal_Cube.s0, show ¬ (((i : Nat) : Int) < (((s.map cu).length : Nat) : Int)) by rw [List.length_map]; omega, decide_false, cond_false]
  | k + 1, m + 1, i, hi, hm => by
    have hlt : (((i : Nat) : Int) < (((s.map cu).length : Nat) : Int)) := by rw [List.length_map]; omega
    have hin : inRange ((i : Nat) : Int) (s.map cu).length = true := inRange_true (by omega) hlt
    have hg : List.getD (s.map cu) (Int.toNat ((i : Nat) : Int)) (List.replicate 24 ((0, 0), 0, 0)) = cu (s[i]'(by omega)) := by
      rw [Int.toNat_natCast, List.getD_eq_getElem?_getD, List.getElem?_map, List.getElem?_eq_getElem (by omega)]; rfl
    have hw : IntKind.wrap .i64 (((i : Nat) : Int) + 1) = ((i + 1 : Nat) : Int) := by rw [w64 (by omega) (by omega)]; omega
    simp only [slices_Equal_Cube.l0, slices_Equal_Cube.s0, hlt, decide_true, cond_true, hin, hg, hw]
    have hself : beqT TCube (cu (s[i]'(by omega))) (cu (s[i]'(by omega))) = true := cu_self _
    rw [hself]
    exact cube_equal_loop n s hL k m (i + 1) (by omega) (by omega)
theorem cube_equal (n : Nat) (s : List Cu) (hL : s.length ≤ 100000) (hn : s.length < n) : slices_Equal_Cube n (s.map cu) (s.map cu) = some true := by
  simp only [slices_Equal_Cube, slices_Equal_Cube.s, bne_self_eq_false, cond_false]
  exact cube_equal_loop n s hL s.length n 0 (by omega) hn
end Go.Fn
