/- Terns, headers and cubes as numbers of 128 bits; what the document says of them. -/
import Derived.Test.YtagpigbfbhdoiaaPArr
namespace Go.Fn
open Go Go.Vi

abbrev W128 := BitVec 128
abbrev BT := W128 × W128
abbrev TyW : Ty := .pair (.int .u64) (.int .u64)
abbrev TyT : Ty := .pair TyW TyW
abbrev WideI := Int × Int
abbrev TernI := WideI × WideI
def Tn (t : BT) : TernI := (Wd t.1, Wd t.2)
theorem Tn_1 (t : BT) : (Tn t).1 = Wd t.1 := rfl
theorem Tn_2 (t : BT) : (Tn t).2 = Wd t.2 := rfl
theorem Tn_mk (a b : W128) : (Wd a, Wd b) = Tn (a, b) := rfl
theorem Tn_wf {a : TernI} (h : Wf TyT a) : ∃ t, a = Tn t := by
  obtain ⟨x, hx⟩ := Wd_wf h.1
  obtain ⟨y, hy⟩ := Wd_wf h.2
  exact ⟨(x, y), by unfold Tn; rw [← hx, ← hy]⟩
theorem Tn_inj {s t : BT} (h : Tn s = Tn t) : s = t := by
  unfold Tn at h
  rw [Prod.mk.injEq] at h
  exact Prod.ext (Wd_inj h.1) (Wd_inj h.2)
theorem Tn_beq (s t : BT) : beqT TyT (Tn s) (Tn t) = (s == t) := by
  show (beqT TyW (Wd s.1) (Wd t.1) && beqT TyW (Wd s.2) (Wd t.2)) = _
  rw [Wd_beq, Wd_beq]
  rfl
theorem Wd_0 : Wd 0#128 = (0, 0) := rfl
theorem Tn_0 : Tn (0#128, 0#128) = ((0, 0), 0, 0) := rfl

abbrev Cu := Nat → BT
abbrev He := Nat → W128
def cu (c : Cu) : List TernI := arrN 24 fun j => Tn (c j)
def hd (h : He) : List WideI := arrN 24 fun j => Wd (h j)
theorem cu_wf {a : List TernI} (h : Wf (.arr 24 TyT) a) : ∃ c, a = cu c := by
  have hl : a.length = 24 := h.1
  have hx : ∀ j, j < 24 → ∃ t, a.getD j ((0, 0), 0, 0) = Tn t := fun j hj => by
    rw [List.getD_eq_getElem?_getD, List.getElem?_eq_getElem (by omega)]
    exact Tn_wf (h.2 _ (List.getElem_mem _))
  refine ⟨fun j => if hj : j < 24 then (hx j hj).choose else (0, 0), ?_⟩
  refine (arr_of hl ((0, 0), 0, 0)).trans (arr_congr fun j hj => ?_)
  simp only [dif_pos hj]
  exact (hx j hj).choose_spec
theorem hd_wf {a : List WideI} (h : Wf (.arr 24 TyW) a) : ∃ c, a = hd c := by
  have hl : a.length = 24 := h.1
  have hx : ∀ j, j < 24 → ∃ t, a.getD j (0, 0) = Wd t := fun j hj => by
    rw [List.getD_eq_getElem?_getD, List.getElem?_eq_getElem (by omega)]
    exact Wd_wf (h.2 _ (List.getElem_mem _))
  refine ⟨fun j => if hj : j < 24 then (hx j hj).choose else 0, ?_⟩
  refine (arr_of hl (0, 0)).trans (arr_congr fun j hj => ?_)
  simp only [dif_pos hj]
  exact (hx j hj).choose_spec
theorem cu_get (c : Cu) {j : Nat} (hj : j < 24) (d : TernI) : List.getD (cu c) (Int.toNat (j : Int)) d = Tn (c j) := arr_getD' 24 _ d j hj
theorem hd_get (c : He) {j : Nat} (hj : j < 24) (d : WideI) : List.getD (hd c) (Int.toNat (j : Int)) d = Wd (c j) := arr_getD' 24 _ d j hj
theorem cu_gn (c : Cu) {j : Nat} (hj : j < 24) (d : TernI) : List.getD (cu c) j d = Tn (c j) := arr_getD 24 _ d j hj
theorem hd_gn (c : He) {j : Nat} (hj : j < 24) (d : WideI) : List.getD (hd c) j d = Wd (c j) := arr_getD 24 _ d j hj
theorem cu_congr {c c' : Cu} (h : ∀ j, j < 24 → c j = c' j) : cu c = cu c' := arr_congr fun j hj => by rw [h j hj]
theorem hd_congr {c c' : He} (h : ∀ j, j < 24 → c j = c' j) : hd c = hd c' := arr_congr fun j hj => by rw [h j hj]
theorem cu_0 : List.replicate 24 (((0, 0), 0, 0) : TernI) = cu fun _ => (0, 0) := arr_replicate 24 _
theorem hd_0 : List.replicate 24 ((0, 0) : WideI) = hd fun _ => 0 := arr_replicate 24 _
theorem cu_beq (c c' : Cu) : beqT (.arr 24 TyT) (cu c) (cu c') = allN 24 fun j => c j == c' j := by
  show beqL (beqT TyT) (arrN 24 _) (arrN 24 _) = _
  rw [beqL_tab]
  exact allN_congr fun j _ => Tn_beq _ _
theorem hd_beq (c c' : He) : beqT (.arr 24 TyW) (hd c) (hd c') = allN 24 fun j => c j == c' j := by
  show beqL (beqT TyW) (arrN 24 _) (arrN 24 _) = _
  rw [beqL_tab]
  exact allN_congr fun j _ => Wd_beq _ _
theorem cu_beq_true {c c' : Cu} (h : ∀ j, j < 24 → c j = c' j) : beqT (.arr 24 TyT) (cu c) (cu c') = true := by
  rw [cu_beq, allN_iff]; intro j hj; rw [h j hj]; simp
theorem hd_beq_true {c c' : He} (h : ∀ j, j < 24 → c j = c' j) : beqT (.arr 24 TyW) (hd c) (hd c') = true := by
  rw [hd_beq, allN_iff]; intro j hj; rw [h j hj]; simp

theorem cu_self (c : Cu) : beqT (.arr 24 TyT) (cu c) (cu c) = true := cu_beq_true fun _ _ => rfl
theorem hd_self (c : He) : beqT (.arr 24 TyW) (hd c) (hd c) = true := hd_beq_true fun _ _ => rfl

/-! ### what the document says -/
def tClean (t : BT) : BT := (t.1 &&& t.2, t.2)
def tHas (t : BT) (v : W128) : Bool := ((t.1 ^^^ v) &&& t.2) == 0#128
def tMeetOk (a b : BT) : Bool := ((a.1 ^^^ b.1) &&& (a.2 &&& b.2)) == 0#128
def tMeet (a b : BT) : BT := ((a.1 &&& a.2) ||| (b.1 &&& b.2), a.2 ||| b.2)
def tWithin (a b : BT) : Bool := ((b.2 &&& ~~~a.2) == 0#128) && tHas b a.1
def tOver (a b : BT) : BT := (((a.1 &&& a.2) &&& ~~~b.2) ||| (b.1 &&& b.2), a.2 ||| b.2)
def wApply (t : BT) (v : W128) : W128 := (v &&& ~~~t.2) ||| (t.1 &&& t.2)

theorem tHas_iff {t : BT} {v : W128} : tHas t v = true ↔ ∀ i, t.2.getLsbD i = true → t.1.getLsbD i = v.getLsbD i := by
  unfold tHas
  rw [beq_iff_eq, zero_iff]
  refine forall_congr' fun i => ?_
  rw [BitVec.getLsbD_and, BitVec.getLsbD_xor]
  cases t.1.getLsbD i <;> cases v.getLsbD i <;> cases t.2.getLsbD i <;> simp
theorem tMeetOk_iff {a b : BT} : tMeetOk a b = true ↔ ∀ i, a.2.getLsbD i = true → b.2.getLsbD i = true → a.1.getLsbD i = b.1.getLsbD i := by
  unfold tMeetOk
  rw [beq_iff_eq, zero_iff]
  refine forall_congr' fun i => ?_
  rw [BitVec.getLsbD_and, BitVec.getLsbD_and, BitVec.getLsbD_xor]
  cases a.1.getLsbD i <;> cases b.1.getLsbD i <;> cases a.2.getLsbD i <;> cases b.2.getLsbD i <;> simp
theorem tWithin_iff {a b : BT} : tWithin a b = true ↔ ∀ i, b.2.getLsbD i = true → a.2.getLsbD i = true ∧ b.1.getLsbD i = a.1.getLsbD i := by
  unfold tWithin
  rw [Bool.and_eq_true, tHas_iff, beq_iff_eq, zero_iff]
  constructor
  · rintro ⟨h1, h2⟩ i hi
    have := h1 i
    rw [BitVec.getLsbD_and, BitVec.getLsbD_not, hi, BitVec.lt_of_getLsbD hi |> decide_eq_true] at this
    exact ⟨by simpa using this, h2 i hi⟩
  · intro h
    refine ⟨fun i => ?_, fun i hi => (h i hi).2⟩
    rw [BitVec.getLsbD_and, BitVec.getLsbD_not]
    cases hb : b.2.getLsbD i with
    | false => rfl
    | true => rw [(h i hb).1]; simp

/-- A value has the bits of a meet just if it has those of both. -/
theorem tMeet_has (a b : BT) (v : W128) : (tHas a v && tHas b v) = (tMeetOk a b && tHas (tMeet a b) v) := by
  rw [Bool.eq_iff_iff, Bool.and_eq_true, Bool.and_eq_true, tHas_iff, tHas_iff, tMeetOk_iff, tHas_iff]
  unfold tMeet
  simp only [BitVec.getLsbD_or, BitVec.getLsbD_and]
  constructor
  · rintro ⟨h1, h2⟩
    refine ⟨fun i p q => (h1 i p).trans (h2 i q).symm, fun i h => ?_⟩
    have h1 := h1 i
    have h2 := h2 i
    revert h h1 h2
    cases a.1.getLsbD i <;> cases b.1.getLsbD i <;> cases a.2.getLsbD i <;> cases b.2.getLsbD i <;> cases v.getLsbD i <;> simp
  · rintro ⟨h1, h2⟩
    refine ⟨fun i => ?_, fun i => ?_⟩ <;>
    · have h1 := h1 i
      have h2 := h2 i
      revert h1 h2
      cases a.1.getLsbD i <;> cases b.1.getLsbD i <;> cases a.2.getLsbD i <;> cases b.2.getLsbD i <;> cases v.getLsbD i <;> simp

def cClean (c : Cu) : Cu := fun j => tClean (c j)
def cHas (c : Cu) (h : He) : Bool := allN 24 fun j => tHas (c j) (h j)
def cMeetOk (a b : Cu) : Bool := allN 24 fun j => tMeetOk (a j) (b j)
def cMeet (a b : Cu) : Cu := fun j => tMeet (a j) (b j)
def cWithin (a b : Cu) : Bool := allN 24 fun j => tWithin (a j) (b j)
def cPick (c : Cu) : He := fun j => (tClean (c j)).1
theorem cHas_iff {c : Cu} {h : He} : cHas c h = true ↔ ∀ j, j < 24 → tHas (c j) (h j) = true := allN_iff
theorem cMeet_has (a b : Cu) (h : He) : (cHas a h && cHas b h) = (cMeetOk a b && cHas (cMeet a b) h) := by
  have key : ∀ j, (tHas (a j) (h j) = true ∧ tHas (b j) (h j) = true) ↔ (tMeetOk (a j) (b j) = true ∧ tHas (cMeet a b j) (h j) = true) := fun j => by
    have := tMeet_has (a j) (b j) (h j)
    rw [← Bool.and_eq_true, ← Bool.and_eq_true, this]; rfl
  rw [Bool.eq_iff_iff, Bool.and_eq_true, Bool.and_eq_true]
  unfold cHas cMeetOk
  rw [allN_iff, allN_iff, allN_iff, allN_iff]
  constructor
  · rintro ⟨h1, h2⟩
    exact ⟨fun j hj => ((key j).1 ⟨h1 j hj, h2 j hj⟩).1, fun j hj => ((key j).1 ⟨h1 j hj, h2 j hj⟩).2⟩
  · rintro ⟨h1, h2⟩
    exact ⟨fun j hj => ((key j).2 ⟨h1 j hj, h2 j hj⟩).1, fun j hj => ((key j).2 ⟨h1 j hj, h2 j hj⟩).2⟩
end Go.Fn
