/- The natives of cubes, as the document has them. -/
import Derived.Test.YtagpigbfbhdoiaaPTern2
import Derived.Test.YtagpigbfbhdoiaaPWide4r
import Derived.Test.YtagpigbfbhdoiaaPMany
namespace Go.Fn
open Go Go.Vi

theorem ref05_has (t : BT) (v : W128) : ref05_Has (Tn t) (Wd v) = tHas t v := by
  simp only [ref05_Has, Tn_1, Tn_2, ref02_xor, ref02_and, ref02_zero, tHas]
theorem cube_each_eq (n : Nat) (hn : 24 < n) (f : Int → Option (TernI × Bool)) (p : Nat → Bool) (g : Cu) (hf : ∀ i : Nat, i < 24 → f (i : Int) = some (bif p i then (Tn (g i), true) else (Tn (0, 0), false))) :
    cube_each n f = bif allN 24 p then some (cu g, true) else some (cu (fun _ => (0, 0)), false) := by
  show cube_each.l0 n f (List.replicate 24 ((0, 0), 0, 0)) n 0 (List.replicate 24 ((0, 0), 0, 0)) = _
  rw [loopN_start (step := fun i out => bif p i then .inr (List.set out i (Tn (g i))) else .inl (some (cu (fun _ => (0, 0)), false))) (fin := fun out => some (out, true)) (fun m out i => cube_each.l0 n f (List.replicate 24 ((0, 0), 0, 0)) m i out) 24
    (fun m s i hi => by
      simp only [cube_each.l0, cube_each.s0, lt24 hi, cond_true, hf i hi, obind_some, in24 hi, nx24 hi, Int.toNat_natCast]
      cases p i <;> rfl)
    (fun m s => by simp only [cube_each.l0, cube_each.s0]; rfl) hn, cu_0]
  exact loopN_setAll0 _ _ 24 p (fun i => Tn (g i)) _
theorem cube_meet (n : Nat) (hn : 24 < n) (a b : Cu) : cube_Meet n (cu a) (cu b) = some (bif cMeetOk a b then (cu (cMeet a b), true) else (cu (fun _ => (0, 0)), false)) := by
  unfold cube_Meet
  rw [cube_each_eq n hn _ (fun j => tMeetOk (a j) (b j)) (cMeet a b) (fun i hi => by
    simp only [cube_Meet_1, in24 hi, cond_true, Int.toNat_natCast, cu_gn a hi, cu_gn b hi, tern_meet, obind_some]
    cases tMeetOk (a i) (b i) <;> rfl)]
  show obind (bif cMeetOk a b then _ else _) _ = _
  cases cMeetOk a b <;> rfl
theorem ref06_meet (n : Nat) (hn : 24 < n) (a b : Cu) : ref06_Meet n (cu a) (cu b) = some (bif cMeetOk a b then (cu (cMeet a b), true) else (cu (fun _ => (0, 0)), false)) := by
  show ref06_Meet.l0 n (cu a) (cu b) (List.replicate 24 ((0, 0), 0, 0)) n 0 (List.replicate 24 ((0, 0), 0, 0)) = _
  rw [loopN_start (step := fun i out => bif tMeetOk (a i) (b i) then .inr (List.set out i (Tn (cMeet a b i))) else .inl (some (cu (fun _ => (0, 0)), false))) (fin := fun out => some (out, true)) (fun m out i => ref06_Meet.l0 n (cu a) (cu b) (List.replicate 24 ((0, 0), 0, 0)) m i out) 24
    (fun m s i hi => by
      simp only [ref06_Meet.l0, ref06_Meet.s0, lt24 hi, cond_true, in24 hi, Int.toNat_natCast, cu_gn a hi, cu_gn b hi, ref05_meet, obind_some, nx24 hi]
      cases tMeetOk (a i) (b i) <;> rfl)
    (fun m s => by simp only [ref06_Meet.l0, ref06_Meet.s0]; rfl) hn, cu_0]
  refine (loopN_setAll0 _ _ 24 (fun i => tMeetOk (a i) (b i)) (fun i => Tn (cMeet a b i)) _).trans ?_
  show (bif cMeetOk a b then _ else _) = _
  cases cMeetOk a b <;> rfl
theorem cube_has (n : Nat) (hn : 24 < n) (c : Cu) (h : He) : cube_Has n (cu c) (hd h) = some (cHas c h) := by
  show cube_Has.l0 n (cu c) (hd h) n 0 = _
  rw [loopN_start (σ := Unit) (step := fun i (_ : Unit) => bif tHas (c i) (h i) then .inr () else .inl (some false)) (fin := fun _ => some true) (fun m _ i => cube_Has.l0 n (cu c) (hd h) m i) 24
    (fun m s i hi => by
      simp only [cube_Has.l0, cube_Has.s0, lt24 hi, cond_true, in24 hi, Int.toNat_natCast, cu_gn c hi, hd_gn h hi, tern_has, obind_some, nx24 hi]
      cases tHas (c i) (h i) <;> rfl)
    (fun m s => by simp only [cube_Has.l0, cube_Has.s0]; rfl) hn, loopN_all0]
  unfold cHas
  cases allN 24 fun j => tHas (c j) (h j) <;> rfl
theorem ref06_has (n : Nat) (hn : 24 < n) (c : Cu) (h : He) : ref06_Has n (cu c) (hd h) = some (cHas c h) := by
  show ref06_Has.l0 n (cu c) (hd h) n 0 = _
  rw [loopN_start (σ := Unit) (step := fun i (_ : Unit) => bif tHas (c i) (h i) then .inr () else .inl (some false)) (fin := fun _ => some true) (fun m _ i => ref06_Has.l0 n (cu c) (hd h) m i) 24
    (fun m s i hi => by
      simp only [ref06_Has.l0, ref06_Has.s0, lt24 hi, cond_true, in24 hi, Int.toNat_natCast, cu_gn c hi, hd_gn h hi, ref05_has, obind_some, nx24 hi]
      cases tHas (c i) (h i) <;> rfl)
    (fun m s => by simp only [ref06_Has.l0, ref06_Has.s0]; rfl) hn, loopN_all0]
  unfold cHas
  cases allN 24 fun j => tHas (c j) (h j) <;> rfl
theorem cube_within (n : Nat) (hn : 24 < n) (a b : Cu) : cube_Within n (cu a) (cu b) = some (cWithin a b) := by
  show cube_Within.l0 n (cu a) (cu b) n 0 = _
  rw [loopN_start (σ := Unit) (step := fun i (_ : Unit) => bif tWithin (a i) (b i) then .inr () else .inl (some false)) (fin := fun _ => some true) (fun m _ i => cube_Within.l0 n (cu a) (cu b) m i) 24
    (fun m s i hi => by
      simp only [cube_Within.l0, cube_Within.s0, lt24 hi, cond_true, in24 hi, Int.toNat_natCast, cu_gn a hi, cu_gn b hi, tern_within, obind_some, nx24 hi]
      cases tWithin (a i) (b i) <;> rfl)
    (fun m s => by simp only [cube_Within.l0, cube_Within.s0]; rfl) hn, loopN_all0]
  unfold cWithin
  cases allN 24 fun j => tWithin (a j) (b j) <;> rfl
theorem ref06_within (n : Nat) (hn : 24 < n) (a b : Cu) : ref06_Within n (cu a) (cu b) = some (cWithin a b) := by
  show ref06_Within.l0 n (cu a) (cu b) n 0 = _
  rw [loopN_start (σ := Unit) (step := fun i (_ : Unit) => bif tWithin (a i) (b i) then .inr () else .inl (some false)) (fin := fun _ => some true) (fun m _ i => ref06_Within.l0 n (cu a) (cu b) m i) 24
    (fun m s i hi => by
      simp only [ref06_Within.l0, ref06_Within.s0, lt24 hi, cond_true, in24 hi, Int.toNat_natCast, cu_gn a hi, cu_gn b hi, ref05_within, obind_some, nx24 hi]
      cases tWithin (a i) (b i) <;> rfl)
    (fun m s => by simp only [ref06_Within.l0, ref06_Within.s0]; rfl) hn, loopN_all0]
  unfold cWithin
  cases allN 24 fun j => tWithin (a j) (b j) <;> rfl
theorem cube_pick (n : Nat) (hn : 24 < n) (c : Cu) : cube_Pick n (cu c) = some (hd (cPick c)) := by
  show cube_Pick.l0 n (cu c) (List.replicate 24 (0, 0)) n 0 (List.replicate 24 (0, 0)) = _
  rw [loopN_start (step := fun i out => .inr (List.set out i (Wd (cPick c i)))) (fin := some) (fun m out i => cube_Pick.l0 n (cu c) (List.replicate 24 (0, 0)) m i out) 24
    (fun m s i hi => by simp only [cube_Pick.l0, cube_Pick.s0, lt24 hi, cond_true, in24 hi, Int.toNat_natCast, cu_gn c hi, tern_clean, Tn_1, obind_some, nx24 hi]; rfl)
    (fun m s => by simp only [cube_Pick.l0, cube_Pick.s0]; rfl) hn, hd_0]
  exact loopN_set0 fun i g hi _ => rfl
theorem ref06_pick (n : Nat) (hn : 24 < n) (c : Cu) : ref06_Pick n (cu c) = some (hd (cPick c)) := by
  show ref06_Pick.l0 n (cu c) (List.replicate 24 (0, 0)) n 0 (List.replicate 24 (0, 0)) = _
  rw [loopN_start (step := fun i out => .inr (List.set out i (Wd (cPick c i)))) (fin := some) (fun m out i => ref06_Pick.l0 n (cu c) (List.replicate 24 (0, 0)) m i out) 24
    (fun m s i hi => by simp only [ref06_Pick.l0, ref06_Pick.s0, lt24 hi, cond_true, in24 hi, Int.toNat_natCast, cu_gn c hi, ref05_clean, Tn_1, obind_some, nx24 hi]; rfl)
    (fun m s => by simp only [ref06_Pick.l0, ref06_Pick.s0]; rfl) hn, hd_0]
  exact loopN_set0 fun i g hi _ => rfl
/-- How many bits count. -/
def cSizeTo (c : Cu) : Nat → Nat
  | 0 => 0
  | k + 1 => cSizeTo c k + cnt (c k).2
def cSize (c : Cu) : Nat := cSizeTo c 24
theorem cSizeTo_le (c : Cu) : ∀ k, cSizeTo c k ≤ 128 * k
  | 0 => Nat.le_refl _
  | k + 1 => by
    have := cSizeTo_le c k
    have := cnt_le (c k).2
    unfold cSizeTo; omega
theorem size_loop (c : Cu) : ∀ (k i : Nat) (s : Int), i + k = 24 → s = (cSizeTo c i : Int) → loopN (R := Int) (fun i (s : Int) => .inr (IntKind.wrap .i64 (s + (cnt (c i).2 : Int)))) some k i s = some (cSize c : Int)
  | 0, i, s, hi, hs => by
    unfold loopN cSize
    rw [hs]; congr 3
  | k + 1, i, s, hi, hs => by
    unfold loopN
    have h1 := cSizeTo_le c i
    have h2 := cnt_le (c i).2
    refine size_loop c k (i + 1) _ (by omega) ?_
    rw [hs, w64 (by omega) (by omega)]
    show _ = ((cSizeTo c i + cnt (c i).2 : Nat) : Int)
    omega
theorem cube_size (n : Nat) (hn : 24 < n) (c : Cu) : cube_Size n (cu c) = some (cSize c : Int) := by
  show cube_Size.l0 n (cu c) n 0 0 = _
  rw [loopN_start (step := fun i (s : Int) => .inr (IntKind.wrap .i64 (s + (cnt (c i).2 : Int)))) (fin := some) (fun m s i => cube_Size.l0 n (cu c) m s i) 24
    (fun m s i hi => by simp only [cube_Size.l0, cube_Size.s0, lt24 hi, cond_true, in24 hi, Int.toNat_natCast, cu_gn c hi, Tn_2, wide_many, obind_some, nx24 hi])
    (fun m s => by simp only [cube_Size.l0, cube_Size.s0]; rfl) hn]
  exact size_loop c 24 0 0 rfl rfl
theorem ref06_size (n : Nat) (hn : 128 < n) (c : Cu) : ref06_Size n (cu c) = some (cSize c : Int) := by
  show ref06_Size.l0 n (cu c) n 0 0 = _
  rw [loopN_start (step := fun i (s : Int) => .inr (IntKind.wrap .i64 (s + (cnt (c i).2 : Int)))) (fin := some) (fun m s i => ref06_Size.l0 n (cu c) m s i) 24
    (fun m s i hi => by simp only [ref06_Size.l0, ref06_Size.s0, lt24 hi, cond_true, in24 hi, Int.toNat_natCast, cu_gn c hi, Tn_2, ref02_many n hn, obind_some, nx24 hi])
    (fun m s => by simp only [ref06_Size.l0, ref06_Size.s0]; rfl) (by omega)]
  exact size_loop c 24 0 0 rfl rfl
theorem allN_true (n : Nat) : allN n (fun _ => true) = true := allN_iff.2 fun _ _ => rfl
theorem cube_clean (n : Nat) (hn : 24 < n) (c : Cu) : cube_Clean n (cu c) = some (cu (cClean c)) := by
  unfold cube_Clean
  rw [cube_each_eq n hn _ (fun _ => true) (cClean c) (fun i hi => by
    simp only [cube_Clean_1, in24 hi, cond_true, Int.toNat_natCast, cu_gn c hi, tern_clean, obind_some]; rfl), allN_true]
  rfl
theorem ref06_clean (n : Nat) (hn : 24 < n) (r : Cu) : ref06_Clean n (cu r) = some (cu (cClean r)) := by
  show ref06_Clean.l0 n (List.replicate 24 ((0, 0), 0, 0)) n 0 (cu r) = _
  rw [loopN_start (step := fun i out => .inr (List.set out i (ref05_Clean (List.getD out i ((0, 0), 0, 0))))) (fin := some) (fun m out i => ref06_Clean.l0 n (List.replicate 24 ((0, 0), 0, 0)) m i out) 24
    (fun m s i hi => by simp only [ref06_Clean.l0, ref06_Clean.s0, lt24 hi, cond_true, in24 hi, obind_some, nx24 hi, Int.toNat_natCast])
    (fun m s => by simp only [ref06_Clean.l0, ref06_Clean.s0]; rfl) hn]
  exact loopN_set0 fun i g hi hg => by
    rw [arr_getD _ _ _ _ hi, hg i (Nat.le_refl _), ref05_clean]; rfl
def cOne (h : He) : Cu := fun j => (h j, lowW 128)
theorem cube_all : cube_All = cu fun _ => (0, 0) := rfl
end Go.Fn
