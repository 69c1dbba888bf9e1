/- Loops that count, and arrays as functions of their places. -/
import Derived.Test.YtagpigbfbhdoiaaPBits
namespace Go.Fn
open Go Go.Vi

/-- So many rounds, from a number on. -/
def loopN {σ R : Type} (step : Nat → σ → Option R ⊕ σ) (fin : σ → Option R) : Nat → Nat → σ → Option R
  | 0, _, s => fin s
  | k + 1, i, s => match step i s with
    | .inl r => r
    | .inr s' => loopN step fin k (i + 1) s'
theorem loopN_rule {σ R : Type} {step : Nat → σ → Option R ⊕ σ} {fin : σ → Option R} (f : Nat → σ → Int → Option R) (N : Nat)
    (hs : ∀ m s (i : Nat), i < N → f (m + 1) s (i : Int) = match step i s with | .inl r => r | .inr s' => f m s' ((i : Int) + 1))
    (he : ∀ m s, f (m + 1) s (N : Int) = fin s) : ∀ (k i m : Nat) (s : σ), i + k = N → k < m → f m s (i : Int) = loopN step fin k i s
  | 0, i, m + 1, s, hi, _ => by
    have : i = N := by omega
    subst this
    rw [he]; rfl
  | k + 1, i, m + 1, s, hi, hm => by
    rw [hs m s i (by omega)]
    unfold loopN
    cases step i s with
    | inl r => rfl
    | inr s' =>
      have := loopN_rule f N hs he k (i + 1) m s' (by omega) (by omega)
      simpa using this
theorem loopN_start {σ R : Type} {step : Nat → σ → Option R ⊕ σ} {fin : σ → Option R} (f : Nat → σ → Int → Option R) (N : Nat)
    (hs : ∀ m s (i : Nat), i < N → f (m + 1) s (i : Int) = match step i s with | .inl r => r | .inr s' => f m s' ((i : Int) + 1))
    (he : ∀ m s, f (m + 1) s (N : Int) = fin s) {m : Nat} (hm : N < m) (s : σ) : f m s 0 = loopN step fin N 0 s :=
  loopN_rule f N hs he N 0 m s (by omega) hm

/-- A row of so many. -/
def arrN {α : Type} (n : Nat) (f : Nat → α) : List α := (List.range n).map f
theorem arr_length {α : Type} (n : Nat) (f : Nat → α) : (arrN n f).length = n := by simp [arrN]
theorem arr_get {α : Type} (n : Nat) (f : Nat → α) (j : Nat) (hj : j < n) : (arrN n f)[j]? = some (f j) := by simp [arrN, hj]
theorem arr_getD {α : Type} (n : Nat) (f : Nat → α) (d : α) (j : Nat) (hj : j < n) : List.getD (arrN n f) j d = f j := by rw [List.getD_eq_getElem?_getD, arr_get n f j hj]; rfl
theorem arr_getD' {α : Type} (n : Nat) (f : Nat → α) (d : α) (j : Nat) (hj : j < n) : List.getD (arrN n f) (Int.toNat (j : Int)) d = f j := by rw [Int.toNat_natCast, arr_getD n f d j hj]
theorem arr_of {α : Type} {n : Nat} {l : List α} (h : l.length = n) (d : α) : l = arrN n fun j => l.getD j d := by
  apply List.ext_getElem?
  intro i
  by_cases hi : i < n
  · rw [arr_get _ _ _ hi, List.getD_eq_getElem?_getD, List.getElem?_eq_getElem (by omega)]; rfl
  · rw [List.getElem?_eq_none (by omega), List.getElem?_eq_none (by rw [arr_length]; omega)]
theorem arr_congr {α : Type} {n : Nat} {f g : Nat → α} (h : ∀ j, j < n → f j = g j) : arrN n f = arrN n g := by
  unfold arrN
  apply List.map_congr_left
  intro j hj
  exact h j (List.mem_range.1 hj)
theorem arr_set {α : Type} (n : Nat) (f : Nat → α) (k : Nat) (y : α) : List.set (arrN n f) k y = arrN n fun j => if j = k then y else f j := by
  apply List.ext_getElem?
  intro i
  rw [List.getElem?_set]
  by_cases hi : i < n
  · rw [arr_get _ _ _ hi, arr_get _ _ _ hi, arr_length]
    by_cases hk : k = i
    · rw [if_pos hk, if_pos (by omega), if_pos hk.symm]
    · rw [if_neg hk, if_neg (fun h => hk h.symm)]
  · rw [List.getElem?_eq_none (l := arrN n f) (by rw [arr_length]; omega), List.getElem?_eq_none (l := arrN n _) (by rw [arr_length]; omega), arr_length]
    by_cases hk : k = i
    · rw [if_pos hk, if_neg (by omega)]
    · rw [if_neg hk]
theorem arr_replicate {α : Type} (n : Nat) (x : α) : List.replicate n x = arrN n fun _ => x := by
  apply List.ext_getElem?
  intro i
  by_cases hi : i < n
  · rw [arr_get _ _ _ hi]; simp [hi]
  · rw [List.getElem?_eq_none (by simp; omega), List.getElem?_eq_none (by rw [arr_length]; omega)]

/-- A loop that lays each place anew. -/
theorem loopN_set {α R : Type} (fin : List α → Option R) (n : Nat) (step : Nat → List α → Option R ⊕ List α) (h f : Nat → α) (hst : ∀ i (g : Nat → α), i < n → (∀ j, i ≤ j → g j = h j) → step i (arrN n g) = .inr (List.set (arrN n g) i (f i))) :
    ∀ (k i : Nat) (g : Nat → α), i + k = n → (∀ j, i ≤ j → g j = h j) → loopN step fin k i (arrN n g) = fin (arrN n fun j => if j < i then g j else f j)
  | 0, i, g, hi, _ => by
    unfold loopN
    refine congrArg fin (arr_congr fun j hj => ?_)
    rw [if_pos (by omega)]
  | k + 1, i, g, hi, hg => by
    unfold loopN
    rw [hst i g (by omega) hg, arr_set]
    show loopN step fin k (i + 1) _ = _
    rw [loopN_set fin n step h f hst k (i + 1) _ (by omega) (fun j hj => by rw [if_neg (by omega)]; exact hg j (by omega))]
    refine congrArg fin (arr_congr fun j hj => ?_)
    by_cases h1 : j < i
    · rw [if_pos (by omega), if_pos h1, if_neg (by omega)]
    · by_cases h2 : j = i
      · subst h2; rw [if_pos (by omega), if_pos rfl, if_neg (by omega)]
      · rw [if_neg (by omega), if_neg h1]
theorem loopN_set0 {α R : Type} {fin : List α → Option R} {n : Nat} {step : Nat → List α → Option R ⊕ List α} {h f : Nat → α} (hst : ∀ i (g : Nat → α), i < n → (∀ j, i ≤ j → g j = h j) → step i (arrN n g) = .inr (List.set (arrN n g) i (f i))) :
    loopN step fin n 0 (arrN n h) = fin (arrN n f) := by
  rw [loopN_set fin n step h f hst n 0 h (by omega) (fun _ _ => rfl)]
  refine congrArg fin (arr_congr fun j hj => ?_)
  rw [if_neg (by omega)]

def allN (n : Nat) (p : Nat → Bool) : Bool := (List.range n).all p
theorem allN_iff {n : Nat} {p : Nat → Bool} : allN n p = true ↔ ∀ j, j < n → p j = true := by
  unfold allN; rw [List.all_eq_true]
  exact ⟨fun h j hj => h j (List.mem_range.2 hj), fun h j hj => h j (List.mem_range.1 hj)⟩
theorem allN_not {n : Nat} {p : Nat → Bool} : allN n p = false ↔ ∃ j, j < n ∧ p j = false := by
  rw [← Bool.not_eq_true, allN_iff]
  constructor
  · intro h
    simp only [Classical.not_forall] at h
    obtain ⟨j, hj, hp⟩ := h
    exact ⟨j, hj, by simpa using hp⟩
  · rintro ⟨j, hj, hp⟩ h
    rw [h j hj] at hp; cases hp
theorem allN_congr {n : Nat} {p q : Nat → Bool} (h : ∀ j, j < n → p j = q j) : allN n p = allN n q := by
  rw [Bool.eq_iff_iff, allN_iff, allN_iff]
  exact ⟨fun k j hj => by rw [← h j hj]; exact k j hj, fun k j hj => by rw [h j hj]; exact k j hj⟩

/-- A loop that stops at the first place that fails. -/
theorem loopN_all {R : Type} (fin : Unit → Option R) (bad : Option R) (p : Nat → Bool) : ∀ (k i : Nat), loopN (fun i (_ : Unit) => bif p i then .inr () else .inl bad) fin k i () = bif (List.range' i k).all p then fin () else bad
  | 0, i => rfl
  | k + 1, i => by
    unfold loopN
    rw [List.range'_succ, List.all_cons]
    cases p i with
    | false => rfl
    | true => simp only [cond_true, Bool.true_and]; exact loopN_all fin bad p k (i + 1)
theorem loopN_all0 {R : Type} (fin : Unit → Option R) (bad : Option R) (p : Nat → Bool) (n : Nat) : loopN (fun i (_ : Unit) => bif p i then .inr () else .inl bad) fin n 0 () = bif allN n p then fin () else bad := by
  rw [loopN_all]; unfold allN; rw [List.range_eq_range']

/-- A loop that lays each place anew, or stops. -/
theorem loopN_setAll {α R : Type} (fin : List α → Option R) (bad : Option R) (n : Nat) (p : Nat → Bool) (f : Nat → α) : ∀ (k i : Nat) (g : Nat → α), i + k = n →
    loopN (fun i (out : List α) => bif p i then .inr (List.set out i (f i)) else .inl bad) fin k i (arrN n g) = bif (List.range' i k).all p then fin (arrN n fun j => if j < i then g j else f j) else bad
  | 0, i, g, hi => by
    unfold loopN
    refine congrArg fin (arr_congr fun j hj => ?_)
    rw [if_pos (by omega)]
  | k + 1, i, g, hi => by
    unfold loopN
    rw [List.range'_succ, List.all_cons]
    cases p i with
    | false => rfl
    | true =>
      simp only [cond_true, Bool.true_and, arr_set]
      rw [loopN_setAll fin bad n p f k (i + 1) _ (by omega)]
      cases (List.range' (i + 1) k).all p with
      | false => rfl
      | true =>
        simp only [cond_true]
        refine congrArg fin (arr_congr fun j hj => ?_)
        by_cases h1 : j < i
        · rw [if_pos (by omega), if_pos h1, if_neg (by omega)]
        · by_cases h2 : j = i
          · subst h2; rw [if_pos (by omega), if_pos rfl, if_neg (by omega)]
          · rw [if_neg (by omega), if_neg h1]
theorem loopN_setAll0 {α R : Type} (fin : List α → Option R) (bad : Option R) (n : Nat) (p : Nat → Bool) (f g : Nat → α) :
    loopN (fun i (out : List α) => bif p i then .inr (List.set out i (f i)) else .inl bad) fin n 0 (arrN n g) = bif allN n p then fin (arrN n f) else bad := by
  rw [loopN_setAll fin bad n p f n 0 g (by omega)]
  unfold allN; rw [List.range_eq_range']
  cases (List.range' 0 n).all p with
  | false => rfl
  | true =>
    simp only [cond_true]
    refine congrArg fin (arr_congr fun j hj => ?_)
    rw [if_neg (by omega)]

/-- A loop without an end of its own. -/
theorem loopN_fold {σ R : Type} (fin : σ → Option R) (g : Nat → σ → σ) : ∀ (k i : Nat) (s : σ), loopN (fun i s => .inr (g i s)) fin k i s = fin ((List.range' i k).foldl (fun s i => g i s) s)
  | 0, i, s => rfl
  | k + 1, i, s => by
    unfold loopN
    rw [List.range'_succ, List.foldl_cons]
    exact loopN_fold fin g k (i + 1) (g i s)

theorem in24 {i : Nat} (h : i < 24) : inRange (i : Int) 24 = true := inRange_true (by omega) (by omega)
theorem lt24 {i : Nat} (h : i < 24) : decide ((i : Int) < 24) = true := decide_eq_true (by omega)
theorem nx24 {i : Nat} (h : i < 24) : IntKind.wrap .i64 ((i : Int) + 1) = (i : Int) + 1 := w64 (by omega) (by omega)

/-! ### equality of arrays -/
theorem beqL_tab {α : Type} (f : α → α → Bool) (n : Nat) (a b : Nat → α) : beqL f (arrN n a) (arrN n b) = allN n fun j => f (a j) (b j) := by
  have key : ∀ l : List Nat, beqL f (l.map a) (l.map b) = l.all fun j => f (a j) (b j) := by
    intro l
    induction l with
    | nil => rfl
    | cons x l ih => simp only [List.map_cons, beqL, List.all_cons, ih]
  exact key _
end Go.Fn
