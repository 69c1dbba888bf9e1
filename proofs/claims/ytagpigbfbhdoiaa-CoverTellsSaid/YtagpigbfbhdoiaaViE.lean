/- Parts of values: where their cells lie. -/
import Derived.Test.YtagpigbfbhdoiaaViD
namespace Go.Vi

def splice (cs : List Value) (o : Nat) (c : List Value) : List Value := cs.take o ++ (c ++ cs.drop (o + c.length))

theorem castD_some {σ τ : Ty} {x : σ.den} {y : τ.den} (h : castD σ τ x = some y) : (⟨σ, x⟩ : D) = ⟨τ, y⟩ := by
  unfold castD at h
  split at h
  · rename_i hb
    have hst := Ty.eq_of_beq hb
    subst hst
    cases h; rfl
  · cases h
theorem castD_self (τ : Ty) (x y : τ.den) (h : castD τ τ x = some y) : x = y := by
  have := castD_some h
  cases this; rfl

theorem fldGet_ty : ∀ (nf i : Nat) (τ : Ty) (x : τ.den) (σ : Ty) (y : σ.den), fldGet nf i τ x = some ⟨σ, y⟩ → fldTy nf i τ = some σ := by
  intro nf i τ x
  fun_induction fldGet nf i τ x <;> intro σ y h
  · cases h; rfl
  · cases h; rfl
  · cases h; rfl
  · cases h; rfl
  · rename_i ih; exact ih σ y h
  · cases h

theorem fldTy_get : ∀ (nf i : Nat) (τ : Ty) (σ : Ty), fldTy nf i τ = some σ → ∀ x : τ.den, ∃ y, fldGet nf i τ x = some ⟨σ, y⟩ := by
  intro nf i τ
  fun_induction fldTy nf i τ <;> intro σ h x
  · cases h; exact ⟨_, rfl⟩
  · cases h; exact ⟨_, rfl⟩
  · cases h; exact ⟨_, rfl⟩
  · cases h; exact ⟨_, rfl⟩
  · rename_i ih; exact ih σ h x.2
  · cases h

theorem fldGet_rep {G : Gh} {w : World} : ∀ (nf i : Nat) (τ : Ty) (x : τ.den) (σ : Ty) (y : σ.den), fldGet nf i τ x = some ⟨σ, y⟩ → ∀ cs, Rep G w τ x cs →
    Rep G w σ y ((cs.drop (fldOff nf i τ)).take σ.size) ∧ fldOff nf i τ + σ.size ≤ cs.length := by
  intro nf i τ x
  fun_induction fldGet nf i τ x <;> intro σ y h cs hr
  · cases h
    have := Rep.size _ _ _ hr
    simp only [Ty.size] at this
    simp only [fldOff, List.drop_zero]
    rw [List.take_of_length_le (by omega)]
    exact ⟨hr, by omega⟩
  · cases h
    obtain ⟨c1, c2, rfl, h1, h2⟩ := hr
    have := Rep.size _ _ _ h1
    simp only [fldOff, List.drop_zero]
    rw [← this, List.take_left']
    · exact ⟨h1, by simp⟩
    · rfl
  · cases h
    obtain ⟨c1, c2, rfl, h1, h2⟩ := hr
    have e1 := Rep.size _ _ _ h1
    have e2 := Rep.size _ _ _ h2
    simp only [fldOff]
    rw [← e1, List.drop_left' rfl, ← e2, List.take_length]
    exact ⟨h2, by simp⟩
  · cases h
    obtain ⟨c1, c2, rfl, h1, h2⟩ := hr
    have := Rep.size _ _ _ h1
    simp only [fldOff, List.drop_zero]
    rw [← this, List.take_left']
    · exact ⟨h1, by simp⟩
    · rfl
  · rename_i nf i a b x ih
    obtain ⟨c1, c2, rfl, h1, h2⟩ := hr
    have e1 := Rep.size _ _ _ h1
    obtain ⟨h3, h4⟩ := ih σ y h c2 h2
    simp only [fldOff]
    rw [← e1, List.drop_append, List.drop_of_length_le (Nat.le_add_right _ _), List.nil_append, Nat.add_sub_cancel_left]
    exact ⟨h3, by simp; omega⟩
  · cases h

theorem splice_length {cs c : List Value} {o : Nat} (h : o + c.length ≤ cs.length) : (splice cs o c).length = cs.length := by
  simp [splice]; omega

theorem splice_left {c1 c2 c : List Value} (h : c.length = c1.length) : splice (c1 ++ c2) 0 c = c ++ c2 := by
  simp [splice, h]
theorem splice_right {c1 c2 c : List Value} (o : Nat) : splice (c1 ++ c2) (c1.length + o) c = c1 ++ splice c2 o c := by
  simp only [splice]
  rw [List.take_append, List.take_of_length_le (Nat.le_add_right _ _), Nat.add_sub_cancel_left, Nat.add_assoc, List.drop_append, List.drop_of_length_le (Nat.le_add_right _ _), List.nil_append, Nat.add_sub_cancel_left]
  simp
theorem splice_all {cs c : List Value} (h : c.length = cs.length) : splice cs 0 c = c := by
  simp [splice, h]

theorem fldSet_rep {G : Gh} {w : World} : ∀ (nf i : Nat) (τ : Ty) (x : τ.den) (d : D) (x' : τ.den), fldSet nf i τ x d = some x' → ∀ cs cy, Rep G w τ x cs → Rep G w d.1 d.2 cy →
    Rep G w τ x' (splice cs (fldOff nf i τ) cy) := by
  intro nf i τ x d
  fun_induction fldSet nf i τ x d <;> intro x' h cs cy hr hy
  · obtain ⟨σ, y⟩ := ‹D›
    have := castD_some h
    cases this
    have e1 := Rep.size _ _ _ hr
    have e2 := Rep.size _ _ _ hy
    simp only [Ty.size] at e1
    simp only [fldOff]
    rw [splice_all (by omega)]
    exact hy
  · obtain ⟨σ, y⟩ := ‹D›
    rw [Option.map_eq_some_iff] at h
    obtain ⟨z, hz, rfl⟩ := h
    have := castD_some hz
    cases this
    obtain ⟨c1, c2, rfl, h1, h2⟩ := hr
    simp only [fldOff]
    rw [splice_left (by rw [Rep.size _ _ _ hy, Rep.size _ _ _ h1])]
    exact ⟨_, _, rfl, hy, h2⟩
  · obtain ⟨σ, y⟩ := ‹D›
    rw [Option.map_eq_some_iff] at h
    obtain ⟨z, hz, rfl⟩ := h
    have := castD_some hz
    cases this
    obtain ⟨c1, c2, rfl, h1, h2⟩ := hr
    simp only [fldOff]
    rw [← Rep.size _ _ _ h1, ← Nat.add_zero c1.length, splice_right, splice_all (by rw [Rep.size _ _ _ hy, Rep.size _ _ _ h2])]
    exact ⟨_, _, rfl, h1, hy⟩
  · obtain ⟨σ, y⟩ := ‹D›
    rw [Option.map_eq_some_iff] at h
    obtain ⟨z, hz, rfl⟩ := h
    have := castD_some hz
    cases this
    obtain ⟨c1, c2, rfl, h1, h2⟩ := hr
    simp only [fldOff]
    rw [splice_left (by rw [Rep.size _ _ _ hy, Rep.size _ _ _ h1])]
    exact ⟨_, _, rfl, hy, h2⟩
  · rename_i ih
    rw [Option.map_eq_some_iff] at h
    obtain ⟨z, hz, rfl⟩ := h
    obtain ⟨c1, c2, rfl, h1, h2⟩ := hr
    simp only [fldOff]
    rw [← Rep.size _ _ _ h1, splice_right]
    exact ⟨_, _, rfl, h1, ih z hz _ _ h2 hy⟩
  · cases h

theorem flatten_drop_take {n : Nat} : ∀ {css : List (List Value)}, (∀ c ∈ css, c.length = n) → ∀ i, i < css.length → (css.flatten.drop (i * n)).take n = css.getD i []
  | c :: css, h, 0, _ => by
    have := h c (by simp)
    simp [this]
  | c :: css, h, i + 1, hi => by
    have hc := h c (by simp)
    rw [List.flatten_cons, Nat.succ_mul, Nat.add_comm, ← hc, List.drop_append, List.drop_of_length_le (Nat.le_add_right _ _), List.nil_append, Nat.add_sub_cancel_left, hc]
    simpa using flatten_drop_take (fun d hd => h d (by simp [hd])) i (by simpa using hi)

theorem flatten_set {n : Nat} {c' : List Value} (hc' : c'.length = n) : ∀ {css : List (List Value)}, (∀ c ∈ css, c.length = n) → ∀ i, i < css.length → (css.set i c').flatten = splice css.flatten (i * n) c'
  | c :: css, h, 0, _ => by
    have := h c (by simp)
    simp only [List.set_cons_zero, List.flatten_cons, Nat.zero_mul]
    rw [splice_left (by omega)]
  | c :: css, h, i + 1, hi => by
    have hc := h c (by simp)
    rw [List.set_cons_succ, List.flatten_cons, List.flatten_cons, Nat.succ_mul, Nat.add_comm (i * n), ← hc, splice_right, hc]
    rw [flatten_set hc' (fun d hd => h d (by simp [hd])) i (by simpa using hi)]

theorem Each.sizes {G : Gh} {w : World} {e : Ty} {xs : List e.den} {css : List (List Value)} (h : Each (Rep G w e) xs css) : ∀ c ∈ css, c.length = e.size :=
  h.right fun x y hxy => Rep.size e x y hxy

/-- An item's cells, in a row of them. -/
theorem Each.item {G : Gh} {w : World} {e : Ty} {xs : List e.den} {css : List (List Value)} (h : Each (Rep G w e) xs css) (i : Nat) (hi : i < xs.length) :
    Rep G w e (xs.getD i e.zero) ((css.flatten.drop (i * e.size)).take e.size) ∧ i * e.size + e.size ≤ css.flatten.length := by
  have hl := h.length
  rw [flatten_drop_take h.sizes i (by omega), flatten_length_const e.size css h.sizes, ← hl]
  refine ⟨h.getD e.zero [] i hi, ?_⟩
  have : (i + 1) * e.size ≤ xs.length * e.size := Nat.mul_le_mul_right _ hi
  rw [Nat.succ_mul] at this
  exact this

theorem stepGet_ty {s : Step} {d d' : D} (h : stepGet s d = some d') : stepTy s d.1 = some d'.1 := by
  obtain ⟨τ, x⟩ := d
  obtain ⟨σ, y⟩ := d'
  cases s with
  | fld nf i => exact fldGet_ty nf i τ x σ y h
  | idx i =>
    cases τ <;> simp only [stepGet, reduceCtorEq] at h
    cases h; rfl

theorem stepGet_rep {G : Gh} {w : World} {s : Step} {d d' : D} (h : stepGet s d = some d') (hin : stepIn s d.1) {cs : List Value} (hr : Rep G w d.1 d.2 cs) :
    Rep G w d'.1 d'.2 ((cs.drop (stepOff s d.1)).take d'.1.size) ∧ stepOff s d.1 + d'.1.size ≤ cs.length := by
  obtain ⟨τ, x⟩ := d
  obtain ⟨σ, y⟩ := d'
  cases s with
  | fld nf i => exact fldGet_rep nf i τ x σ y h cs hr
  | idx i =>
    cases τ <;> simp only [stepGet, reduceCtorEq] at h
    case arr n e =>
      cases h
      obtain ⟨hn, css, rfl, he⟩ := hr
      exact he.item i (by rw [hn]; exact hin)

theorem take_drop_take_drop (cs : List Value) (a n b m : Nat) (h : b + m ≤ n) : (((cs.drop a).take n).drop b).take m = (cs.drop (a + b)).take m := by
  rw [List.drop_take, List.take_take, List.drop_drop, Nat.min_eq_left (by omega)]

theorem pathGet_rep {G : Gh} {w : World} : ∀ (π : List Step) (d d' : D), pathGet π d = some d' → pathIn π d.1 → ∀ cs, Rep G w d.1 d.2 cs →
    Rep G w d'.1 d'.2 ((cs.drop (pathOff π d.1)).take d'.1.size) ∧ pathOff π d.1 + d'.1.size ≤ cs.length
  | [], d, d', h, _, cs, hr => by
    cases h
    have := Rep.size _ _ _ hr
    simp only [pathOff, List.drop_zero]
    rw [List.take_of_length_le (by omega)]
    exact ⟨hr, by omega⟩
  | s :: π, d, d', h, hin, cs, hr => by
    simp only [pathGet] at h
    rw [Option.bind_eq_some_iff] at h
    obtain ⟨d1, h1, h2⟩ := h
    have ht := stepGet_ty h1
    obtain ⟨h3, h4⟩ := stepGet_rep h1 hin.1 hr
    obtain ⟨h5, h6⟩ := pathGet_rep π d1 d' h2 (hin.2 _ ht) _ h3
    simp only [pathOff, ht]
    rw [List.length_take, List.length_drop] at h6
    rw [take_drop_take_drop _ _ _ _ _ (by omega)] at h5
    exact ⟨h5, by omega⟩

theorem splice_splice (cs c : List Value) (a n b : Nat) (h : b + c.length ≤ n) (hn : a + n ≤ cs.length) : splice cs a (splice ((cs.drop a).take n) b c) = splice cs (a + b) c := by
  have hl : (splice ((cs.drop a).take n) b c).length = n := by rw [splice_length (by simp; omega)]; simp; omega
  apply List.ext_getElem?
  intro i
  have e1 : ∀ (l : List Value) (o : Nat) (d : List Value), o + d.length ≤ l.length → ∀ j : Nat, (splice l o d)[j]? = if j < o then l[j]? else if j < o + d.length then d[j - o]? else l[j]? := by
    intro l o d hod j
    simp only [splice]
    rw [List.getElem?_append, List.length_take, Nat.min_eq_left (by omega)]
    by_cases h1 : j < o
    · rw [if_pos h1, if_pos h1, List.getElem?_take, if_pos h1]
    · rw [if_neg h1, if_neg h1, List.getElem?_append]
      by_cases h2 : j < o + d.length
      · rw [if_pos (by omega), if_pos h2]
      · rw [if_neg (by omega), if_neg h2, List.getElem?_drop]
        congr 1; omega
  rw [e1 cs a _ (by rw [hl]; exact hn), e1 cs (a + b) c (by omega), hl]
  by_cases h1 : i < a
  · rw [if_pos h1, if_pos (by omega)]
  · rw [if_neg h1]
    by_cases h2 : i < a + n
    · rw [if_pos h2, e1 _ _ _ (by rw [List.length_take, List.length_drop]; omega)]
      by_cases h3 : i < a + b
      · rw [if_pos (by omega), if_pos h3, List.getElem?_take, if_pos (by omega), List.getElem?_drop]
        congr 1; omega
      · rw [if_neg (by omega), if_neg h3]
        by_cases h4 : i < a + b + c.length
        · rw [if_pos (by omega), if_pos h4]
          congr 1; omega
        · rw [if_neg (by omega), if_neg h4, List.getElem?_take, if_pos (by omega), List.getElem?_drop]
          congr 1; omega
    · rw [if_neg h2, if_neg (by omega), if_neg (by omega)]

theorem pathGet_ty : ∀ (π : List Step) (d d' : D), pathGet π d = some d' → pathTy π d.1 = some d'.1
  | [], d, d', h => by cases h; rfl
  | s :: π, d, d', h => by
    simp only [pathGet] at h
    rw [Option.bind_eq_some_iff] at h
    obtain ⟨d1, h1, h2⟩ := h
    simp only [pathTy, stepGet_ty h1, Option.bind_some]
    exact pathGet_ty π d1 d' h2

theorem pathSet_ty : ∀ (π : List Step) (d y d' : D), pathSet π d y = some d' → d'.1 = d.1
  | [], d, y, d', h => by
    simp only [pathSet] at h
    rw [Option.map_eq_some_iff] at h
    obtain ⟨z, _, rfl⟩ := h
    rfl
  | .fld nf i :: π, ⟨τ, x⟩, y, d', h => by
    simp only [pathSet] at h
    rw [Option.bind_eq_some_iff] at h
    obtain ⟨d1, h1, h2⟩ := h
    rw [Option.bind_eq_some_iff] at h2
    obtain ⟨d2, h3, h4⟩ := h2
    rw [Option.map_eq_some_iff] at h4
    obtain ⟨z, _, rfl⟩ := h4
    rfl
  | .idx i :: π, ⟨τ, x⟩, y, d', h => by
    cases τ <;> simp only [pathSet, reduceCtorEq] at h
    rw [Option.bind_eq_some_iff] at h
    obtain ⟨d2, h3, h4⟩ := h
    rw [Option.map_eq_some_iff] at h4
    obtain ⟨z, _, rfl⟩ := h4
    rfl

theorem pathSet_rep {G : Gh} {w : World} : ∀ (π : List Step) (d y d' : D), pathSet π d y = some d' → pathIn π d.1 → ∀ cs cy, Rep G w d.1 d.2 cs → Rep G w y.1 y.2 cy →
    Rep G w d'.1 d'.2 (splice cs (pathOff π d.1) cy) ∧ pathOff π d.1 + cy.length ≤ cs.length
  | [], d, y, d', h, _, cs, cy, hr, hy => by
    simp only [pathSet] at h
    rw [Option.map_eq_some_iff] at h
    obtain ⟨z, hz, rfl⟩ := h
    obtain ⟨τ, x⟩ := d
    obtain ⟨σ, y⟩ := y
    have := castD_some hz
    cases this
    have e1 : cs.length = τ.size := Rep.size _ _ _ hr
    have e2 : cy.length = τ.size := Rep.size _ _ _ hy
    simp only [pathOff]
    rw [splice_all (by omega)]
    exact ⟨hy, by omega⟩
  | .fld nf i :: π, ⟨τ, x⟩, y, d', h, hin, cs, cy, hr, hy => by
    simp only [pathSet] at h
    rw [Option.bind_eq_some_iff] at h
    obtain ⟨d1, h1, h2⟩ := h
    rw [Option.bind_eq_some_iff] at h2
    obtain ⟨d2, h3, h4⟩ := h2
    rw [Option.map_eq_some_iff] at h4
    obtain ⟨z, h5, rfl⟩ := h4
    have ht := fldGet_ty nf i τ x _ _ h1
    obtain ⟨h6, h7⟩ := fldGet_rep (G := G) (w := w) nf i τ x _ _ h1 cs hr
    have hin2 := hin.2 d1.1 ht
    obtain ⟨h8, h9⟩ := pathSet_rep π d1 y d2 h3 hin2 _ cy h6 hy
    have h10 := fldSet_rep nf i τ x d2 z h5 cs _ hr h8
    rw [List.length_take, List.length_drop] at h9
    simp only [pathOff, stepTy, stepOff, ht]
    rw [splice_splice _ _ _ _ _ (by omega) (by omega)] at h10
    exact ⟨h10, by omega⟩
  | .idx i :: π, ⟨τ, x⟩, y, d', h, hin, cs, cy, hr, hy => by
    cases τ <;> simp only [pathSet, reduceCtorEq] at h
    case arr n e =>
      rw [Option.bind_eq_some_iff] at h
      obtain ⟨d2, h3, h4⟩ := h
      rw [Option.map_eq_some_iff] at h4
      obtain ⟨z, h5, rfl⟩ := h4
      obtain ⟨hn, css, rfl, he⟩ := hr
      have hi : i < n := hin.1
      obtain ⟨h6, h7⟩ := he.item i (by omega)
      have hin2 := hin.2 e rfl
      obtain ⟨h8, h9⟩ := pathSet_rep π ⟨e, List.getD x i e.zero⟩ y d2 h3 hin2 _ cy h6 hy
      have ht : d2.1 = e := pathSet_ty π ⟨e, List.getD x i e.zero⟩ y d2 h3
      obtain ⟨σ2, y2⟩ := d2
      subst ht
      have hzy := castD_self _ _ _ h5
      subst hzy
      rw [List.length_take, List.length_drop] at h9
      have hsz : (splice ((css.flatten.drop (i * σ2.size)).take σ2.size) (pathOff π σ2) cy).length = σ2.size := Rep.size _ _ _ h8
      simp only [pathOff, stepTy, stepOff]
      have h9' : pathOff π σ2 + cy.length ≤ min σ2.size (css.flatten.length - i * σ2.size) := h9
      have h7' : i * σ2.size + σ2.size ≤ css.flatten.length := h7
      have hlen : i < css.length := by rw [← he.length]; exact hn ▸ hi
      refine ⟨⟨by simp [hn], css.set i (splice ((css.flatten.drop (i * σ2.size)).take σ2.size) (pathOff π σ2) cy), ?_, he.set h8 i⟩, by omega⟩
      rw [flatten_set hsz he.sizes i hlen, splice_splice _ _ _ _ _ (by omega) (by omega)]

end Go.Vi
