/- A loop over a function. -/
import Derived.Test.YtagpigbfbhdoiaaViWR
namespace Go.Vi
open Go.RowKit (Below)

/-! ### slots -/
def plainS : S → Bool
  | .lst (.tip _ _) _ _ | .ptr _ _ _ _ | .tup _ => false
  | _ => true
theorem SRel.plain {P : Program} {H H' : Heap} {g g' : Gs} {w w' : World} {u : S} {v : Value} (hu : plainS u = true) (h : SRel P H g w u v) (ha : Adv g.G w g'.G w') (hy : g'.yl = g.yl) : SRel P H' g' w' u v := by
  cases u with
  | dat τ x => exact RepV.adv ha h
  | lst k e x =>
    cases k with
    | clip => exact ⟨RepV.adv ha h.1, h.2⟩
    | nn => exact ⟨RepV.adv ha h.1, h.2⟩
    | tip T n => cases hu
  | ptr id n root π => cases hu
  | cptr τ x => exact CPtr.adv ha h
  | fn ps rs f => exact FnRel.adv ha h
  | seq es xs => exact SeqRel.adv ha h
  | yld es =>
    have h : v = .func (.yield g.yl) #[] #[] := h
    show v = .func (.yield g'.yl) #[] #[]
    rw [hy]; exact h
  | fref f => exact h
  | tup l => cases hu
  | nil => exact h
  | nilf => exact h
  | gone => exact h
  | poison => exact h
theorem noTip_plain (u : S) : plainS (noTip u) = true ∨ ∃ id n root π, noTip u = .ptr id n root π ∧ u = .ptr id n root π := by
  cases u with
  | lst k e x => cases k <;> exact .inl rfl
  | ptr id n root π => exact .inr ⟨id, n, root, π, rfl, rfl⟩
  | _ => exact .inl rfl
theorem SRel.noTip {P : Program} {H : Heap} {g : Gs} {w : World} {u : S} {v : Value} (h : SRel P H g w u v) : SRel P H g w (noTip u) v := by
  cases u with
  | lst k e x =>
    cases k with
    | tip T n => exact h.1
    | clip => exact h.1
    | nn => exact h
  | tup l => exact SRel.of0 (s := .poison) trivial
  | _ => exact h

theorem sameSlots_spec {s' : St} : ∀ {base : List (Nat × S)}, sameSlots s' base = true → ∀ t v, (t, v) ∈ base → samePtr v (look .poison s'.slots t) = true
  | [], _, _, _, h => by cases h
  | (t0, v0) :: l, hs, t, v, h => by
    simp only [sameSlots, Bool.and_eq_true] at hs
    rcases List.mem_cons.1 h with h | h
    · cases h; exact hs.1
    · exact sameSlots_spec hs.2 t v h
theorem samePtr_spec {id n : Nat} {root : Ty} {π : List Step} {u : S} (h : samePtr (.ptr id n root π) u = true) : π = [] ∧ ∃ root', u = .ptr id n root' [] := by
  cases u <;> simp only [samePtr, Bool.false_eq_true] at h
  case ptr id' n' root' π' =>
    simp only [Bool.and_eq_true] at h
    obtain ⟨⟨h1, h2⟩, h3⟩ := h
    have h1 := Nat.eq_of_beq_eq_true h1
    have h2 := Nat.eq_of_beq_eq_true h2
    subst h1; subst h2
    split at h3
    · exact ⟨rfl, root', rfl⟩
    · cases h3
theorem ptrSlots_mem : ∀ {base : List (Nat × S)} {t id n : Nat} {root : Ty} {π : List Step}, (t, S.ptr id n root π) ∈ base → t ∈ ptrSlots base
  | (t0, v0) :: l, t, id, n, root, π, h => by
    rcases List.mem_cons.1 h with h | h
    · cases h; simp [ptrSlots]
    · have := ptrSlots_mem h
      cases v0 <;> simp [ptrSlots, this]
  | [], _, _, _, _, _, h => by cases h
theorem ptrSlots_key : ∀ {base : List (Nat × S)} {t : Nat}, t ∈ ptrSlots base → t ∈ base.map (·.1)
  | (t0, v0) :: l, t, h => by
    have rec' : t ∈ ptrSlots l → t ∈ ((t0, v0) :: l).map (·.1) := fun h => List.mem_cons_of_mem _ (ptrSlots_key h)
    cases v0 <;> simp only [ptrSlots] at h <;> try exact rec' h
    case ptr =>
      rcases List.mem_cons.1 h with h | h
      · simp [h]
      · exact rec' h
  | [], _, h => by cases h

theorem getD_set' (a : Array Value) (d : Nat) (v : Value) (t : Nat) (hd : d < a.size) : (a.setIfInBounds d v).getD t undef = if d = t then v else a.getD t undef := by
  by_cases h : d = t
  · subst h; rw [if_pos rfl]; simp [hd]
  · rw [if_neg h]; simp [Array.getElem?_setIfInBounds_ne h]
theorem nodup_cons {k : Nat} {l : List Nat} (h : nodup (k :: l) = true) : k ∉ l ∧ nodup l = true := by
  simp only [nodup, Bool.and_eq_true, Bool.not_eq_true'] at h
  refine ⟨fun hm => ?_, h.2⟩
  rw [mem_iff.2 hm] at h
  cases h.1

/-- What a round's parameters are laid with. -/
theorem parSlots_rel {G : Gh} {w : World} : ∀ (ps : List Nat) (es : List Ty) (x : dens es) (l : List (Nat × S)) (vs : List Value) (tm : Array Value), parSlots ps es x = some l → ArgsD G w es x vs → nodup ps = true → (∀ p ∈ ps, p < tm.size) →
    ps.length = vs.length ∧ ∃ tm', (ps.zip vs).foldl (fun t p => t.setIfInBounds p.1 p.2) tm = tm' ∧ tm'.size = tm.size ∧ (∀ t, t ∉ ps → tm'.getD t undef = tm.getD t undef ∧ lookO l t = none) ∧
      ∀ t, t ∈ ps → ∃ u, lookO l t = some u ∧ ∀ (P : Program) (H : Heap) (g : Gs), g.G = G → SRel P H g w u (tm'.getD t undef)
  | [], [], _, l, vs, tm, h, hv, _, _ => by
    cases h
    have hv : vs = [] := hv
    subst hv
    exact ⟨rfl, tm, rfl, rfl, fun t _ => ⟨rfl, rfl⟩, fun t ht => by cases ht⟩
  | [p], [e], x, l, vs, tm, h, hv, _, hlt => by
    cases h
    obtain ⟨v, rfl, hv⟩ := hv
    refine ⟨rfl, tm.setIfInBounds p v, rfl, by simp, fun t ht => ?_, fun t ht => ?_⟩
    · have hne : p ≠ t := fun e => ht (by simp [e])
      rw [getD_set' tm p v t (hlt p (by simp)), if_neg hne, lookO_cons, if_neg hne]
      exact ⟨rfl, rfl⟩
    · have : t = p := by simpa using ht
      subst this
      refine ⟨.dat e x, by rw [lookO_cons, if_pos rfl], fun P H g hg => ?_⟩
      rw [getD_set' tm t v t (hlt t (by simp)), if_pos rfl]
      subst hg
      exact hv
  | p :: q :: ps, e :: e' :: es, x, l, vs, tm, h, hv, hn, hlt => by
    simp only [parSlots] at h
    rw [Option.map_eq_some_iff] at h
    obtain ⟨l', hl', rfl⟩ := h
    obtain ⟨v, vs', rfl, hv1, hv2⟩ := hv
    obtain ⟨hn1, hn2⟩ := nodup_cons hn
    obtain ⟨h0, tm', h1, h2, h3, h4⟩ := parSlots_rel (q :: ps) (e' :: es) x.2 l' vs' (tm.setIfInBounds p v) hl' hv2 hn2 (fun p' hp' => by rw [Array.size_setIfInBounds]; exact hlt p' (List.mem_cons_of_mem _ hp'))
    refine ⟨by simp only [List.length_cons] at h0 ⊢; omega, tm', ?_, by simpa using h2, fun t ht => ?_, fun t ht => ?_⟩
    · exact h1
    · have hne : p ≠ t := fun e => ht (by simp [e])
      obtain ⟨k1, k2⟩ := h3 t (fun hm => ht (List.mem_cons_of_mem _ hm))
      rw [k1, getD_set' tm p v t (hlt p (by simp)), if_neg hne, lookO_cons, if_neg hne]
      exact ⟨rfl, k2⟩
    · rcases List.mem_cons.1 ht with rfl | ht
      · refine ⟨.dat e x.1, by rw [lookO_cons, if_pos rfl], fun P H g hg => ?_⟩
        obtain ⟨k1, _⟩ := h3 t hn1
        rw [k1, getD_set' tm t v t (hlt t (by simp)), if_pos rfl]
        subst hg
        exact hv1
      · obtain ⟨u, k1, k2⟩ := h4 t ht
        have hne : p ≠ t := fun e => hn1 (e ▸ ht)
        exact ⟨u, by rw [lookO_cons, if_neg hne]; exact k1, k2⟩
  | [], _ :: _, _, _, _, _, h, _, _, _ => by simp [parSlots] at h
  | [_], [], _, _, _, _, h, _, _, _ => by simp [parSlots] at h
  | [_], _ :: _ :: _, _, _, _, _, h, _, _, _ => by simp [parSlots] at h
  | _ :: _ :: _, [], _, _, _, _, h, _, _, _ => by simp [parSlots] at h
  | _ :: _ :: _, [_], _, _, _, _, h, _, _, _ => by simp [parSlots] at h

def toExit : Ex → Exit
  | .normal => .normal
  | .exit id => .exit id
  | .ret => .ret
def exCode : Ex → Code
  | .normal => .skip
  | .exit id => .exit id
  | .ret => .ret

theorem castDs_some {es es' : List Ty} {x : dens es} {y : dens es'} (h : castDs es es' x = some y) : (⟨es, x⟩ : (es : List Ty) × dens es) = ⟨es', y⟩ := by
  unfold castDs at h
  split at h
  · rename_i hb
    have hst := tysEq hb
    subst hst
    cases h; rfl
  · cases h

/-- The state between two rounds. -/
def JIn {R : Type} (P : Program) (N : Nat) (F : Fr) (J : R → Gh → World → Prop) (a1 : Act) (l : Nat) (rec : LoopState → Option Code → Loop) (base : List (Nat × S)) {α : Type} (it : List α → Heap → Option R) (K : Ex → St → Option R) (xs : List α) (G : Gh) (w : World) : Prop :=
  (∃ t g h r, g.G = G ∧ F.t ≤ t ∧ Inv P N { F with t := t } g { slots := base, heap := h } a1 w ∧ J r G w ∧ it xs h = some r ∧ w.heap[l]? = some (.loop (rec .ready none)) ∧ G l = .mine F.m) ∨
  (xs = [] ∧ ∃ t g h r e, g.G = G ∧ F.t ≤ t ∧ Inv P N { F with t := t } g { slots := base, heap := h } a1 w ∧ J r G w ∧ K e { slots := base, heap := h } = some r ∧ e ≠ .normal ∧ w.heap[l]? = some (.loop (rec .done (some (exCode e)))) ∧ G l = .mine F.m)

theorem JIn.abide {R : Type} {P : Program} {N : Nat} {F : Fr} {J : R → Gh → World → Prop} {a1 : Act} {l : Nat} {rec : LoopState → Option Code → Loop} {base : List (Nat × S)} {α : Type} {it : List α → Heap → Option R} {K : Ex → St → Option R}
    {τ : Nat} (hJ : Abide τ J) (hτ : τ < F.m) (hm : F.m ≤ F.t) (h0 : Lv F.t F.G F.w) : Abide F.t (JIn P N F J a1 l rec base it K) := by
  intro xs G w G' w' h k
  have key : ∀ (t : Nat) (g : Gs) (h : Heap), g.G = G → F.t ≤ t → Inv P N { F with t := t } g { slots := base, heap := h } a1 w → ∃ t' g', g'.G = G' ∧ F.t ≤ t' ∧ Inv P N { F with t := t' } g' { slots := base, heap := h } a1 w' := by
    intro t g h hg ht hinv
    obtain ⟨t', h1, h2⟩ := Lv.exists G' w' t
    subst hg
    exact ⟨t', ⟨G', g.ι, g.ov, g.yl⟩, rfl, Nat.le_trans ht h1, Inv.kp (hinv.raise h1) k trivial hm (fun _ => hm) (fun b hb _ => h0 b hb) h2⟩
  have hl : ∀ o : Obj, w.heap[l]? = some o → G l = .mine F.m → w'.heap[l]? = some o ∧ G' l = .mine F.m := by
    intro o h1 h2
    obtain ⟨q1, q2⟩ := k.same l (Array.getElem?_eq_some_iff.1 h1).1 (by rw [h2]; exact hm)
    exact ⟨q1.trans h1, q2.trans h2⟩
  have hJk : ∀ r, J r G w → J r G' w' := fun r hj => hJ r G w G' w' hj (k.mono fun o ho => Own.upto_mono (by omega) ho)
  rcases h with ⟨t, g, h, r, h1, h2, h3, h4, h5, h6, h7⟩ | ⟨hx, t, g, h, r, e, h1, h2, h3, h4, h5, h6, h7, h8⟩
  · obtain ⟨t', g', k1, k2, k3⟩ := key t g h h1 h2 h3
    obtain ⟨q1, q2⟩ := hl _ h6 h7
    exact .inl ⟨t', g', h, r, k1, k2, k3, hJk r h4, h5, q1, q2⟩
  · obtain ⟨t', g', k1, k2, k3⟩ := key t g h h1 h2 h3
    obtain ⟨q1, q2⟩ := hl _ h7 h8
    exact .inr ⟨hx, t', g', h, r, e, k1, k2, k3, hJk r h4, h5, h6, q1, q2⟩
end Go.Vi
