/- Operations that make or write memory of the run's own. -/
import Derived.Test.YtagpigbfbhdoiaaViK
namespace Go.Vi
open Go.RowKit (Below)

theorem ConRel.ext {P : Program} {H H' : Heap} {g g' : Gs} {w w' : World} (he : Ext H g H' g') (ha : Adv g.G w g'.G w') {c : S} {cs : List Value} (h : ConRel P H g w c cs) : ConRel P H' g' w' c cs := by
  cases c with
  | dat τ x => exact Rep.adv ha τ x _ h
  | lst k e x => obtain ⟨v, h5, h6⟩ := h; exact ⟨v, h5, h6.ext he ha⟩
  | fn ps rs f => obtain ⟨v, h5, h6⟩ := h; exact ⟨v, h5, h6.ext he ha⟩
  | seq es xs => obtain ⟨v, h5, h6⟩ := h; exact ⟨v, h5, h6.ext he ha⟩
  | ptr id n root π => obtain ⟨v, h5, h6⟩ := h; exact ⟨v, h5, h6.ext he ha⟩
  | yld es => obtain ⟨v, h5, h6⟩ := h; exact ⟨v, h5, h6.ext he ha⟩
  | _ => exact h.elim

/-- A row of the heap is laid over the others: one block alone may have changed. -/
theorem HeapRel.addBox {P : Program} {H : Heap} {g g' : Gs} {w w' : World} {F : Fr} (h : HeapRel P H g w F) {id n : Nat} {fz : Bool} {c : S}
    (hw : ∀ b, b < w.heap.size → b ≠ g'.ι id n → w'.heap[b]? = w.heap[b]? ∧ g'.G b = g.G b) (hov : g'.ov = g.ov) (hι : ∀ id' n', id' ≠ id → g'.ι id' n' = g.ι id' n')
    (hbox : BoxRel P ((id, .box n fz c) :: H) g' w' F id n fz c) (hfree : ∀ id' n' fz' c', lookO H id' = some (.box n' fz' c') → id' ≠ id → g.ι id' n' ≠ g'.ι id n)
    (hroom : ∀ T m, lookO H T = some (.tok m) → roomOf (g.ov T) ≠ some (g'.ι id n))
    (hx : Ext H g ((id, .box n fz c) :: H) g') (ha : Adv g.G w g'.G w') : HeapRel P ((id, .box n fz c) :: H) g' w' F := by
  refine ⟨fun id' n' fz' c' hl => ?_, fun T m hl => ?_, fun id1 n1 fz1 c1 id2 n2 fz2 c2 h1 h2 hne => ?_, fun T1 n1 T2 n2 h1 h2 hne b hb => ?_⟩
  · rw [lookO_cons] at hl
    by_cases hid : id = id'
    · rw [if_pos hid] at hl
      cases hl
      subst hid
      exact hbox
    · rw [if_neg hid] at hl
      obtain ⟨cs, et, h1, h2, h3⟩ := h.box id' n' fz' c' hl
      have hlt : g.ι id' n' < w.heap.size := (Array.getElem?_eq_some_iff.1 h1).1
      have hne := hfree id' n' fz' c' hl (Ne.symm hid)
      obtain ⟨q1, q2⟩ := hw _ hlt hne
      refine ⟨cs, et, ?_, h2.ext hx ha, ?_⟩ <;> rw [hι id' n' (Ne.symm hid)]
      · rw [q1]; exact h1
      · rw [q2]; exact h3
  · rw [lookO_cons] at hl
    by_cases hid : id = T
    · rw [if_pos hid] at hl; cases hl
    · rw [if_neg hid] at hl
      obtain ⟨ao, k, cp, h1, h2, h3⟩ := h.tok T m hl
      refine ⟨ao, k, cp, by rw [hov]; exact h1, h2, ?_⟩
      by_cases hkc : k = cp
      · exact .inl hkc
      · rcases h3 with h3 | ⟨b, cur, et, h4, h5, h6, h7, h8⟩
        · exact absurd h3 hkc
        · have hlt : b < w.heap.size := (Array.getElem?_eq_some_iff.1 h7).1
          have hne : b ≠ g'.ι id n := by
            intro e
            apply hroom T m hl
            rw [roomOf, h1, h4]
            simp only
            rw [if_pos (by omega), e]
          obtain ⟨q1, q2⟩ := hw b hlt hne
          exact .inr ⟨b, cur, et, h4, by rw [q2, hov]; exact h5, h6, by rw [q1]; exact h7, by rw [hov]; exact h8⟩
  · rw [lookO_cons] at h1 h2
    by_cases e1 : id = id1
    · rw [if_pos e1] at h1
      cases h1
      have e2 : id ≠ id2 := by rw [e1]; exact hne
      rw [if_neg e2] at h2
      have := hfree id2 n2 fz2 c2 h2 (Ne.symm e2)
      rw [hι id2 n2 (Ne.symm e2), ← e1]
      exact Ne.symm this
    · rw [if_neg e1] at h1
      by_cases e2 : id = id2
      · rw [if_pos e2] at h2
        cases h2
        have := hfree id1 n1 fz1 c1 h1 (Ne.symm e1)
        rw [hι id1 n1 (Ne.symm e1), ← e2]
        exact this
      · rw [if_neg e2] at h2
        rw [hι id1 n1 (Ne.symm e1), hι id2 n2 (Ne.symm e2)]
        exact h.apart _ _ _ _ _ _ _ _ h1 h2 hne
  · rw [lookO_cons] at h1 h2
    by_cases e1 : id = T1
    · rw [if_pos e1] at h1; cases h1
    · rw [if_neg e1] at h1
      by_cases e2 : id = T2
      · rw [if_pos e2] at h2; cases h2
      · rw [if_neg e2] at h2
        rw [hov] at hb ⊢
        exact h.rooms _ _ _ _ h1 h2 hne b hb

/-- A right's row is laid over the others: one block alone may have changed. -/
theorem HeapRel.addTok {P : Program} {H : Heap} {g g' : Gs} {w w' : World} {F : Fr} (h : HeapRel P H g w F) {T n : Nat} (tb : Option Nat)
    (hw : ∀ b, b < w.heap.size → tb ≠ some b → w'.heap[b]? = w.heap[b]? ∧ g'.G b = g.G b) (hι : g'.ι = g.ι) (hov : ∀ T', T' ≠ T → g'.ov T' = g.ov T')
    (htok : TokRel g' w' F T) (hsub : ∀ k, roomOf (g'.ov T) = some k → tb = some k) (hfree : ∀ id n fz c, lookO H id = some (.box n fz c) → tb ≠ some (g.ι id n))
    (hroom : ∀ T' m, lookO H T' = some (.tok m) → T' ≠ T → ∀ b, roomOf (g.ov T') = some b → tb ≠ some b)
    (hx : Ext H g ((T, .tok n) :: H) g') (ha : Adv g.G w g'.G w') : HeapRel P ((T, .tok n) :: H) g' w' F := by
  refine ⟨fun id n' fz c hl => ?_, fun T' m hl => ?_, fun id1 n1 fz1 c1 id2 n2 fz2 c2 h1 h2 hne => ?_, fun T1 n1 T2 n2 h1 h2 hne b hb => ?_⟩
  · rw [lookO_cons] at hl
    by_cases hid : T = id
    · rw [if_pos hid] at hl; cases hl
    · rw [if_neg hid] at hl
      obtain ⟨cs, et, h1, h2, h3⟩ := h.box id n' fz c hl
      have hlt : g.ι id n' < w.heap.size := (Array.getElem?_eq_some_iff.1 h1).1
      obtain ⟨q1, q2⟩ := hw _ hlt (hfree id n' fz c hl)
      exact ⟨cs, et, by rw [hι, q1]; exact h1, h2.ext hx ha, by rw [hι, q2]; exact h3⟩
  · rw [lookO_cons] at hl
    by_cases hid : T = T'
    · subst hid; exact htok
    · rw [if_neg hid] at hl
      obtain ⟨ao, k, cp, h1, h2, h3⟩ := h.tok T' m hl
      have hov' := hov T' (Ne.symm hid)
      refine ⟨ao, k, cp, by rw [hov']; exact h1, h2, ?_⟩
      by_cases hkc : k = cp
      · exact .inl hkc
      · rcases h3 with h3 | ⟨b, cur, et, h4, h5, h6, h7, h8⟩
        · exact absurd h3 hkc
        · have hlt : b < w.heap.size := (Array.getElem?_eq_some_iff.1 h7).1
          have hrm : roomOf (g.ov T') = some b := by
            rw [roomOf, h1, h4]
            simp only
            rw [if_pos (by omega)]
          obtain ⟨q1, q2⟩ := hw b hlt (hroom T' m hl (Ne.symm hid) b hrm)
          exact .inr ⟨b, cur, et, h4, by rw [q2, hov']; exact h5, h6, by rw [q1]; exact h7, by rw [hov']; exact h8⟩
  · rw [lookO_cons] at h1 h2
    by_cases e1 : T = id1
    · rw [if_pos e1] at h1; cases h1
    · rw [if_neg e1] at h1
      by_cases e2 : T = id2
      · rw [if_pos e2] at h2; cases h2
      · rw [if_neg e2] at h2
        rw [hι]
        exact h.apart _ _ _ _ _ _ _ _ h1 h2 hne
  · rw [lookO_cons] at h1 h2
    by_cases e1 : T = T1
    · subst e1
      have e2 : T ≠ T2 := hne
      rw [if_neg e2] at h2
      rw [hov T2 (Ne.symm e2)]
      intro hb2
      exact hroom T2 n2 h2 (Ne.symm e2) b hb2 (hsub b hb)
    · rw [if_neg e1] at h1
      rw [hov T1 (Ne.symm e1)] at hb
      by_cases e2 : T = T2
      · subst e2
        intro hb2
        exact hroom T1 n1 h1 (Ne.symm e1) b hb (hsub b hb2)
      · rw [if_neg e2] at h2
        rw [hov T2 (Ne.symm e2)]
        exact h.rooms _ _ _ _ h1 h2 hne b hb

/-- What is behind the heap's end is free. -/
theorem HeapRel.lt {P : Program} {H : Heap} {g : Gs} {w : World} {F : Fr} (h : HeapRel P H g w F) : (∀ id n fz c, lookO H id = some (.box n fz c) → g.ι id n < w.heap.size) ∧
    ∀ T m, lookO H T = some (.tok m) → ∀ b, roomOf (g.ov T) = some b → b < w.heap.size := by
  refine ⟨fun id n fz c hl => ?_, fun T m hl b hb => ?_⟩
  · obtain ⟨cs, et, h1, _⟩ := h.box id n fz c hl
    exact (Array.getElem?_eq_some_iff.1 h1).1
  · obtain ⟨ao, k, cp, h1, h2, h3⟩ := h.tok T m hl
    rw [roomOf, h1] at hb
    cases ao with
    | none => cases hb
    | some ad =>
      simp only at hb
      split at hb
      · cases hb
        rcases h3 with h3 | ⟨b', cur, et, h4, h5, h6, h7, h8⟩
        · omega
        · cases h4
          exact (Array.getElem?_eq_some_iff.1 h7).1
      · cases hb

theorem heap_alloc {w : World} {ob : Obj} {b : Nat} (h : b < w.heap.size) : (w.alloc ob).heap[b]? = w.heap[b]? := Below.heap_alloc w ob b h

/-- A new block is a step. -/
theorem Stp.alloc {F : Fr} {G G' : Gh} {w : World} (ob : Obj) (hG : ∀ b, b < w.heap.size → G' b = G b) (hn : (G' w.heap.size).upto F.t) : Stp F G w G' (w.alloc ob) := by
  have hb : ∀ b : Nat, b < w.heap.size → (w.alloc ob).heap[b]? = w.heap[b]? := fun b hb => heap_alloc hb
  refine ⟨⟨rfl, rfl, rfl, by simp, fun b h _ => ⟨hb b h, hG b h⟩, ⟨fun b o' v hcell hs => ?_⟩⟩, fun hl b h => ?_, NC.of_blocks hb hG⟩
  · have h := Cell.lt hcell
    refine ⟨by rw [Cell.of_block (hb b h)]; exact hcell, ?_⟩
    unfold Gh.st at *
    rw [hG b h]; exact hs
  · simp only [World.size_alloc] at h
    by_cases e : b = w.heap.size
    · rw [e]; exact hn
    · rw [hG b (by omega)]; exact hl b (by omega)

/-- A new variable. -/
theorem Inv.alloc {P : Program} {N : Nat} {F : Fr} {g : Gs} {s : St} {a : Act} {w : World} (hinv : Inv P N F g s a w) {d n : Nat} (hd : dstLt N F (some d)) (hn : nextBox s d = some n) {c : S} {cs : Array Value} {et : TypeId}
    (hc : ConRel P s.heap g w c cs.toList) {rd : List Nat} (root : Ty) :
    ∃ g', Inv P N F g' (s.app (some d) { val := .ptr d n root [], hw := [(d, .box n false c)], rd := rd }) (a.put (some d) (.pointer (some ⟨w.heap.size, 0, none⟩))) (w.alloc (.cells cs et)) := by
  let g' : Gs := ⟨fun b => if b = w.heap.size then .mine F.m else g.G b, fun id' n' => if id' = d ∧ n' = n then w.heap.size else g.ι id' n', g.ov, g.yl⟩
  have hι : g'.ι d n = w.heap.size := by simp [g']
  have hG : ∀ b, b < w.heap.size → g'.G b = g.G b := fun b hb => by simp only [g']; rw [if_neg (by omega)]
  have ha : Adv g.G w g'.G (w.alloc (.cells cs et)) := ⟨fun b o' v hcell hs => by
    have hb := Cell.lt hcell
    refine ⟨by rw [Cell.of_block (heap_alloc hb)]; exact hcell, ?_⟩
    unfold Gh.st at *
    rw [hG b hb]; exact hs⟩
  have hnt : ∀ m, lookO s.heap d ≠ some (.tok m) := fun m hl => by simp [nextBox, hl] at hn
  have hx : Ext s.heap g ((d, .box n false c) :: s.heap) g' := by
    refine ⟨fun id m fz c' hl => ?_, fun T m hl => ⟨m, ?_, Nat.le_refl _, fun _ => rfl⟩, rfl⟩
    · by_cases hid : d = id
      · subst hid
        have hnm : n = m + 1 := by simp [nextBox, hl] at hn; omega
        refine ⟨n, false, c, by rw [lookO_cons, if_pos rfl], by omega, fun k hk => ?_⟩
        simp only [g']
        rw [if_neg (by omega)]
      · refine ⟨m, fz, c', by rw [lookO_cons, if_neg hid]; exact hl, Nat.le_refl _, fun k hk => ?_⟩
        simp only [g']
        rw [if_neg (fun h => hid h.1.symm)]
    · rw [lookO_cons, if_neg (fun h => hnt m (by rw [h]; exact hl))]; exact hl
  have hlt := hinv.heap.lt
  refine ⟨g', hinv.app (d := some d) (e := { val := .ptr d n root [], hw := [(d, .box n false c)], rd := rd }) hd hx ?_ ?_ (Stp.alloc _ hG (by show (if w.heap.size = w.heap.size then Own.mine F.m else _).upto F.t; rw [if_pos rfl]; exact hinv.mt))⟩
  · refine SRel.of0 ⟨n, false, c, by simp [lookO_cons], Nat.le_refl _, trivial, ?_⟩
    rw [hι]; rfl
  · refine hinv.heap.addBox (g' := g') (id := d) (n := n) (fz := false) (c := c) (fun b hb _ => ⟨heap_alloc hb, hG b hb⟩) rfl (fun id' n' hne => by simp only [g']; rw [if_neg (fun h => hne h.1)]) ?_ ?_ ?_ hx ha
    · refine ⟨cs, et, by rw [hι]; exact heap_alloc_new w _, hc.ext hx ha, by rw [hι]; simp [g']⟩
    · intro id' n' fz' c' hl _
      rw [hι]
      have := hlt.1 id' n' fz' c' hl
      omega
    · intro T m hl e
      rw [hι] at e
      have := hlt.2 T m hl _ e
      omega

section
variable {P : Program} {C : Ctx} (T : Types P C.tab) {N : Nat} {F : Fr} {g : Gs} {s : St} {a : Act} {w : World} (hinv : Inv P N F g s a w) {o : Oper} (hd : dstLt N F o.dst)
include hinv hd T

theorem shown_alloc {t : TypeId} (hop : o.op = .alloc t) {d n : Nat} (hdst : o.dst = some d) {te : TE} (hte : C.te t = some te) (hn : nextBox s d = some n) :
    Shown P N F s a w o { val := .ptr d n te.ty [], hw := [(d, .box n false (zeroC te.ty))], rd := [d] } := by
  obtain ⟨i, hi, hsz, hz⟩ := T.info hte
  have hcells : (valOf te.ty (zeroV te.ty)).cells = (zeroV te.ty).toArray := (Rep.zero g.G w te.ty).cells
  have hrun : (execOp a.eval o).run P w = .ok (.value (.pointer (some ⟨w.heap.size, 0, none⟩))) (w.alloc (.cells (zeroV te.ty).toArray t)) := by
    unfold execOp
    rw [hop]
    simp only [Instr.alloc, zeroValue, typeInfo, Sem.run_bind, run_program, hi, Sem.run_pure, Result.andThen_ok, hz, newVar, newRow, hcells, run_newObj, World.alloc_eq]
  have hc : ConRel P s.heap g w (zeroC te.ty) (zeroV te.ty).toArray.toList := by
    unfold zeroC
    split
    · rename_i e hty
      refine ⟨.slice none 0 0, by rw [hty]; rfl, RepV.mk_slc (xs := []) (Nat.le_refl 0) rfl, none, 0, rfl⟩
    · exact Rep.zero g.G w te.ty
  rw [hdst] at hd
  obtain ⟨g', hg'⟩ := hinv.alloc (et := t) hd hn hc (rd := [d]) te.ty
  exact .value hrun ⟨g', by rw [hdst]; exact hg'⟩

omit T hd hinv in
theorem RepV.cells {τ : Ty} {x : τ.den} {v : Value} {G : Gh} (h : RepV G w τ x v) : Rep G w τ x v.cells.toList := by
  obtain ⟨cs, h1, rfl⟩ := h
  rw [h1.cells]; exact h1

omit T hd hinv in
/-- What a slot's value is as a variable's content. -/
theorem SRel.content {H : Heap} {τ : Ty} {u c : S} {v : Value} (h : SRel P H g w u v) (hc : contentOf τ u = some c) : ConRel P H g w c v.cells.toList := by
  unfold contentOf at hc
  split at hc
  · rename_i k e x
    cases hb : (Ty.slc e).beq τ with
    | false => rw [hb] at hc; cases hc
    | true =>
      rw [hb] at hc
      cases hc
      have hrep : RepV g.G w (.slc e) x v := by cases k <;> exact h.1
      obtain ⟨ao, cap, e1, _⟩ := RepV.slc hrep
      exact ⟨v, by rw [e1]; rfl, h⟩
  · split at hc
    · cases hc
      have hv : v = .slice none 0 0 := h
      subst hv
      exact ⟨_, rfl, RepV.mk_slc (xs := []) (Nat.le_refl 0) rfl, none, 0, rfl⟩
    · cases hc
  · rw [Option.map_eq_some_iff] at hc
    obtain ⟨x, hx, rfl⟩ := hc
    exact (h.asD hx).cells

omit T in
theorem shown_box {t : TypeId} {x : Operand} (hop : o.op = .box t x) {e : Eff} (he : (match o.dst with
    | some d => match nextBox s d with
      | some n => match C.te t with
        | some te => match contentOf te.ty (s.ev x) with
          | some c => Out.ok true { val := .ptr d n te.ty [], hw := [(d, .box n false c)], rd := [d] }
          | none => .fail
        | none => match s.ev x with
          | .fn ps rs g => .ok true { val := .ptr d n .unit [], hw := [(d, .box n false (.fn ps rs g))], rd := [d] }
          | .seq es xs => .ok true { val := .ptr d n .unit [], hw := [(d, .box n false (.seq es xs))], rd := [d] }
          | .ptr id' n' root' π' => .ok true { val := .ptr d n .unit [], hw := [(d, .box n false (.ptr id' n' root' π'))], rd := [d] }
          | .yld es => .ok true { val := .ptr d n .unit [], hw := [(d, .box n false (.yld es))], rd := [d] }
          | _ => .fail
      | none => .fail
    | none => .fail).is e) : Shown P N F s a w o e := by
  have hx := hinv.ev x
  have hrun : (execOp a.eval o).run P w = .ok (.value (.pointer (some ⟨w.heap.size, 0, none⟩))) (w.alloc (.cells (a.eval x).cells t)) := by
    unfold execOp
    rw [hop]
    simp only [Instr.box, Sem.run_bind, Sem.run_pure, Result.andThen_ok, newVar, newRow, run_newObj, World.alloc_eq]
  split at he
  · rename_i d hdst
    rw [hdst] at hd
    split at he
    · rename_i n hn
      split at he
      · rename_i te hte
        split at he
        · rename_i c hc
          obtain ⟨_, rfl⟩ := he
          obtain ⟨g', hg'⟩ := hinv.alloc (et := t) hd hn (hx.content hc) (rd := [d]) te.ty
          exact .value hrun ⟨g', by rw [hdst]; exact hg'⟩
        · exact he.elim
      · split at he
        · rename_i ps rs f heq
          obtain ⟨_, rfl⟩ := he
          rw [heq] at hx
          have hx' := hx
          obtain ⟨fi, caps, e1, _⟩ := hx'
          have hc : ConRel P s.heap g w (.fn ps rs f) (a.eval x).cells.toList := ⟨a.eval x, by rw [e1]; rfl, hx⟩
          obtain ⟨g', hg'⟩ := hinv.alloc (et := t) hd hn hc (rd := [d]) .unit
          exact .value hrun ⟨g', by rw [hdst]; exact hg'⟩
        · rename_i es xs heq
          obtain ⟨_, rfl⟩ := he
          rw [heq] at hx
          have hx' := hx
          obtain ⟨fi, first, caps, e1, _⟩ := hx'
          have hc : ConRel P s.heap g w (.seq es xs) (a.eval x).cells.toList := ⟨a.eval x, by rw [e1]; rfl, hx⟩
          obtain ⟨g', hg'⟩ := hinv.alloc (et := t) hd hn hc (rd := [d]) .unit
          exact .value hrun ⟨g', by rw [hdst]; exact hg'⟩
        · rename_i id' n' root' π' heq
          obtain ⟨_, rfl⟩ := he
          rw [heq] at hx
          have hx' := hx
          obtain ⟨m', fz', c', p1, p2, p3, e1⟩ := hx'
          have hc : ConRel P s.heap g w (.ptr id' n' root' π') (a.eval x).cells.toList := ⟨a.eval x, by rw [e1]; rfl, hx⟩
          obtain ⟨g', hg'⟩ := hinv.alloc (et := t) hd hn hc (rd := [d]) .unit
          exact .value hrun ⟨g', by rw [hdst]; exact hg'⟩
        · rename_i es heq
          obtain ⟨_, rfl⟩ := he
          rw [heq] at hx
          have e1 : a.eval x = .func (.yield g.yl) #[] #[] := hx
          have hc : ConRel P s.heap g w (.yld es) (a.eval x).cells.toList := ⟨a.eval x, by rw [e1]; rfl, hx⟩
          obtain ⟨g', hg'⟩ := hinv.alloc (et := t) hd hn hc (rd := [d]) .unit
          exact .value hrun ⟨g', by rw [hdst]; exact hg'⟩
        · exact he.elim
    · exact he.elim
  · exact he.elim
end
end Go.Vi
