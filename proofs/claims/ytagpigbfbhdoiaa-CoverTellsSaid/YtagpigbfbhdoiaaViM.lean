/- Stores; what is written no more; literals of slices; closures. -/
import Derived.Test.YtagpigbfbhdoiaaViL
namespace Go.Vi
open Go.RowKit (Below)

theorem Rep.one {G : Gh} {w : World} : ∀ (τ : Ty) (x : τ.den) (cs : List Value), Rep G w τ x cs → ∀ v ∈ cs, v.oneCell' = true
  | .int _, _, _, h, v, hv => by simp only [Rep] at h; subst h; rw [List.mem_singleton] at hv; subst hv; rfl
  | .bool, _, _, h, v, hv => by simp only [Rep] at h; subst h; rw [List.mem_singleton] at hv; subst hv; rfl
  | .str, _, _, h, v, hv => by simp only [Rep] at h; subst h; rw [List.mem_singleton] at hv; subst hv; rfl
  | .unit, _, _, h, v, hv => by simp only [Rep] at h; subst h; cases hv
  | .one a, x, cs, h, v, hv => by
    simp only [Rep] at h
    exact Rep.one a x cs h v hv
  | .pair a b, x, cs, h, v, hv => by
    simp only [Rep] at h
    obtain ⟨c1, c2, rfl, h1, h2⟩ := h
    rcases List.mem_append.1 hv with hv | hv
    · exact Rep.one a _ _ h1 v hv
    · exact Rep.one b _ _ h2 v hv
  | .arr n e, xs, cs, h, v, hv => by
    simp only [Rep] at h
    obtain ⟨hn, css, rfl, he⟩ := h
    rw [List.mem_flatten] at hv
    obtain ⟨c, hc, hv⟩ := hv
    exact he.right (Q := fun c => ∀ v ∈ c, v.oneCell' = true) (fun x y hxy => Rep.one e x y hxy) c hc v hv
  | .slc e, xs, cs, h, v, hv => by
    simp only [Rep] at h
    obtain ⟨ao, cap, rfl, _, _⟩ := h
    rw [List.mem_singleton] at hv; subst hv; rfl

/-- A variable's content is laid anew. -/
theorem HeapRel.put {P : Program} {H : Heap} {g g' : Gs} {w w' : World} {F : Fr} (h : HeapRel P H g w F) {id n : Nat} {fz fz' : Bool} {c c' : S} (hl : lookO H id = some (.box n fz c))
    (hw : ∀ b, b < w.heap.size → b ≠ g.ι id n → w'.heap[b]? = w.heap[b]? ∧ g'.G b = g.G b) (hov : g'.ov = g.ov) (hι : g'.ι = g.ι) (hyl : g'.yl = g.yl) (hbox : BoxRel P ((id, .box n fz' c') :: H) g' w' F id n fz' c')
    (ha : Adv g.G w g'.G w') (hroom : g.G (g.ι id n) = .mine F.m ∨ g.G (g.ι id n) = .stays) : HeapRel P ((id, .box n fz' c') :: H) g' w' F ∧ Ext H g ((id, .box n fz' c') :: H) g' := by
  have hx : Ext H g ((id, .box n fz' c') :: H) g' := by
    refine ⟨fun id1 m fz1 c1 h1 => ?_, fun T m h1 => ⟨m, ?_, Nat.le_refl _, fun _ => by rw [hov]⟩, hyl⟩
    · by_cases e : id = id1
      · subst e
        rw [hl] at h1
        cases h1
        exact ⟨n, fz', c', by rw [lookO_cons, if_pos rfl], Nat.le_refl _, fun _ _ => by rw [hι]⟩
      · exact ⟨m, fz1, c1, by rw [lookO_cons, if_neg e]; exact h1, Nat.le_refl _, fun _ _ => by rw [hι]⟩
    · rw [lookO_cons, if_neg (fun e => by rw [e, h1] at hl; cases hl)]; exact h1
  refine ⟨h.addBox (by rw [hι]; exact hw) hov (fun _ _ _ => by rw [hι]) hbox ?_ ?_ hx ha, hx⟩
  · intro id' n' fz1 c1 h1 hne
    rw [hι]
    exact h.apart _ _ _ _ _ _ _ _ h1 hl hne
  · intro T m h1 e
    rw [hι] at e
    obtain ⟨ao, k, cp, q1, q2, q3⟩ := h.tok T m h1
    rw [roomOf, q1] at e
    cases ao with
    | none => cases e
    | some ad =>
      simp only at e
      split at e
      · have e := Option.some.inj e
        rcases q3 with q3 | ⟨b, cur, et, q4, q5, _⟩
        · omega
        · cases q4
          simp only at e
          rw [← e] at hroom
          rcases hroom with hr | hr <;> rw [hr] at q5 <;> cases q5
      · cases e

section
variable {P : Program} {C : Ctx} (T : Types P C.tab) {N : Nat} {F : Fr} {g : Gs} {s : St} {a : Act} {w : World} (hinv : Inv P N F g s a w) {o : Oper} (hd : dstLt N F o.dst)

include hinv in
/-- A store into a variable of the run's own. -/
theorem Inv.store {id n : Nat} {c c' : S} (hl : lookO s.heap id = some (.box n false c)) {cur : Array Value} {et : TypeId} (hblk : w.heap[g.ι id n]? = some (.cells cur et (0, 0)))
    {cs' : Array Value} (hc : ConRel P s.heap g w c' cs'.toList) : Adv g.G w g.G (w.setRow (g.ι id n) cs') ∧ HeapRel P ((id, .box n false c') :: s.heap) g (w.setRow (g.ι id n) cs') F ∧ Ext s.heap g ((id, .box n false c') :: s.heap) g ∧
      Stp F g.G w g.G (w.setRow (g.ι id n) cs') := by
  obtain ⟨cs0, et0, h1, h2, h3⟩ := hinv.heap.box id n false c hl
  rw [if_neg (by simp)] at h3
  have ha : Adv g.G w g.G (w.setRow (g.ι id n) cs') := ⟨fun b o' v hcell hs => by
    by_cases hb : b = g.ι id n
    · subst hb
      unfold Gh.st at hs
      rw [h3] at hs
      exact hs.elim
    · exact ⟨by rw [Cell.of_block (setRow_other w _ b cs' hb)]; exact hcell, hs⟩⟩
  have hput := hinv.heap.put (g' := g) (w' := w.setRow (g.ι id n) cs') (fz' := false) (c' := c') hl (fun b _ hb => ⟨setRow_other w _ b cs' hb, rfl⟩) rfl rfl rfl
  have hx : Ext s.heap g ((id, .box n false c') :: s.heap) g := by
    refine ⟨fun id1 m fz1 c1 k1 => ?_, fun T' m k1 => ⟨m, ?_, Nat.le_refl _, fun _ => rfl⟩, rfl⟩
    · by_cases e : id = id1
      · subst e
        rw [hl] at k1
        cases k1
        exact ⟨n, false, c', by rw [lookO_cons, if_pos rfl], Nat.le_refl _, fun _ _ => rfl⟩
      · exact ⟨m, fz1, c1, by rw [lookO_cons, if_neg e]; exact k1, Nat.le_refl _, fun _ _ => rfl⟩
    · rw [lookO_cons, if_neg (fun e => by rw [e, k1] at hl; cases hl)]; exact k1
  refine ⟨ha, (hput ⟨cs', et, setRow_heap w _ cur cs' et (0, 0) hblk, hc.ext hx ha, by rw [if_neg (by simp)]; exact h3⟩ ha (.inl h3)).1, hx, ?_⟩
  refine ⟨⟨rfl, rfl, rfl, by simp, fun k hk hp => ⟨setRow_other w _ k cs' (fun e => ?_), rfl⟩, ha⟩, fun hl b hb => hl b (by simpa using hb), fun b o' h5 h6 => ?_⟩
  · rw [e, h3] at hp; exact hp rfl
  · by_cases e : b = g.ι id n
    · rw [e, h1] at h5; cases h5; cases h6
    · exact ⟨by rw [setRow_other w _ b cs' e]; exact h5, rfl⟩

include hinv hd T in
theorem shown_store {t : TypeId} {x y : Operand} (hop : o.op = .store t x y) {e : Eff} (he : (storeS C s t (s.ev y) (s.ev x)).is e) : Shown P N F s a w o e := by
  have hx := hinv.ev x
  have hy := hinv.ev y
  generalize hsx : s.ev x = sx at *
  generalize hsy : s.ev y = sy at *
  have fin : ∀ (id n : Nat) (c c' : S) (cur cs' : Array Value) (et : TypeId), lookO s.heap id = some (.box n false c) → w.heap[g.ι id n]? = some (.cells cur et (0, 0)) → ConRel P s.heap g w c' cs'.toList →
      (execOp a.eval o).run P w = .ok .skip (w.setRow (g.ι id n) cs') → Shown P N F s a w o { val := .poison, hw := [(id, .box n false c')], rd := [id] } := by
    intro id n c c' cur cs' et h1 h2 h3 hrun
    obtain ⟨q1, q2, q3, q4⟩ := hinv.store h1 h2 h3
    unfold Shown OpOk
    rw [hrun]
    exact ⟨g, hinv.app (e := { val := .poison, hw := [(id, .box n false c')], rd := [id] }) hd q3 (SRel.of0 (s := .poison) trivial) q2 q4⟩
  have run : ∀ (b off : Nat) (cur : Array Value) (et : TypeId) (τ : Ty) (te : TE) (z : τ.den), C.te t = some te → te.ty = τ → RepV g.G w τ z (a.eval y) → a.eval x = .pointer (some ⟨b, off, none⟩) →
      w.heap[b]? = some (.cells cur et (0, 0)) → off + (a.eval y).cells.toList.length ≤ cur.size →
      (execOp a.eval o).run P w = .ok .skip (w.setRow b (splice cur.toList off (a.eval y).cells.toList).toArray) := by
    intro b off cur et τ te z hte hty hz e1 hblk hle
    subst hty
    obtain ⟨i, hi, hsz, _⟩ := T.info hte
    have hc := RepV.cells hz
    have hlen := Rep.size _ _ _ hc
    have hst := run_storeCells_at P b off et (a.eval y).cells.toList 0 cur w hblk (by simpa using hle) (Rep.one _ _ _ hc)
    simp only [Nat.add_zero] at hst
    have hex : execOp a.eval o = (do Instr.storeAt t (a.eval x) (a.eval y); pure .skip) := by unfold execOp; rw [hop]
    have hsize : (a.eval y).cells.size = te.ty.size := by simpa using hlen
    have hcond : ¬ ((a.eval y).cells.size ≠ te.ty.size) := by simp [hsize]
    rw [hex, e1]
    simp only [Instr.storeAt, Instr.sureAddr, storeVar, Sem.run_bind, Sem.run_pure, Result.andThen_ok, sizeOf, typeInfo, run_program, hi, hsz, if_neg hcond, hst, splice, List.append_assoc]
  unfold storeS at he
  split at he
  · rename_i id n root π
    obtain ⟨m, fz0, c0, h1, h2, h3, e1⟩ := hx
    split at he
    · rename_i σ z hbox
      obtain ⟨cs, et, k1, k2, k3, k4, k5⟩ := box_cells hinv hbox
      split at he
      · rename_i te hte
        split at he
        · rename_i q hq
          split at he
          · rename_i τ z' hget
            split at he
            · rename_i σ' x' hset
              cases hb : te.ty.beq τ && σ'.beq root && σ.beq root with
              | false => rw [hb] at he; exact he.elim
              | true =>
                rw [hb] at he
                obtain ⟨_, rfl⟩ := he
                simp only [Bool.and_eq_true] at hb
                obtain rfl := Ty.eq_of_beq hb.2
                have hrq := RepV.cells (hy.asD hq)
                obtain ⟨hr, hle⟩ := pathSet_rep (G := g.G) (w := w) π ⟨σ, z⟩ ⟨te.ty, q⟩ _ hset h3 _ _ k2 hrq
                have hrun := run (g.ι id n) (pathOff π σ) cs et te.ty te q hte rfl (hy.asD hq) e1 k1 (by simpa using hle)
                exact fin id n _ _ cs _ et (box_spec hbox) k1 (show Rep g.G w σ' x' _ from hr) hrun
            · exact he.elim
          · exact he.elim
        · exact he.elim
      · exact he.elim
    · rename_i k ee z hbox
      obtain ⟨cs, et, k1, ⟨v0, k2, k2'⟩, k3, k4, k5⟩ := box_cells hinv hbox
      split at he
      · cases hb : tyIs C t (.slc ee) with
        | false => rw [hb] at he; exact he.elim
        | true =>
          rw [hb, cond_true] at he
          obtain ⟨te, hte, hty⟩ := tyIs_spec hb
          split at he
          · rename_i c hc
            obtain ⟨_, rfl⟩ := he
            have hcon := hy.content hc
            -- what is stored is a slice
            have hrep : ∃ z : (Ty.slc ee).den, RepV g.G w (.slc ee) z (a.eval y) := by
              unfold contentOf at hc
              split at hc
              · rename_i k' e' z'
                cases hbb : (Ty.slc e').beq (.slc ee) with
                | false => rw [hbb] at hc; cases hc
                | true =>
                  have := Ty.eq_of_beq hbb
                  cases this
                  refine ⟨z', ?_⟩
                  cases k' <;> exact hy.1
              · exact ⟨[], SRel.asD (τ := .slc ee) (x := ([] : List ee.den)) hy rfl⟩
              · rw [Option.map_eq_some_iff] at hc
                obtain ⟨z', hz', _⟩ := hc
                exact ⟨z', hy.asD hz'⟩
            obtain ⟨zz, hzz⟩ := hrep
            have hl1 : cs.size = 1 := by have := congrArg List.length k2; simpa using this
            have hl2 : (a.eval y).cells.toList.length = 1 := by rw [Rep.size _ _ _ (RepV.cells hzz)]; rfl
            have hrun := run (g.ι id n) 0 cs et (.slc ee) te zz hte hty hzz (by rw [e1]; rfl) k1 (by omega)
            rw [splice_all (by rw [hl2]; simp [hl1])] at hrun
            exact fin id n _ _ cs _ et (box_spec hbox) k1 (by simpa using hcon) hrun
          · exact he.elim
      · exact he.elim
    · exact he.elim
  · exact he.elim

/-- A variable is written no more. -/
theorem HeapRel.freeze1 {H : Heap} {g1 : Gs} (h : HeapRel P H g1 w F) {id n : Nat} {fz : Bool} {c : S} (hl : lookO H id = some (.box n fz c)) :
    ∃ g2 : Gs, HeapRel P ((id, .box n true c) :: H) g2 w F ∧ Ext H g1 ((id, .box n true c) :: H) g2 ∧ Stp F g1.G w g2.G w ∧ g2.ι = g1.ι ∧ g2.ov = g1.ov ∧
      ∀ j, g2.G.st (g1.ι id n) j := by
  obtain ⟨cs0, et0, h1, h2, h3⟩ := h.box id n fz c hl
  let g2 : Gs := ⟨fun b => if b = g1.ι id n then .stays else g1.G b, g1.ι, g1.ov, g1.yl⟩
  have ha : Adv g1.G w g2.G w := ⟨fun b o' v hcell hs => ⟨hcell, by
    unfold Gh.st at *
    simp only [g2]
    by_cases hb : b = g1.ι id n
    · rw [if_pos hb]; trivial
    · rw [if_neg hb]; exact hs⟩⟩
  have hroom : g1.G (g1.ι id n) = .mine F.m ∨ g1.G (g1.ι id n) = .stays := by
    cases fz
    · exact .inl (by rw [h3]; rfl)
    · exact .inr (by rw [h3]; rfl)
  have hput := h.put (g' := g2) (w' := w) (fz' := true) (c' := c) hl (fun b _ hb => ⟨rfl, by simp only [g2]; rw [if_neg hb]⟩) rfl rfl rfl
  have hx : Ext H g1 ((id, .box n true c) :: H) g2 := by
    refine ⟨fun id1 m fz1 c1 k1 => ?_, fun T' m k1 => ⟨m, ?_, Nat.le_refl _, fun _ => rfl⟩, rfl⟩
    · by_cases e : id = id1
      · subst e
        rw [hl] at k1
        cases k1
        exact ⟨n, true, c, by rw [lookO_cons, if_pos rfl], Nat.le_refl _, fun _ _ => rfl⟩
      · exact ⟨m, fz1, c1, by rw [lookO_cons, if_neg e]; exact k1, Nat.le_refl _, fun _ _ => rfl⟩
    · rw [lookO_cons, if_neg (fun e => by rw [e, k1] at hl; cases hl)]; exact k1
  have hbr : BoxRel P ((id, .box n true c) :: H) g2 w F id n true c := ⟨cs0, et0, h1, h2.ext hx ha, by simp [g2]⟩
  refine ⟨g2, (hput hbr ha hroom).1, hx, ⟨⟨rfl, rfl, rfl, Nat.le_refl _, fun b hb hp => ⟨rfl, ?_⟩, ha⟩, fun hl b hb => ?_, fun b o' h5 h6 => ⟨h5, ?_⟩⟩, rfl, rfl, fun j => by unfold Gh.st; simp [g2]⟩
  · simp only [g2]
    by_cases e : b = g1.ι id n
    · rw [if_pos e]
      rw [e] at hp ⊢
      rcases hroom with hr | hr <;> rw [hr] at hp ⊢
      exact absurd rfl hp
    · rw [if_neg e]
  · simp only [g2]
    by_cases e : b = g1.ι id n
    · rw [if_pos e]; trivial
    · rw [if_neg e]; exact hl b hb
  · simp only [g2]
    by_cases e : b = g1.ι id n
    · rw [e, h1] at h5; cases h5; cases h6
    · rw [if_neg e]

/-- The rows of a heap after some variables were frozen. -/
def Frz (H H' : Heap) : Prop := ∀ id, lookO H' id = lookO H id ∨ ∃ n fz c, lookO H id = some (.box n fz c) ∧ lookO H' id = some (.box n true c)

include hinv in
theorem freeze_inv : ∀ (l : List S) (us : List S) (hw : List (Nat × HC)) (rd : List Nat) (vs : List Value), freeze s l = some (us, hw, rd) → Each (SRel P s.heap g w) l vs →
    ∃ g' : Gs, HeapRel P (hw ++ s.heap) g' w F ∧ Ext s.heap g (hw ++ s.heap) g' ∧ Stp F g.G w g'.G w ∧ g'.ι = g.ι ∧ g'.ov = g.ov ∧ Frz s.heap (hw ++ s.heap) ∧
      Each (SRel P (hw ++ s.heap) g' w) us vs
  | [], us, hw, rd, vs, h, he => by
    cases h
    exact ⟨g, hinv.heap, Ext.refl _ _, Stp.refl _ _ _, rfl, rfl, fun _ => .inl rfl, he⟩
  | u :: l, us, hw, rd, [], h, he => he.elim
  | u :: l, us, hw, rd, v :: vs, h, he => by
    have frz1 : ∀ (id n : Nat) (fz : Bool) (c : S) (us' : List S) (hw' : List (Nat × HC)) (rd' : List Nat) (u' : S), s.box id n = some (fz, c) → freeze s l = some (us', hw', rd') →
        (∀ g2 : Gs, (∀ j, g2.G.st (g.ι id n) j) → BoxRel P ((id, .box n true c) :: (hw' ++ s.heap)) g2 w F id n true c → g2.ι = g.ι → SRel P ((id, .box n true c) :: (hw' ++ s.heap)) g2 w u' v) →
        ∃ g' : Gs, HeapRel P ((id, .box n true c) :: hw' ++ s.heap) g' w F ∧ Ext s.heap g ((id, .box n true c) :: hw' ++ s.heap) g' ∧ Stp F g.G w g'.G w ∧ g'.ι = g.ι ∧ g'.ov = g.ov ∧
          Frz s.heap ((id, .box n true c) :: hw' ++ s.heap) ∧ Each (SRel P ((id, .box n true c) :: hw' ++ s.heap) g' w) (u' :: us') (v :: vs) := by
      intro id n fz c us' hw' rd' u' hbox hf hu'
      obtain ⟨g1, i1, i2, i3, i4, i5, i7, i8⟩ := freeze_inv l us' hw' rd' vs hf he.2
      have hl := box_spec hbox
      have hl' : ∃ fz', lookO (hw' ++ s.heap) id = some (.box n fz' c) := by
        rcases i7 id with h1 | ⟨n', fz', c', h1, h2⟩
        · exact ⟨fz, by rw [h1]; exact hl⟩
        · rw [hl] at h1
          cases h1
          exact ⟨true, h2⟩
      obtain ⟨fz', hl'⟩ := hl'
      obtain ⟨g2, j1, j2, j3, j4, j5, j7⟩ := i1.freeze1 hl'
      refine ⟨g2, j1, ?_, i3.trans j3, j4.trans i4, j5.trans i5, ?_, ?_, i8.mono fun x y hxy => hxy.ext j2 j3.kp.adv⟩
      · refine ⟨fun id1 m fz1 c1 k1 => ?_, fun T' m k1 => ?_, j2.yl.trans i2.yl⟩
        · obtain ⟨m', fz2, c2, q1, q2, q3⟩ := i2.box id1 m fz1 c1 k1
          obtain ⟨m'', fz3, c3, q4, q5, q6⟩ := j2.box id1 m' fz2 c2 q1
          exact ⟨m'', fz3, c3, q4, Nat.le_trans q2 q5, fun k hk => by rw [q6 k (by omega), q3 k hk]⟩
        · obtain ⟨m', q1, q2, q3⟩ := i2.tok T' m k1
          obtain ⟨m'', q4, q5, q6⟩ := j2.tok T' m' q1
          exact ⟨m'', q4, Nat.le_trans q2 q5, fun e => by rw [q6 (by omega), q3 (by omega)]⟩
      · intro id1
        by_cases e : id = id1
        · subst e
          exact .inr ⟨n, fz, c, hl, by rw [List.cons_append, lookO_cons, if_pos rfl]⟩
        · rw [List.cons_append, lookO_cons, if_neg e]
          exact i7 id1
      · have hb := j1.box id n true c (by rw [lookO_cons, if_pos rfl])
        exact hu' g2 (fun j => by rw [← i4]; exact j7 j) hb (j4.trans i4)
    have hv := he.1
    unfold freeze at h
    split at h
    · cases ‹u :: l = []›
    · rename_i id n root l' heq
      cases heq
      obtain ⟨m0, fz0, c0, p1, p2, p3, p4⟩ := hv
      split at h
      · rename_i fz σ x hbox
        cases hb : σ.beq root with
        | false => rw [hb] at h; cases h
        | true =>
          rw [hb, cond_true, Option.map_eq_some_iff] at h
          obtain ⟨⟨us', hw', rd'⟩, hf, hres⟩ := h
          cases hres
          refine frz1 id n fz (.dat σ x) us' hw' rd' (.cptr σ x) hbox hf (fun g2 hst hbr hι => ?_)
          obtain ⟨cs, et, q1, q2, q3⟩ := hbr
          refine SRel.of0 ⟨g.ι id n, 0, cs.toList, p4, q2, fun j c hj => ⟨?_, hst _⟩⟩
          rw [hι] at q1
          unfold Cell
          rw [cell_of_row w _ _ cs et (0, 0) q1, Nat.zero_add]
          simpa using hj
      · rename_i fz k ee x hbox
        rw [Option.map_eq_some_iff] at h
        obtain ⟨⟨us', hw', rd'⟩, hf, hres⟩ := h
        cases hres
        refine frz1 id n fz (.lst k ee x) us' hw' rd' (.cptr (.slc ee) x) hbox hf (fun g2 hst hbr hι => ?_)
        obtain ⟨cs, et, q1, ⟨v0, q2, q2'⟩, q3⟩ := hbr
        have hrep : RepV g2.G w (.slc ee) x v0 := by cases k <;> exact q2'.1
        have hcells := RepV.cells hrep
        obtain ⟨ao, cap, ev, _⟩ := RepV.slc hrep
        have : v0.cells.toList = [v0] := by rw [ev]; rfl
        rw [this] at hcells
        refine SRel.of0 ⟨g.ι id n, 0, [v0], p4, hcells, fun j c hj => ⟨?_, hst _⟩⟩
        rw [hι] at q1
        unfold Cell
        rw [cell_of_row w _ _ cs et (0, 0) q1, Nat.zero_add]
        rw [← q2] at hj
        simpa using hj
      · cases h
      · cases h
    · rename_i u' l' hne heq
      cases heq
      rw [Option.map_eq_some_iff] at h
      obtain ⟨⟨us', hw', rd'⟩, hf, hres⟩ := h
      cases hres
      obtain ⟨g1, i1, i2, i3, i4, i5, i7, i8⟩ := freeze_inv l us' hw rd vs hf he.2
      exact ⟨g1, i1, i2, i3, i4, i5, i7, hv.ext i2 i3.kp.adv, i8⟩
end
end Go.Vi
