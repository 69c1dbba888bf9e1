/- Stores; what is written no more; literals of slices; closures. -/
import Derived.Test.YtagpigbfbhdoiaaViL
namespace Go.Vi
open Go.RowKit (Below)

theorem Rep.one {G : Gh} {w : World} : ∀ (τ : Ty) (x : τ.den) (cs : List Value), Rep G w τ x cs → ∀ v ∈ cs, v.oneCell' = true
  | .int _, _, _, h, v, hv => by simp only [Rep] at h; subst h; rw [List.mem_singleton] at hv; subst hv; rfl
  | .bool, _, _, h, v, hv => by simp only [Rep] at h; subst h; rw [List.mem_singleton] at hv; subst hv; rfl
  | .str, _, _, h, v, hv => by simp only [Rep] at h; subst h; rw [List.mem_singleton] at hv; subst hv; rfl
  | .unit, _, _, h, v, hv => by simp only [Rep] at h; subst h; cases hv
  | .one a, x, cs, h, v, hv => by
    simp only [Rep] at h
    exact Rep.one a x cs h v hv
  | .pair a b, x, cs, h, v, hv => by
    simp only [Rep] at h
    obtain ⟨c1, c2, rfl, h1, h2⟩ := h
    rcases List.mem_append.1 hv with hv | hv
    · exact Rep.one a _ _ h1 v hv
    · exact Rep.one b _ _ h2 v hv
  | .arr n e, xs, cs, h, v, hv => by
    simp only [Rep] at h
    obtain ⟨hn, css, rfl, he⟩ := h
    rw [List.mem_flatten] at hv
    obtain ⟨c, hc, hv⟩ := hv
    exact he.right (Q := fun c => ∀ v ∈ c, v.oneCell' = true) (fun x y hxy => Rep.one e x y hxy) c hc v hv
  | .slc e, xs, cs, h, v, hv => by
    simp only [Rep] at h
    obtain ⟨ao, cap, rfl, _, _⟩ := h
    rw [List.mem_singleton] at hv; subst hv; rfl

theorem conC_row {c : S} (h : conC c = true) : rowOf c = none := by
  cases c with
  | row e xs => cases h
  | _ => rfl
theorem ConRel.noRow {P : Program} {H : Heap} {g : Gs} {w : World} {c : S} {cs : List Value} (h : ConRel P H g w c cs) : rowOf c = none := by
  cases c with
  | row e xs => exact h.elim
  | _ => rfl
theorem Real.row {g g' : Gs} {id : Nat} {c c' : S} (hov : g'.ov id = g.ov id) (hr : rowOf c' = rowOf c) (h : Real g' id c') : Real g id c := by
  unfold Real at *; rw [hov, hr] at h; exact h

/-- A variable's content is laid anew. -/
theorem HeapRel.put {P : Program} {H : Heap} {g g' : Gs} {w w' : World} {F : Fr} (h : HeapRel P H g w F) {id n : Nat} {fz fz' : Bool} {c c' : S} (hl : lookO H id = some (.box n fz c)) (tb : Option Nat) (htb : tb = none ∨ (Real g id c ∧ tb = some (g.ι id n)))
    (hw : ∀ b, b < w.heap.size → tb ≠ some b → w'.heap[b]? = w.heap[b]? ∧ g'.G b = g.G b) (hov : g'.ov = g.ov) (hι : g'.ι = g.ι) (hyl : g'.yl = g.yl) (hrow : rowOf c' = rowOf c)
    (ha : Adv g.G w g'.G w') (hbox : Ext H g ((id, .box n fz' c') :: H) g' → BoxRel P ((id, .box n fz' c') :: H) g' w' F id n fz' c') : HeapRel P ((id, .box n fz' c') :: H) g' w' F ∧ Ext H g ((id, .box n fz' c') :: H) g' := by
  have hx : Ext H g ((id, .box n fz' c') :: H) g' := by
    refine ⟨fun id1 m fz1 c1 h1 => ?_, fun T m h1 => ⟨m, ?_, Nat.le_refl _, fun _ => by rw [hov]⟩, hyl⟩
    · by_cases e : id = id1
      · subst e
        rw [hl] at h1
        cases h1
        exact ⟨n, fz', c', by rw [lookO_cons, if_pos rfl], Nat.le_refl _, fun _ _ => by rw [hι], fun _ => ⟨by rw [hov], hrow⟩⟩
      · exact ⟨m, fz1, c1, by rw [lookO_cons, if_neg e]; exact h1, Nat.le_refl _, fun _ _ => by rw [hι], fun _ => ⟨by rw [hov], rfl⟩⟩
    · rw [lookO_cons, if_neg (fun e => by rw [e, h1] at hl; cases hl)]; exact h1
  refine ⟨h.addBox tb hw (fun _ _ => by rw [hov]) (fun _ _ _ => by rw [hι]) (hbox hx) ?_ ?_ hx ha, hx⟩
  · intro id' n' fz1 c1 h1 hne hr
    refine ⟨fun e => ?_, fun hr' => ?_⟩
    · rcases htb with htb | ⟨hr', htb⟩
      · rw [htb] at e; cases e
      · rw [htb] at e
        exact h.apart _ _ _ _ _ _ _ _ h1 hl hne hr hr' (Option.some.inj e).symm
    · rw [hι]
      exact h.apart _ _ _ _ _ _ _ _ h1 hl hne hr (hr'.row (by rw [hov]) hrow)
  · intro T m h1 b hb e
    rcases htb with htb | ⟨hr', htb⟩
    · rw [htb] at e; cases e
    · rw [htb] at e
      have e := Option.some.inj e
      obtain ⟨cs, et, _, hroom⟩ := (h.box id n fz c hl).block hr'
      obtain ⟨ao, k, cp, q1, q2, q3⟩ := h.tok T m h1
      rw [roomOf, q1] at hb
      cases ao with
      | none => cases hb
      | some ad =>
        simp only at hb
        split at hb
        · have hb := Option.some.inj hb
          rcases q3 with q3 | ⟨b', o', cur, et', q4, q5, _⟩
          · omega
          · cases q4
            simp only at hb
            rw [← hb] at e
            rw [e, q5] at hroom
            cases fz <;> cases hroom
        · cases hb

/-- A block of the frame's own is written no more. -/
theorem Stp.stay {F : Fr} {G : Gh} {w : World} {b : Nat} {o : Obj} (hb : w.heap[b]? = some o) (ho : isRow o = true) (hG : G b = .mine F.m ∨ G b = .stays) : Stp F G w (fun k => if k = b then .stays else G k) w := by
  refine ⟨⟨rfl, rfl, rfl, Nat.le_refl _, fun k _ hp => ⟨rfl, ?_⟩, ⟨fun k o' v hcell hs => ⟨hcell, ?_⟩⟩⟩, fun hl k hk => ?_, fun k o' h5 h6 => ⟨h5, ?_⟩⟩
  · by_cases e : k = b
    · simp only [if_pos e]
      rw [e] at hp ⊢
      rcases hG with hr | hr <;> rw [hr] at hp ⊢
      exact absurd rfl hp
    · simp only [if_neg e]
  · unfold Gh.st at *
    by_cases e : k = b
    · simp only [if_pos e]
    · simp only [if_neg e]; exact hs
  · by_cases e : k = b
    · simp only [if_pos e]; trivial
    · simp only [if_neg e]; exact hl k hk
  · by_cases e : k = b
    · rw [e, hb] at h5; cases h5; rw [ho] at h6; cases h6
    · simp only [if_neg e]

section
variable {P : Program} {C : Ctx} (T : Types P C.tab) {N : Nat} {F : Fr} {g : Gs} {s : St} {a : Act} {w : World} (hinv : Inv P N F g s a w) {o : Oper} (hd : dstLt N F o.dst)

include hinv in
/-- A store into a variable of the run's own. -/
theorem Inv.store {id n : Nat} {c c' : S} (hl : lookO s.heap id = some (.box n false c)) (hc0 : conC c = true) {cur : Array Value} {et : TypeId} (hblk : w.heap[g.ι id n]? = some (.cells cur et (0, 0)))
    {cs' : Array Value} (hc : ConRel P s.heap g w c' cs'.toList) : Adv g.G w g.G (w.setRow (g.ι id n) cs') ∧ HeapRel P ((id, .box n false c') :: s.heap) g (w.setRow (g.ι id n) cs') F ∧ Ext s.heap g ((id, .box n false c') :: s.heap) g ∧
      Stp F g.G w g.G (w.setRow (g.ι id n) cs') := by
  obtain ⟨cs0, et0, h1, h2, h3⟩ := (hinv.heap.box id n false c hl).con hc0
  rw [if_neg (by simp)] at h3
  have ha : Adv g.G w g.G (w.setRow (g.ι id n) cs') := ⟨fun b o' v hcell hs => by
    by_cases hb : b = g.ι id n
    · subst hb
      unfold Gh.st at hs
      rw [h3] at hs
      exact hs.elim
    · exact ⟨by rw [Cell.of_block (setRow_other w _ b cs' hb)]; exact hcell, hs⟩⟩
  obtain ⟨hput, hx⟩ := hinv.heap.put (g' := g) (w' := w.setRow (g.ι id n) cs') (fz' := false) (c' := c') hl (some (g.ι id n)) (.inr ⟨.inl (conC_row hc0), rfl⟩) (fun b _ hb => ⟨setRow_other w _ b cs' (fun e => hb (by rw [e])), rfl⟩) rfl rfl rfl (hc.noRow.trans (conC_row hc0).symm) ha
    (fun hx => BoxRel.of_con ⟨cs', et, setRow_heap w _ cur cs' et (0, 0) hblk, hc.ext hx ha, by rw [if_neg (by simp)]; exact h3⟩)
  refine ⟨ha, hput, hx, ?_⟩
  refine ⟨⟨rfl, rfl, rfl, by simp, fun k hk hp => ⟨setRow_other w _ k cs' (fun e => ?_), rfl⟩, ha⟩, fun hl b hb => hl b (by simpa using hb), fun b o' h5 h6 => ?_⟩
  · rw [e, h3] at hp; exact hp rfl
  · by_cases e : b = g.ι id n
    · rw [e, h1] at h5; cases h5; cases h6
    · exact ⟨by rw [setRow_other w _ b cs' e]; exact h5, rfl⟩

omit T hinv hd in
/-- What a variable holds behind a store at a path. -/
theorem fatOf_con {id : Nat} {π : List Step} {v : S} {d : D} {cs : List Value} (hr : Rep g.G w d.1 d.2 cs) (hin : pathIn π d.1) {u : Value} (hu : cs[pathOff π d.1]? = some u) (hv : SRel P s.heap g w v u) : ConRel P s.heap g w (fatOf C id π v d) cs := by
  obtain ⟨σ, x⟩ := d
  unfold fatOf
  cases mem id C.fats with
  | false => exact hr
  | true =>
    rw [cond_true]
    split
    · rename_i e ys hget
      have hrep : RepV g.G w (.slc e) ys u := by
        obtain ⟨h1, h2⟩ := pathGet_rep (G := g.G) (w := w) π ⟨σ, x⟩ _ hget hin cs hr
        have hone : (cs.drop (pathOff π σ)).take (Ty.slc e).size = [u] := by
          show (cs.drop (pathOff π σ)).take 1 = [u]
          have hu : cs[pathOff π σ]? = some u := hu
          obtain ⟨hlt, hget⟩ := List.getElem?_eq_some_iff.1 hu
          rw [List.drop_eq_getElem_cons hlt, List.take_succ_cons, List.take_zero, hget]
        have h1 : Rep g.G w (.slc e) ys ((cs.drop (pathOff π σ)).take (Ty.slc e).size) := h1
        rw [hone] at h1
        exact RepV.of_leaf h1 rfl
      split
      · exact ⟨hr, hin, hget, u, hu, hrep, hv.2⟩
      · exact ⟨hr, hin, hget, u, hu, hrep, none, 0, hv⟩
      · rename_i T n e' ys'
        cases hb : e'.beq e with
        | false => exact hr
        | true =>
          obtain rfl := Ty.eq_of_beq hb
          obtain ⟨_, m, h1, h2, h3⟩ := hv
          exact ⟨hr, hin, hget, u, hu, hrep, m, h1, h2, h3⟩
      · exact hr
    · exact hr

include hinv hd T in
theorem shown_store {t : TypeId} {x y : Operand} (hop : o.op = .store t x y) {sy : S} (hy : SRel P s.heap g w sy (a.eval y)) {e : Eff} (he : (storeS C s t sy (s.ev x)).is e) : Shown P N F s a w o e := by
  have hx := hinv.ev x
  generalize hsx : s.ev x = sx at *
  have fin : ∀ (id n : Nat) (c c' : S) (cur cs' : Array Value) (et : TypeId), lookO s.heap id = some (.box n false c) → conC c = true → w.heap[g.ι id n]? = some (.cells cur et (0, 0)) → ConRel P s.heap g w c' cs'.toList →
      (execOp a.eval o).run P w = .ok .skip (w.setRow (g.ι id n) cs') → Shown P N F s a w o { val := .poison, hw := [(id, .box n false c')], rd := [id] } := by
    intro id n c c' cur cs' et h1 h0 h2 h3 hrun
    obtain ⟨q1, q2, q3, q4⟩ := hinv.store h1 h0 h2 h3
    unfold Shown OpOk
    rw [hrun]
    exact ⟨g, hinv.app (e := { val := .poison, hw := [(id, .box n false c')], rd := [id] }) hd q3 (SRel.of0 (s := .poison) trivial) q2 q4⟩
  have run : ∀ (b off : Nat) (cur : Array Value) (et : TypeId) (τ : Ty) (te : TE) (z : τ.den), C.te t = some te → te.ty = τ → RepV g.G w τ z (a.eval y) → a.eval x = .pointer (some ⟨b, off, none⟩) →
      w.heap[b]? = some (.cells cur et (0, 0)) → off + (a.eval y).cells.toList.length ≤ cur.size →
      (execOp a.eval o).run P w = .ok .skip (w.setRow b (splice cur.toList off (a.eval y).cells.toList).toArray) := by
    intro b off cur et τ te z hte hty hz e1 hblk hle
    subst hty
    obtain ⟨i, hi, hsz, _⟩ := T.info hte
    have hc := RepV.cells hz
    have hlen := Rep.size _ _ _ hc
    have hst := run_storeCells_at P b off et (a.eval y).cells.toList 0 cur w hblk (by simpa using hle) (Rep.one _ _ _ hc)
    simp only [Nat.add_zero] at hst
    have hex : execOp a.eval o = (do Instr.storeAt t (a.eval x) (a.eval y); pure .skip) := by unfold execOp; rw [hop]
    have hsize : (a.eval y).cells.size = te.ty.size := by simpa using hlen
    have hcond : ¬ ((a.eval y).cells.size ≠ te.ty.size) := by simp [hsize]
    rw [hex, e1]
    simp only [Instr.storeAt, Instr.sureAddr, storeVar, Sem.run_bind, Sem.run_pure, Result.andThen_ok, sizeOf, typeInfo, run_program, hi, hsz, if_neg hcond, hst, splice, List.append_assoc]
  unfold storeS at he
  split at he
  · rename_i id n root π
    obtain ⟨m, fz0, c0, h1, h2, h3, e1⟩ := hx
    split at he
    · rename_i σ z hbox
      obtain ⟨kc, hbox', hunf⟩ := boxD_some hbox
      obtain ⟨cs, et, k1, k2, k3, k4, k5⟩ := box_cells hinv hbox' (unfat_conC hunf)
      have k2 := k2.unfat hunf
      split at he
      · rename_i te hte
        split at he
        · rename_i q hq
          split at he
          · rename_i τ z' hget
            split at he
            · rename_i σ' x' hset
              cases hb : te.ty.beq τ && σ'.beq root && σ.beq root with
              | false => rw [hb] at he; exact he.elim
              | true =>
                rw [hb] at he
                obtain ⟨_, rfl⟩ := he
                simp only [Bool.and_eq_true] at hb
                obtain rfl := Ty.eq_of_beq hb.2
                have hrq := RepV.cells (hy.asD hq)
                obtain ⟨hr, hle⟩ := pathSet_rep (G := g.G) (w := w) π ⟨σ, z⟩ ⟨te.ty, q⟩ _ hset h3 _ _ k2 hrq
                have hrun := run (g.ι id n) (pathOff π σ) cs et te.ty te q hte rfl (hy.asD hq) e1 k1 (by simpa using hle)
                obtain rfl : σ' = σ := pathSet_ty π ⟨σ, z⟩ ⟨te.ty, q⟩ ⟨σ', x'⟩ hset
                have hlen : cs.toList.length = σ'.size := Rep.size _ _ _ k2
                refine fin id n _ _ cs _ et (box_spec hbox') (unfat_conC hunf) k1 ?_ hrun
                have hle : pathOff π σ' + (a.eval y).cells.toList.length ≤ cs.toList.length := hle
                show ConRel P s.heap g w _ (splice cs.toList (pathOff π σ') (a.eval y).cells.toList)
                have hr : Rep g.G w σ' x' (splice cs.toList (pathOff π σ') (a.eval y).cells.toList) := hr
                by_cases hone : (a.eval y).cells.toList = [a.eval y]
                · refine fatOf_con (d := ⟨σ', x'⟩) (u := a.eval y) hr h3 ?_ hy
                  rw [hone, List.length_cons, List.length_nil] at hle
                  rw [hone]
                  have hmin : (cs.toList.take (pathOff π σ')).length = pathOff π σ' := by rw [List.length_take]; omega
                  show (cs.toList.take (pathOff π σ') ++ ([a.eval y] ++ _))[pathOff π σ']? = _
                  rw [List.getElem?_append_right (by omega), hmin, Nat.sub_self]
                  rfl
                · have hnf : fatOf C id π sy ⟨σ', x'⟩ = .dat σ' x' := by
                    unfold fatOf
                    cases mem id C.fats with
                    | false => rfl
                    | true =>
                      rw [cond_true]
                      have hs : ∀ (ee : Ty) (zz : (Ty.slc ee).den), RepV g.G w (.slc ee) zz (a.eval y) → False := fun ee zz hzz => by
                        obtain ⟨ao, cap, ev, _⟩ := RepV.slc hzz
                        rw [ev] at hone
                        exact hone rfl
                      split
                      · split
                        · exact (hs _ _ hy.1).elim
                        · have : a.eval y = .slice none 0 0 := hy
                          rw [this] at hone
                          exact (hone rfl).elim
                        · exact (hs _ _ hy.1).elim
                        · rfl
                      · rfl
                  rw [hnf]
                  exact hr
            · exact he.elim
          · exact he.elim
        · exact he.elim
      · exact he.elim
    · rename_i k ee z hbox
      obtain ⟨kc, hbox, hunf⟩ := boxD_some hbox
      obtain rfl : kc = .lst k ee z := by cases kc <;> first | (cases hunf; rfl) | cases hunf
      obtain ⟨cs, et, k1, ⟨v0, k2, k2'⟩, k3, k4, k5⟩ := box_cells hinv hbox
      split at he
      · cases hb : tyIs C t (.slc ee) with
        | false => rw [hb] at he; exact he.elim
        | true =>
          rw [hb, cond_true] at he
          obtain ⟨te, hte, hty⟩ := tyIs_spec hb
          split at he
          · rename_i c hc
            obtain ⟨_, rfl⟩ := he
            have hcon := hy.content hc
            -- what is stored is a slice
            have hrep : ∃ z : (Ty.slc ee).den, RepV g.G w (.slc ee) z (a.eval y) := by
              unfold contentOf at hc
              split at hc
              · rename_i k' e' z'
                cases hbb : (Ty.slc e').beq (.slc ee) with
                | false => rw [hbb] at hc; cases hc
                | true =>
                  have := Ty.eq_of_beq hbb
                  cases this
                  refine ⟨z', ?_⟩
                  cases k' <;> exact hy.1
              · exact ⟨[], SRel.asD (τ := .slc ee) (x := ([] : List ee.den)) hy rfl⟩
              · rw [Option.map_eq_some_iff] at hc
                obtain ⟨z', hz', _⟩ := hc
                exact ⟨z', hy.asD hz'⟩
            obtain ⟨zz, hzz⟩ := hrep
            have hl1 : cs.size = 1 := by have := congrArg List.length k2; simpa using this
            have hl2 : (a.eval y).cells.toList.length = 1 := by rw [Rep.size _ _ _ (RepV.cells hzz)]; rfl
            have hrun := run (g.ι id n) 0 cs et (.slc ee) te zz hte hty hzz (by rw [e1]; rfl) k1 (by omega)
            rw [splice_all (by rw [hl2]; simp [hl1])] at hrun
            exact fin id n _ _ cs _ et (box_spec hbox) rfl k1 (by simpa using hcon) hrun
          · exact he.elim
      · exact he.elim
    · exact he.elim
  · rename_i id n ee i π
    obtain ⟨m, fz0, c0, h1, h2, h3, e1, h4⟩ := hx
    split at he
    · rename_i e' xs hbox
      split at he
      · rename_i te hte
        split at he
        · rename_i q hq
          split at he
          · rename_i τ z' hget
            split at he
            · rename_i σ' x' hset
              split at he
              · rename_i x'' hcast
                cases hb : te.ty.beq τ && e'.beq ee with
                | false => rw [hb] at he; exact he.elim
                | true =>
                  rw [hb] at he
                  obtain ⟨_, rfl⟩ := he
                  simp only [Bool.and_eq_true] at hb
                  obtain rfl := Ty.eq_of_beq hb.2
                  cases castD_some hcast
                  rw [box_spec hbox] at h1
                  cases h1
                  obtain ⟨k, hk, hik⟩ := h4 rfl
                  cases hk
                  obtain ⟨ao, Cc, hv, hle, hrow⟩ := row_rel hinv hbox
                  rcases hrow with hrow | ⟨hao, hB, cs, et, css, rest, q1, q2, q3, q4, q5⟩
                  · omega
                  rw [if_neg (by simp)] at q5
                  obtain ⟨r1, r2⟩ := q3.item i hik
                  have hrq := RepV.cells (hy.asD hq)
                  obtain ⟨hr, hle2⟩ := pathSet_rep (G := g.G) (w := w) π ⟨e', _⟩ ⟨te.ty, q⟩ _ hset h3 _ _ r1 hrq
                  have hlen := hrq.size
                  have hcl : css.flatten.length = xs.length * e'.size := by rw [flatten_length_const e'.size css q3.sizes, ← q3.length]
                  have hsz : ((css.flatten.drop (i * e'.size)).take e'.size).length = e'.size := Rep.size _ _ _ r1
                  have hcsl : cs.toList.length = css.flatten.length + rest.length := by rw [q2, List.length_append]
                  have hin : i * e'.size + e'.size ≤ css.flatten.length := by
                    rw [hcl, ← Nat.succ_mul]; exact Nat.mul_le_mul_right _ hik
                  have hle3 : pathOff π e' + (a.eval y).cells.toList.length ≤ e'.size := by rw [← hsz]; exact hle2
                  have hrun := run (g.ι id n) (i * e'.size + pathOff π e') cs et te.ty te q hte rfl (hy.asD hq) e1 q1 (by
                    have : cs.toList.length = cs.size := by simp
                    omega)
                  obtain ⟨new, hnew⟩ : ∃ new, new = splice ((css.flatten.drop (i * e'.size)).take e'.size) (pathOff π e') (a.eval y).cells.toList := ⟨_, rfl⟩
                  have hnewl : new.length = e'.size := by rw [hnew, splice_length (by rw [hsz]; exact hle3), hsz]
                  have hflat : splice cs.toList (i * e'.size + pathOff π e') (a.eval y).cells.toList = (css.set i new).flatten ++ rest := by
                    rw [flatten_set hnewl q3.sizes i (by rw [← q3.length]; exact hik), hnew, splice_splice _ _ _ _ _ hle3 (by omega), q2]
                    simp only [splice]
                    rw [List.take_append_of_le_length (by omega), List.drop_append_of_le_length (by omega)]
                    simp [List.append_assoc]
                  have hnsz : (splice cs.toList (i * e'.size + pathOff π e') (a.eval y).cells.toList).toArray.size = Cc * e'.size := by
                    rw [List.size_toArray, splice_length (by omega)]; simpa using q4
                  generalize hcs' : (splice cs.toList (i * e'.size + pathOff π e') (a.eval y).cells.toList).toArray = cs' at hrun hnsz
                  have hcs'l : cs'.toList = (css.set i new).flatten ++ rest := by rw [← hcs', ← hflat]
                  have ha : Adv g.G w g.G (w.setRow (g.ι id n) cs') := ⟨fun b o' v hcell hs => by
                    by_cases hb : b = g.ι id n
                    · subst hb
                      unfold Gh.st at hs
                      rw [q5] at hs
                      exact hs.elim
                    · exact ⟨by rw [Cell.of_block (setRow_other w _ b cs' hb)]; exact hcell, hs⟩⟩
                  have hreal : Real g id (.row e' xs) := .inr ⟨ao, _, Cc, hv, by omega⟩
                  obtain ⟨hput, hxx⟩ := hinv.heap.put (g' := g) (w' := w.setRow (g.ι id n) cs') (fz' := false) (c' := .row e' (xs.set i x'')) (box_spec hbox) (some (g.ι id n)) (.inr ⟨hreal, rfl⟩) (fun b _ hb => ⟨setRow_other w _ b cs' (fun e => hb (by rw [e])), rfl⟩) rfl rfl rfl
                    (by simp [rowOf]) ha (fun hx => by
                      show OwnRel g.G _ F.m F.B false (g.ι id n) e' (xs.set i x'') (g.ov id).1
                      refine ⟨ao, Cc, by simpa using hv, by simpa using hle, .inr ⟨hao, hB, cs', et, css.set i new, rest, setRow_heap w _ cs cs' et (0, 0) q1, hcs'l, ?_, hnsz, by rw [if_neg (by simp)]; exact q5⟩⟩
                      refine (q3.mono fun x y hxy => Rep.adv ha e' x y hxy).set ?_ i
                      rw [hnew]
                      exact Rep.adv ha _ _ _ hr)
                  unfold Shown OpOk
                  rw [hrun]
                  refine ⟨g, hinv.app (e := { val := .poison, hw := [(id, .box n false (.row e' (xs.set i x'')))], rd := [id] }) hd hxx (SRel.of0 (s := .poison) trivial) hput ?_⟩
                  refine ⟨⟨rfl, rfl, rfl, by simp, fun k hk hp => ⟨setRow_other w _ k cs' (fun e => ?_), rfl⟩, ha⟩, fun hl b hb => hl b (by simpa using hb), fun b o' h5 h6 => ?_⟩
                  · rw [e, q5] at hp; exact hp rfl
                  · by_cases e : b = g.ι id n
                    · rw [e, q1] at h5; cases h5; cases h6
                    · exact ⟨by rw [setRow_other w _ b cs' e]; exact h5, rfl⟩
              · exact he.elim
            · exact he.elim
          · exact he.elim
        · exact he.elim
      · exact he.elim
    · exact he.elim
  · exact he.elim

/-- A variable is written no more. -/
theorem HeapRel.freeze1 {H : Heap} {g1 : Gs} (h : HeapRel P H g1 w F) {id n : Nat} {fz : Bool} {c : S} (hl : lookO H id = some (.box n fz c)) (hc : conC c = true) :
    ∃ g2 : Gs, HeapRel P ((id, .box n true c) :: H) g2 w F ∧ Ext H g1 ((id, .box n true c) :: H) g2 ∧ Stp F g1.G w g2.G w ∧ g2.ι = g1.ι ∧ g2.ov = g1.ov ∧
      ∀ j, g2.G.st (g1.ι id n) j := by
  obtain ⟨cs0, et0, h1, h2, h3⟩ := (h.box id n fz c hl).con hc
  have hroom : g1.G (g1.ι id n) = .mine F.m ∨ g1.G (g1.ι id n) = .stays := by
    cases fz
    · exact .inl (by rw [h3]; rfl)
    · exact .inr (by rw [h3]; rfl)
  have hs := Stp.stay (F := F) (G := g1.G) h1 rfl hroom
  obtain ⟨hput, hx⟩ := h.put (g' := ⟨fun b => if b = g1.ι id n then .stays else g1.G b, g1.ι, g1.ov, g1.yl⟩) (w' := w) (fz' := true) (c' := c) hl (some (g1.ι id n)) (.inr ⟨.inl (conC_row hc), rfl⟩) (fun b _ hb => ⟨rfl, if_neg (fun e => hb (by rw [e]))⟩) rfl rfl rfl rfl hs.kp.adv
    (fun hx => BoxRel.of_con ⟨cs0, et0, h1, h2.ext hx hs.kp.adv, by simp⟩)
  exact ⟨_, hput, hx, hs, rfl, rfl, fun j => by unfold Gh.st; simp⟩

/-- A slice of the run's own is written no more. -/
theorem HeapRel.freezeRow {H : Heap} {g1 : Gs} (h : HeapRel P H g1 w F) {id n : Nat} {fz : Bool} {e : Ty} {xs : List e.den} (hl : lookO H id = some (.box n fz (.row e xs))) :
    ∃ g2 : Gs, HeapRel P ((id, .box n true (.row e xs)) :: H) g2 w F ∧ Ext H g1 ((id, .box n true (.row e xs)) :: H) g2 ∧ Stp F g1.G w g2.G w ∧ g2.ι = g1.ι ∧ g2.ov = g1.ov ∧ RepV g2.G w (.slc e) xs (g1.ov id).1 := by
  obtain ⟨ao, C, h1, h2, h3⟩ : OwnRel g1.G w F.m F.B fz (g1.ι id n) e xs (g1.ov id).1 := h.box id n fz _ hl
  by_cases hC : C = 0
  · obtain ⟨hput, hx⟩ := h.put (g' := g1) (w' := w) (fz' := true) (c' := .row e xs) hl none (.inl rfl) (fun b _ _ => ⟨rfl, rfl⟩) rfl rfl rfl rfl (Adv.refl _ _) (fun _ => ⟨ao, C, h1, h2, .inl hC⟩)
    refine ⟨g1, hput, hx, Stp.refl _ _ _, rfl, rfl, ?_⟩
    have : xs = [] := List.eq_nil_of_length_eq_zero (by omega)
    subst this
    rw [h1]
    refine RepV.mk_slc h2 ?_
    cases ao with
    | none => exact hC
    | some a => exact ⟨.inr hC, [], trivial, fun j v hj => by simp at hj⟩
  · rcases h3 with h3 | ⟨rfl, hB, cs, et, css, rest, q1, q2, q3, q4, q5⟩
    · exact absurd h3 hC
    have hroom : g1.G (g1.ι id n) = .mine F.m ∨ g1.G (g1.ι id n) = .stays := by
      cases fz
      · exact .inl (by rw [q5]; rfl)
      · exact .inr (by rw [q5]; rfl)
    have hs := Stp.stay (F := F) (G := g1.G) q1 rfl hroom
    have hr : Real g1 id (.row e xs) := .inr ⟨_, _, C, h1, hC⟩
    have he := q3.mono fun x y hxy => Rep.adv hs.kp.adv e x y hxy
    obtain ⟨hput, hx⟩ := h.put (g' := ⟨fun b => if b = g1.ι id n then .stays else g1.G b, g1.ι, g1.ov, g1.yl⟩) (w' := w) (fz' := true) (c' := .row e xs) hl (some (g1.ι id n)) (.inr ⟨hr, rfl⟩) (fun b _ hb => ⟨rfl, if_neg (fun e => hb (by rw [e]))⟩) rfl rfl rfl rfl hs.kp.adv
      (fun _ => ⟨_, C, h1, h2, .inr ⟨rfl, hB, cs, et, css, rest, q1, q2, he, q4, by simp⟩⟩)
    refine ⟨_, hput, hx, hs, rfl, rfl, ?_⟩
    rw [h1]
    refine RepV.mk_slc h2 ⟨.inl rfl, css, he, fun j v hj => ⟨?_, by unfold Gh.st; simp⟩⟩
    unfold Cell
    rw [cell_of_row w _ _ cs et (0, 0) q1, Nat.zero_add, ← Array.getElem?_toList, q2, List.getElem?_append_left (List.getElem?_eq_some_iff.1 hj).1]
    exact hj

theorem Ext.trans {H H' H'' : Heap} {g g' g'' : Gs} (i2 : Ext H g H' g') (j2 : Ext H' g' H'' g'') : Ext H g H'' g'' := by
  refine ⟨fun id1 m fz1 c1 k1 => ?_, fun T' m k1 => ?_, j2.yl.trans i2.yl⟩
  · obtain ⟨m', fz2, c2, q1, q2, q3, q7⟩ := i2.box id1 m fz1 c1 k1
    obtain ⟨m'', fz3, c3, q4, q5, q6, q8⟩ := j2.box id1 m' fz2 c2 q1
    refine ⟨m'', fz3, c3, q4, Nat.le_trans q2 q5, fun k hk => by rw [q6 k (by omega), q3 k hk], fun e => ?_⟩
    obtain ⟨r1, r2⟩ := q7 (by omega)
    obtain ⟨r3, r4⟩ := q8 (by omega)
    exact ⟨r3.trans r1, r4.trans r2⟩
  · obtain ⟨m', q1, q2, q3⟩ := i2.tok T' m k1
    obtain ⟨m'', q4, q5, q6⟩ := j2.tok T' m' q1
    exact ⟨m'', q4, Nat.le_trans q2 q5, fun e => by rw [q6 (by omega), q3 (by omega)]⟩

/-- The rows of a heap after some variables were frozen. -/
def Frz (H H' : Heap) : Prop := ∀ id, lookO H' id = lookO H id ∨ ∃ n fz c, lookO H id = some (.box n fz c) ∧ lookO H' id = some (.box n true c)

include hinv in
theorem freeze_inv : ∀ (l : List S) (us : List S) (hw : List (Nat × HC)) (rd : List Nat) (vs : List Value), freeze s l = some (us, hw, rd) → Each (SRel P s.heap g w) l vs →
    ∃ g' : Gs, HeapRel P (hw ++ s.heap) g' w F ∧ Ext s.heap g (hw ++ s.heap) g' ∧ Stp F g.G w g'.G w ∧ g'.ι = g.ι ∧ g'.ov = g.ov ∧ Frz s.heap (hw ++ s.heap) ∧
      Each (SRel P (hw ++ s.heap) g' w) us vs
  | [], us, hw, rd, vs, h, he => by
    cases h
    exact ⟨g, hinv.heap, Ext.refl _ _, Stp.refl _ _ _, rfl, rfl, fun _ => .inl rfl, he⟩
  | u :: l, us, hw, rd, [], h, he => he.elim
  | u :: l, us, hw, rd, v :: vs, h, he => by
    have frz1 : ∀ (id n : Nat) (fz : Bool) (c : S) (us' : List S) (hw' : List (Nat × HC)) (rd' : List Nat) (u' : S), s.box id n = some (fz, c) → freeze s l = some (us', hw', rd') →
        conC c = true → (∀ g2 : Gs, (∀ j, g2.G.st (g.ι id n) j) → BoxRel P ((id, .box n true c) :: (hw' ++ s.heap)) g2 w F id n true c → g2.ι = g.ι → SRel P ((id, .box n true c) :: (hw' ++ s.heap)) g2 w u' v) →
        ∃ g' : Gs, HeapRel P ((id, .box n true c) :: hw' ++ s.heap) g' w F ∧ Ext s.heap g ((id, .box n true c) :: hw' ++ s.heap) g' ∧ Stp F g.G w g'.G w ∧ g'.ι = g.ι ∧ g'.ov = g.ov ∧
          Frz s.heap ((id, .box n true c) :: hw' ++ s.heap) ∧ Each (SRel P ((id, .box n true c) :: hw' ++ s.heap) g' w) (u' :: us') (v :: vs) := by
      intro id n fz c us' hw' rd' u' hbox hf hc hu'
      obtain ⟨g1, i1, i2, i3, i4, i5, i7, i8⟩ := freeze_inv l us' hw' rd' vs hf he.2
      have hl := box_spec hbox
      have hl' : ∃ fz', lookO (hw' ++ s.heap) id = some (.box n fz' c) := by
        rcases i7 id with h1 | ⟨n', fz', c', h1, h2⟩
        · exact ⟨fz, by rw [h1]; exact hl⟩
        · rw [hl] at h1
          cases h1
          exact ⟨true, h2⟩
      obtain ⟨fz', hl'⟩ := hl'
      obtain ⟨g2, j1, j2, j3, j4, j5, j7⟩ := i1.freeze1 hl' hc
      refine ⟨g2, j1, ?_, i3.trans j3, j4.trans i4, j5.trans i5, ?_, ?_, i8.mono fun x y hxy => hxy.ext j2 j3.kp.adv⟩
      · exact i2.trans j2
      · intro id1
        by_cases e : id = id1
        · subst e
          exact .inr ⟨n, fz, c, hl, by rw [List.cons_append, lookO_cons, if_pos rfl]⟩
        · rw [List.cons_append, lookO_cons, if_neg e]
          exact i7 id1
      · have hb := j1.box id n true c (by rw [lookO_cons, if_pos rfl])
        exact hu' g2 (fun j => by rw [← i4]; exact j7 j) hb (j4.trans i4)
    have hv := he.1
    unfold freeze at h
    split at h
    · cases ‹u :: l = []›
    · rename_i id n root l' heq
      cases heq
      obtain ⟨m0, fz0, c0, p1, p2, p3, p4⟩ := hv
      split at h
      · rename_i fz σ x hbox
        cases hb : σ.beq root with
        | false => rw [hb] at h; cases h
        | true =>
          rw [hb, cond_true, Option.map_eq_some_iff] at h
          obtain ⟨⟨us', hw', rd'⟩, hf, hres⟩ := h
          cases hres
          refine frz1 id n fz (.dat σ x) us' hw' rd' (.cptr σ x) hbox hf rfl (fun g2 hst hbr hι => ?_)
          obtain ⟨cs, et, q1, q2, q3⟩ := hbr
          refine SRel.of0 ⟨g.ι id n, 0, cs.toList, p4, q2, fun j c hj => ⟨?_, hst _⟩⟩
          rw [hι] at q1
          unfold Cell
          rw [cell_of_row w _ _ cs et (0, 0) q1, Nat.zero_add]
          simpa using hj
      · rename_i fz k ee x hbox
        rw [Option.map_eq_some_iff] at h
        obtain ⟨⟨us', hw', rd'⟩, hf, hres⟩ := h
        cases hres
        refine frz1 id n fz (.lst k ee x) us' hw' rd' (.cptr (.slc ee) x) hbox hf rfl (fun g2 hst hbr hι => ?_)
        obtain ⟨cs, et, q1, ⟨v0, q2, q2'⟩, q3⟩ := hbr
        have hrep : RepV g2.G w (.slc ee) x v0 := by cases k <;> exact q2'.1
        have hcells := RepV.cells hrep
        obtain ⟨ao, cap, ev, _⟩ := RepV.slc hrep
        have : v0.cells.toList = [v0] := by rw [ev]; rfl
        rw [this] at hcells
        refine SRel.of0 ⟨g.ι id n, 0, [v0], p4, hcells, fun j c hj => ⟨?_, hst _⟩⟩
        rw [hι] at q1
        unfold Cell
        rw [cell_of_row w _ _ cs et (0, 0) q1, Nat.zero_add]
        rw [← q2] at hj
        simpa using hj
      · cases h
      · cases h
    · rename_i u' l' hne heq
      cases heq
      rw [Option.map_eq_some_iff] at h
      obtain ⟨⟨us', hw', rd'⟩, hf, hres⟩ := h
      cases hres
      obtain ⟨g1, i1, i2, i3, i4, i5, i7, i8⟩ := freeze_inv l us' hw rd vs hf he.2
      exact ⟨g1, i1, i2, i3, i4, i5, i7, hv.ext i2 i3.kp.adv, i8⟩

include hinv in
theorem thaw_inv : ∀ (l : List S) (us : List S) (hw : List (Nat × HC)) (rd : List Nat) (vs : List Value), thaw s l = some (us, hw, rd) → Each (SRel P s.heap g w) l vs →
    ∃ g' : Gs, HeapRel P (hw ++ s.heap) g' w F ∧ Ext s.heap g (hw ++ s.heap) g' ∧ Stp F g.G w g'.G w ∧ g'.ι = g.ι ∧ g'.ov = g.ov ∧ Frz s.heap (hw ++ s.heap) ∧
      Each (SRel P (hw ++ s.heap) g' w) us vs
  | [], us, hw, rd, vs, h, he => by
    cases h
    exact ⟨g, hinv.heap, Ext.refl _ _, Stp.refl _ _ _, rfl, rfl, fun _ => .inl rfl, he⟩
  | u :: l, us, hw, rd, [], h, he => he.elim
  | u :: l, us, hw, rd, v :: vs, h, he => by
    have hv := he.1
    unfold thaw at h
    split at h
    · cases ‹u :: l = []›
    · rename_i id n ee l' heq
      cases heq
      split at h
      · rename_i fz e' xs hbox
        cases hb : e'.beq ee with
        | false => rw [hb] at h; cases h
        | true =>
          rw [hb, cond_true] at h
          obtain rfl := Ty.eq_of_beq hb
          split at h
          · rename_i us' hw' rd' hf
            cases h
            obtain ⟨g1, i1, i2, i3, i4, i5, i7, i8⟩ := thaw_inv l us' hw' rd' vs hf he.2
            have hl := box_spec hbox
            obtain ⟨hvv, _, _⟩ := vec_rel hinv hv hbox
            have hl' : ∃ fz', lookO (hw' ++ s.heap) id = some (.box n fz' (.row e' xs)) := by
              rcases i7 id with h1 | ⟨n', fz', c', h1, h2⟩
              · exact ⟨fz, by rw [h1]; exact hl⟩
              · rw [hl] at h1
                cases h1
                exact ⟨true, h2⟩
            obtain ⟨fz', hl'⟩ := hl'
            obtain ⟨g2, j1, j2, j3, j4, j5, j7⟩ := i1.freezeRow hl'
            refine ⟨g2, j1, i2.trans j2, i3.trans j3, j4.trans i4, j5.trans i5, fun id1 => ?_, ?_, i8.mono fun x y hxy => hxy.ext j2 j3.kp.adv⟩
            · by_cases e : id = id1
              · subst e
                exact .inr ⟨n, fz, _, hl, by rw [List.cons_append, lookO_cons, if_pos rfl]⟩
              · rw [List.cons_append, lookO_cons, if_neg e]
                exact i7 id1
            · rw [hvv, ← i5]
              exact SRel.of0 j7
          · cases h
      · cases h
    · rename_i u' l' hne heq
      cases heq
      split at h
      · rename_i us' hw' rd' hf
        cases h
        obtain ⟨g1, i1, i2, i3, i4, i5, i7, i8⟩ := thaw_inv l us' hw rd vs hf he.2
        exact ⟨g1, i1, i2, i3, i4, i5, i7, hv.ext i2 i3.kp.adv, i8⟩
      · cases h

include hinv in
theorem lend_inv : ∀ (l : List S) (us : List S) (hw : List (Nat × HC)) (rd : List Nat) (vs : List Value), lend s l = some (us, hw, rd) → Each (SRel P s.heap g w) l vs →
    ∃ g' : Gs, HeapRel P (hw ++ s.heap) g' w F ∧ Ext s.heap g (hw ++ s.heap) g' ∧ Stp F g.G w g'.G w ∧ g'.ι = g.ι ∧ g'.ov = g.ov ∧ Frz s.heap (hw ++ s.heap) ∧
      Each (SRel P (hw ++ s.heap) g' w) us vs
  | [], us, hw, rd, vs, h, he => by
    cases h
    exact ⟨g, hinv.heap, Ext.refl _ _, Stp.refl _ _ _, rfl, rfl, fun _ => .inl rfl, he⟩
  | u :: l, us, hw, rd, [], h, he => he.elim
  | u :: l, us, hw, rd, v :: vs, h, he => by
    have hv := he.1
    unfold lend at h
    split at h
    · cases ‹u :: l = []›
    · rename_i id n ee l' heq
      cases heq
      split at h
      · rename_i fz e' xs hbox
        cases hb : e'.beq ee with
        | false => rw [hb] at h; cases h
        | true =>
          rw [hb, cond_true] at h
          obtain rfl := Ty.eq_of_beq hb
          split at h
          · rename_i us' hw' rd' hf
            cases h
            obtain ⟨g1, i1, i2, i3, i4, i5, i7, i8⟩ := lend_inv l us' hw' rd' vs hf he.2
            have hl := box_spec hbox
            obtain ⟨hvv, _, _⟩ := vec_rel hinv hv hbox
            have hl' : ∃ fz', lookO (hw' ++ s.heap) id = some (.box n fz' (.row e' xs)) := by
              rcases i7 id with h1 | ⟨n', fz', c', h1, h2⟩
              · exact ⟨fz, by rw [h1]; exact hl⟩
              · rw [hl] at h1
                cases h1
                exact ⟨true, h2⟩
            obtain ⟨fz', hl'⟩ := hl'
            obtain ⟨g2, j1, j2, j3, j4, j5, j7⟩ := i1.freezeRow hl'
            refine ⟨g2, j1, i2.trans j2, i3.trans j3, j4.trans i4, j5.trans i5, fun id1 => ?_, ?_, i8.mono fun x y hxy => hxy.ext j2 j3.kp.adv⟩
            · by_cases e : id = id1
              · subst e
                exact .inr ⟨n, fz, _, hl, by rw [List.cons_append, lookO_cons, if_pos rfl]⟩
              · rw [List.cons_append, lookO_cons, if_neg e]
                exact i7 id1
            · rw [hvv, ← i5]
              exact SRel.of0 j7
          · cases h
      · cases h
    · rename_i id n root π l' heq
      cases heq
      obtain ⟨m0, fz0, c0, p1, p2, p3, p4⟩ := hv
      split at h
      · rename_i fz k hbox
        split at h
        · rename_i σ x hunf
          split at h
          · rename_i τ y hget
            cases hb : σ.beq root with
            | false => rw [hb] at h; cases h
            | true =>
              rw [hb, cond_true] at h
              obtain rfl := Ty.eq_of_beq hb
              split at h
              · rename_i us' hw' rd' hf
                cases h
                have hc := unfat_conC hunf
                obtain ⟨g1, i1, i2, i3, i4, i5, i7, i8⟩ := lend_inv l us' hw' rd' vs hf he.2
                have hl := box_spec hbox
                have hl' : ∃ fz', lookO (hw' ++ s.heap) id = some (.box n fz' k) := by
                  rcases i7 id with h1 | ⟨n', fz', c', h1, h2⟩
                  · exact ⟨fz, by rw [h1]; exact hl⟩
                  · rw [hl] at h1
                    cases h1
                    exact ⟨true, h2⟩
                obtain ⟨fz', hl'⟩ := hl'
                obtain ⟨g2, j1, j2, j3, j4, j5, j7⟩ := i1.freeze1 hl' hc
                refine ⟨g2, j1, i2.trans j2, i3.trans j3, j4.trans i4, j5.trans i5, fun id1 => ?_, ?_, i8.mono fun x y hxy => hxy.ext j2 j3.kp.adv⟩
                · by_cases e : id = id1
                  · subst e
                    exact .inr ⟨n, fz, k, hl, by rw [List.cons_append, lookO_cons, if_pos rfl]⟩
                  · rw [List.cons_append, lookO_cons, if_neg e]
                    exact i7 id1
                · obtain ⟨cs, et, q1, q2, q3⟩ := (j1.box id n true k (by rw [lookO_cons, if_pos rfl])).con hc
                  rw [j4, i4] at q1
                  have q2 := q2.unfat hunf
                  obtain ⟨r1, r2⟩ := pathGet_rep (G := g2.G) (w := w) π ⟨σ, x⟩ _ hget p3 _ q2
                  refine SRel.of0 ⟨g.ι id n, pathOff π σ, _, p4, r1, fun j c hj => ⟨?_, by rw [← i4]; exact j7 _⟩⟩
                  unfold Cell
                  rw [cell_of_row w _ _ cs et (0, 0) q1, ← Array.getElem?_toList]
                  rw [List.getElem?_take] at hj
                  split at hj
                  · rw [List.getElem?_drop] at hj
                    exact hj
                  · cases hj
              · cases h
          · cases h
        · cases h
      · cases h
    · rename_i u' l' hne1 hne2 heq
      cases heq
      split at h
      · rename_i us' hw' rd' hf
        cases h
        obtain ⟨g1, i1, i2, i3, i4, i5, i7, i8⟩ := lend_inv l us' hw rd vs hf he.2
        exact ⟨g1, i1, i2, i3, i4, i5, i7, hv.ext i2 i3.kp.adv, i8⟩
      · cases h

include hinv in
/-- Beside the run: rows of the heap are laid over the others. -/
theorem Inv.ghost {g' : Gs} {hw : List (Nat × HC)} (h1 : HeapRel P (hw ++ s.heap) g' w F) (h2 : Ext s.heap g (hw ++ s.heap) g') (h3 : Stp F g.G w g'.G w) : Inv P N F g' { slots := s.slots, heap := hw ++ s.heap } a w := by
  have := hinv.app (d := none) (e := { val := .poison, hw := hw }) (v := undef) trivial h2 (SRel.of0 (s := .poison) trivial) h1 h3
  simpa [St.app, St.put, Act.put] using this

theorem Out.lay_is {o : Out} {hw : List (Nat × HC)} {rd : List Nat} {e : Eff} (h : (o.lay hw rd).is e) : ∃ e0, o.is e0 ∧ e = e0.lay hw rd := by
  cases o with
  | fail => exact h.elim
  | ok p e0 => exact ⟨e0, ⟨h.1, rfl⟩, h.2⟩
  | call α o mk => obtain ⟨r, h1, h2⟩ := h; exact ⟨_, ⟨r, h1, rfl⟩, h2⟩
  | callO α o mk =>
    obtain ⟨r, h1, h2⟩ := h
    cases hm : mk r with
    | none => simp only [hm] at h2; cases h2
    | some e0 =>
      simp only [hm] at h2
      cases h2
      exact ⟨e0, ⟨r, h1, hm⟩, rfl⟩
  | emit es x => exact h.elim

/-- An operation behind rows that were laid over the others. -/
theorem Shown.lay {hw : List (Nat × HC)} {rd : List Nat} {e0 : Eff} (h : Shown P N F { slots := s.slots, heap := hw ++ s.heap } a w o e0) : Shown P N F s a w o (e0.lay hw rd) := by
  have key : (St.app { slots := s.slots, heap := hw ++ s.heap } o.dst e0) = s.app o.dst (e0.lay hw rd) := by
    unfold St.app St.put Eff.lay
    cases o.dst <;> simp [List.append_assoc]
  unfold Shown at *
  rw [key] at h
  exact h

include hinv in
theorem shown_thawed {l : List S} {vs : List Value} (hl : Each (SRel P s.heap g w) l vs) {f : St → List S → Out} {e : Eff} (he : (thawed s l f).is e)
    (hf : ∀ (s1 : St) (g1 : Gs) (us : List S) (e1 : Eff), Inv P N F g1 s1 a w → Each (SRel P s1.heap g1 w) us vs → (∀ x, s1.ev x = s.ev x) → (f s1 us).is e1 → Shown P N F s1 a w o e1) : Shown P N F s a w o e := by
  unfold thawed at he
  split at he
  · rename_i us _ hth
    obtain ⟨g1, i1, i2, i3, _, _, _, i8⟩ := thaw_inv hinv l us [] _ vs hth hl
    have hi := hinv.ghost i1 i2 i3
    exact hf s g1 us e hi i8 (fun _ => rfl) he
  · rename_i us h hw rd hth
    obtain ⟨g1, i1, i2, i3, _, _, _, i8⟩ := thaw_inv hinv l us (h :: hw) _ vs hth hl
    have hi := hinv.ghost i1 i2 i3
    obtain ⟨e0, h1, rfl⟩ := Out.lay_is he
    exact (hf _ g1 us e0 hi i8 (fun x => by cases x <;> rfl) h1).lay
  · exact he.elim

include hinv in
theorem untie_inv {id n : Nat} {e : Ty} {v : Value} (hx : SRel P s.heap g w (.vec id n e) v) {u : S} {hw : List (Nat × HC)} {rd : List Nat} (h : untie s id n e = some (u, hw, rd)) :
    ∃ g' : Gs, HeapRel P (hw ++ s.heap) g' w F ∧ Ext s.heap g (hw ++ s.heap) g' ∧ Stp F g.G w g'.G w ∧ SRel P (hw ++ s.heap) g' w u v := by
  unfold untie at h
  split at h
  · rename_i e' xs k hbox hk
    cases hb : e'.beq e with
    | false => rw [hb] at h; cases h
    | true =>
      rw [hb, cond_true] at h
      obtain rfl := Ty.eq_of_beq hb
      cases h
      have hl := box_spec hbox
      obtain ⟨hv, _, ao, C, h1, h2, h3⟩ := vec_rel hinv hx hbox
      have hne : vtok id ≠ id := by unfold vtok; omega
      have hTb : ∀ m fz c, lookO s.heap (vtok id) ≠ some (.box m fz c) := fun m fz c hh => by simp [nextTok, hh] at hk
      have hTm : ∀ m, lookO s.heap (vtok id) = some (.tok m) → k = m + 1 := fun m hh => by simp [nextTok, hh] at hk; omega
      -- the block, if there is any
      obtain ⟨tb, htb, G', hG', hadv, hstp, htok, hrep⟩ : ∃ (tb : Option Nat), (tb = none ∨ (Real g id (.row e' xs) ∧ tb = some (g.ι id n))) ∧ ∃ G' : Gh, (∀ b, tb ≠ some b → G' b = g.G b) ∧ Adv g.G w G' w ∧ Stp F g.G w G' w ∧
          ((xs.length = C ∨ ∃ b cur et, ao = some ⟨b, 0, none⟩ ∧ tb = some b ∧ G' b = .room F.m (xs.length * e'.size) ∧ F.B ≤ b ∧ w.heap[b]? = some (.cells cur et (0, 0)) ∧ cur.size = C * e'.size) ∧ RepV G' w (.slc e') xs v) ∧ True := by
        by_cases hC : C = 0
        · refine ⟨none, .inl rfl, g.G, fun _ _ => rfl, Adv.refl _ _, Stp.refl _ _ _, ⟨.inl (by omega), ?_⟩, trivial⟩
          have : xs = [] := List.eq_nil_of_length_eq_zero (by omega)
          subst this
          rw [h1]
          refine RepV.mk_slc h2 ?_
          cases ao with
          | none => exact hC
          | some a => exact ⟨.inr hC, [], trivial, fun j v hj => by simp at hj⟩
        · rcases h3 with h3 | ⟨rfl, hB, cs, et, css, rest, q1, q2, q3, q4, q5⟩
          · exact absurd h3 hC
          have q5 : g.G (g.ι id n) = .mine F.m := q5
          obtain ⟨G', hG'⟩ : ∃ G' : Gh, G' = fun b => if b = g.ι id n then .room F.m (xs.length * e'.size) else g.G b := ⟨_, rfl⟩
          have hGb : G' (g.ι id n) = .room F.m (xs.length * e'.size) := by rw [hG']; exact if_pos rfl
          have hGn : ∀ b, b ≠ g.ι id n → G' b = g.G b := fun b hb => by rw [hG']; exact if_neg hb
          have hadv : Adv g.G w G' w := ⟨fun b o' v hcell hs => ⟨hcell, by
            by_cases hb : b = g.ι id n
            · subst hb
              unfold Gh.st at hs
              rw [q5] at hs
              exact hs.elim
            · unfold Gh.st at *
              rw [hGn b hb]; exact hs⟩⟩
          have he := q3.mono fun x y hxy => Rep.adv hadv e' x y hxy
          refine ⟨some (g.ι id n), .inr ⟨.inr ⟨_, _, C, by rw [← hv]; exact h1, hC⟩, rfl⟩, G', fun b hb => hGn b (fun e => hb (by rw [e])), hadv, ⟨⟨rfl, rfl, rfl, Nat.le_refl _, fun b _ hp => ⟨rfl, hGn b (fun e => by rw [e, q5] at hp; exact hp rfl)⟩, hadv⟩, fun hl b hb => ?_, fun b o' h5 h6 => ⟨h5, ?_⟩⟩, ⟨.inr ⟨_, cs, et, rfl, rfl, hGb, hB, q1, q4⟩, ?_⟩, trivial⟩
          · by_cases e : b = g.ι id n
            · rw [e, hGb]; exact hinv.mt
            · rw [hGn b e]; exact hl b hb
          · by_cases e : b = g.ι id n
            · rw [e, q1] at h5; cases h5; cases h6
            · exact hGn b e
          · rw [h1]
            have hcl : css.flatten.length = xs.length * e'.size := by rw [flatten_length_const e'.size css q3.sizes, ← q3.length]
            refine RepV.mk_slc h2 ⟨.inl rfl, css, he, fun j v hj => ?_⟩
            have hjl := (List.getElem?_eq_some_iff.1 hj).1
            refine ⟨?_, ?_⟩
            · unfold Cell
              rw [cell_of_row w _ _ cs et (0, 0) q1, Nat.zero_add, ← Array.getElem?_toList, q2, List.getElem?_append_left hjl]
              exact hj
            · unfold Gh.st
              simp only [Nat.zero_add, hGb]
              omega
      obtain ⟨htok, hrep⟩ := htok
      -- the row is let go
      obtain ⟨g1, hg1⟩ : ∃ g1 : Gs, g1 = ⟨G', g.ι, fun T => if T = id then (.slice none 0 0, 0) else g.ov T, g.yl⟩ := ⟨_, rfl⟩
      have g1G : g1.G = G' := by rw [hg1]
      have g1ι : g1.ι = g.ι := by rw [hg1]
      have g1y : g1.yl = g.yl := by rw [hg1]
      have g1o : (g1.ov id).1 = .slice none 0 0 := by rw [hg1]; simp
      have g1n : ∀ T, T ≠ id → g1.ov T = g.ov T := fun T h => by rw [hg1]; exact if_neg h
      clear hg1
      have hnr : ¬ Real g1 id (.row .unit []) := fun hr => by
        rcases hr with hr | ⟨ao', m, C', hr, hne⟩
        · cases hr
        · rw [g1o] at hr; cases hr; exact hne rfl
      have hx1 : Ext s.heap g ((id, .box (n + 1) true (.row .unit [])) :: s.heap) g1 := by
        refine ⟨fun id1 m fz1 c1 k1 => ?_, fun T m k1 => ⟨m, ?_, Nat.le_refl _, fun _ => g1n T (fun e => by rw [e, hl] at k1; cases k1)⟩, g1y⟩
        · by_cases e : id = id1
          · subst e
            rw [hl] at k1
            cases k1
            exact ⟨n + 1, true, _, by rw [lookO_cons, if_pos rfl], by omega, fun _ _ => by rw [g1ι], fun h => by omega⟩
          · exact ⟨m, fz1, c1, by rw [lookO_cons, if_neg e]; exact k1, Nat.le_refl _, fun _ _ => by rw [g1ι], fun _ => ⟨g1n id1 (Ne.symm e), rfl⟩⟩
        · rw [lookO_cons, if_neg (fun e => by rw [e, k1] at hl; cases hl)]; exact k1
      have hrooms : ∀ T m, lookO s.heap T = some (.tok m) → ∀ b, roomOf (g.ov T) = some b → tb ≠ some b := by
        intro T m hT b hb e
        rcases htb with htb | ⟨hr, htb⟩
        · rw [htb] at e; cases e
        · rw [htb] at e
          have e := Option.some.inj e
          obtain ⟨cs, et, _, hroom⟩ := (hinv.heap.box id n false _ hl).block hr
          obtain ⟨ao2, k2, cp, q1, q2, q3⟩ := hinv.heap.tok T m hT
          rw [roomOf, q1] at hb
          cases ao2 with
          | none => cases hb
          | some ad =>
            simp only at hb
            split at hb
            · have hb := Option.some.inj hb
              rcases q3 with q3 | ⟨b', o', cur, et', q4, q5, _⟩
              · omega
              · cases q4
                simp only at hb
                rw [← hb] at e
                rw [e, q5] at hroom
                cases hroom
            · cases hb
      have hfree : ∀ id' n' fz' c', lookO s.heap id' = some (.box n' fz' c') → id' ≠ id → Real g id' c' → tb ≠ some (g.ι id' n') := by
        intro id' n' fz' c' hl' hne' hr e
        rcases htb with htb | ⟨hr', htb⟩
        · rw [htb] at e; cases e
        · rw [htb] at e
          exact hinv.heap.apart _ _ _ _ _ _ _ _ hl' hl hne' hr hr' (Option.some.inj e).symm
      have hh1 : HeapRel P ((id, .box (n + 1) true (.row .unit [])) :: s.heap) g1 w F := by
        refine hinv.heap.addBox tb (fun b _ hne => ⟨rfl, by rw [g1G]; exact hG' b hne⟩) (fun id' h => g1n id' h) (fun _ _ _ => by rw [g1ι]) ⟨none, 0, g1o, Nat.le_refl _, .inl rfl⟩ ?_ hrooms hx1 (by rw [g1G]; exact hadv)
        intro id' n' fz' c' hl' hne' hr
        exact ⟨hfree id' n' fz' c' hl' hne' hr, fun hr' => absurd hr' hnr⟩
      -- the right is laid
      obtain ⟨g2, hg2⟩ : ∃ g2 : Gs, g2 = ⟨g1.G, g1.ι, fun T => if T = vtok id then (v, e'.size) else g1.ov T, g1.yl⟩ := ⟨_, rfl⟩
      have g2G : g2.G = G' := by rw [hg2, ← g1G]
      have g2ι : g2.ι = g1.ι := by rw [hg2]
      have g2y : g2.yl = g1.yl := by rw [hg2]
      have g2o : g2.ov (vtok id) = (v, e'.size) := by rw [hg2]; simp
      have g2n : ∀ T, T ≠ vtok id → g2.ov T = g1.ov T := fun T h => by rw [hg2]; exact if_neg h
      clear hg2
      have hx2 : Ext ((id, .box (n + 1) true (.row .unit [])) :: s.heap) g1 ((vtok id, .tok k) :: (id, .box (n + 1) true (.row .unit [])) :: s.heap) g2 := by
        refine ⟨fun id1 m fz1 c1 k1 => ?_, fun T m k1 => ?_, g2y⟩
        · have hne1 : vtok id ≠ id1 := by
            intro e
            rw [lookO_cons, if_neg (by rw [← e]; exact Ne.symm hne), ← e] at k1
            exact hTb _ _ _ k1
          exact ⟨m, fz1, c1, by rw [lookO_cons, if_neg hne1]; exact k1, Nat.le_refl _, fun _ _ => by rw [g2ι], fun _ => ⟨g2n id1 (Ne.symm hne1), rfl⟩⟩
        · by_cases e : vtok id = T
          · subst e
            rw [lookO_cons, if_neg (Ne.symm hne)] at k1
            have := hTm m k1
            exact ⟨k, by rw [lookO_cons, if_pos rfl], by omega, fun h => by omega⟩
          · exact ⟨m, by rw [lookO_cons, if_neg e]; exact k1, Nat.le_refl _, fun _ => g2n T (Ne.symm e)⟩
      have hh2 : HeapRel P ((vtok id, .tok k) :: (id, .box (n + 1) true (.row .unit [])) :: s.heap) g2 w F := by
        refine hh1.addTok tb (fun b _ _ => ⟨rfl, by rw [g2G, g1G]⟩) g2ι (fun T h => g2n T h) ?_ ?_ ?_ ?_ hx2 (by rw [g2G, g1G]; exact Adv.refl _ _)
        · refine ⟨ao, xs.length, C, by rw [g2o]; exact h1, h2, ?_⟩
          rcases htok with htok | ⟨b, cur, et, q1, q2, q3, q4, q5, q6⟩
          · exact .inl htok
          · exact .inr ⟨b, 0, cur, (et, (0, 0)), q1, by rw [g2G, g2o, Nat.zero_add]; exact q3, q4, q5, by rw [g2o, Nat.zero_add]; exact ⟨by rw [q6]; exact Nat.le_refl _, fun j _ hj => by simp at hj⟩⟩
        · intro b hb
          rw [g2o, roomOf, h1] at hb
          cases ao with
          | none => cases hb
          | some ad =>
            simp only at hb
            split at hb
            · have hb := Option.some.inj hb
              rcases htok with htok | ⟨b', cur, et, q1, q2, _⟩
              · omega
              · cases q1
                rw [q2, ← hb]
            · cases hb
        · intro id' n' fz' c' hl' hr
          rw [lookO_cons] at hl'
          by_cases e : id = id'
          · rw [if_pos e] at hl'
            cases hl'
            rw [← e] at hr
            exact absurd hr hnr
          · rw [if_neg e] at hl'
            rw [g1ι]
            exact hfree id' n' fz' c' hl' (Ne.symm e) (hr.of (g1n id' (Ne.symm e)))
        · intro T m hT hne' b hb
          rw [lookO_cons] at hT
          by_cases e : id = T
          · rw [if_pos e] at hT; cases hT
          · rw [if_neg e] at hT
            rw [g1n T (Ne.symm e)] at hb
            exact hrooms T m hT b hb
      refine ⟨g2, hh2, hx1.trans hx2, by rw [g2G]; exact hstp, SRel.of0 (s := .lst (.tip (vtok id) k) e' xs) ⟨by rw [g2G]; exact hrep, k, by rw [List.cons_append, lookO_cons, if_pos rfl], Nat.le_refl _, fun _ => g2o⟩⟩
  · cases h

include hinv in
theorem shown_untied {l : List S} {vs : List Value} (hl : Each (SRel P s.heap g w) l vs) {f : St → List S → Out} {e : Eff} (he : (untied s l f).is e)
    (hf : ∀ (s1 : St) (g1 : Gs) (us : List S) (e1 : Eff), Inv P N F g1 s1 a w → Each (SRel P s1.heap g1 w) us vs → (∀ x, s1.ev x = s.ev x) → (f s1 us).is e1 → Shown P N F s1 a w o e1) : Shown P N F s a w o e := by
  unfold untied at he
  split at he
  · rename_i id n ee l'
    split at he
    · rename_i u hw rd hu
      cases vs with
      | nil => exact hl.elim
      | cons v vs =>
        obtain ⟨g1, i1, i2, i3, i4⟩ := untie_inv hinv hl.1 hu
        have hi := hinv.ghost i1 i2 i3
        obtain ⟨e0, h1, rfl⟩ := Out.lay_is he
        exact (hf ⟨s.slots, hw ++ s.heap⟩ g1 (u :: l') e0 hi ⟨i4, hl.2.mono fun x y hxy => hxy.ext i2 i3.kp.adv⟩ (fun x => by cases x <;> rfl) h1).lay
    · exact he.elim
  · exact hf s g _ e hinv hl (fun _ => rfl) he
end
end Go.Vi

/- Calls by contract; closures; parts of arrays. -/
namespace Go.Vi
open Go.RowKit (Below)

section
variable (P : Program) (G : Gh) (w : World)
def ArgP : (p : PTy) → p.den → Value → Prop
  | .data τ, x, v => RepV G w τ x v
  | .cptr τ, x, v => CPtr G w τ x v
  | .fnp ps rs, f, v => FnRel P G w ps rs f v
  | .seqp es, xs, v => SeqRel P G w es xs v
  | .nils _, _, v => v = .slice none 0 0
def ArgsP : (ps : List PTy) → pdens ps → List Value → Prop
  | [], _, vs => vs = []
  | [p], x, vs => ∃ v, vs = [v] ∧ ArgP P G w p x v
  | p :: q :: ps, x, vs => ∃ v vs', vs = v :: vs' ∧ ArgP P G w p x.1 v ∧ ArgsP (q :: ps) x.2 vs'

/-- A slice that is the run's own, from a block on. -/
def Room (m B : Nat) (e : Ty) (v : Value) : Prop :=
  ∃ ao k c, v = .slice ao k c ∧ k ≤ c ∧ (k = c ∨ ∃ (b o : Nat) (cur : Array Value) (et : TypeId × (Nat × Nat)), ao = some ⟨b, o, none⟩ ∧ G b = .room m (o + k * e.size) ∧ B ≤ b ∧ w.heap[b]? = some (.cells cur et.1 et.2) ∧ RoomSz cur et.2 (o + c * e.size))

def ResP (m B : Nat) : (r : RTy) → r.den → Value → Prop
  | .data τ, x, v => RepV G w τ x v
  | .fresh e, x, v => RepV G w (.slc e) x v ∧ Room G w m B e v
  | .own e, x, v => ∃ b, OwnRel G w m B false b e x v
  | .oncer es, xs, v => ∃ b, B ≤ b ∧ SealRel P G w m false b es xs v
  | .seqr es, xs, v => SeqRel P G w es xs v
  | .fnr ps rs, f, v => FnRel P G w ps rs f v
def ResPs (m B : Nat) : (rs : List RTy) → rdens rs → List Value → Prop
  | [], _, vs => vs = []
  | [r], x, vs => ∃ v, vs = [v] ∧ ResP P G w m B r x v
  | r :: q :: rs, x, vs => ∃ v vs', vs = v :: vs' ∧ ResP P G w m B r x.1 v ∧ ResPs m B (q :: rs) x.2 vs'
end

/-- A function's contract. -/
def SoundE (P : Program) (f : FuncId) (en : Ent) : Prop := Callable P f ∧ ∀ m t G w, m ≤ t → Lv t G w → ∀ (xs : pdens en.ps) vs, ArgsP P G w en.ps xs vs → ∀ r, en.g xs = some r →
  Calls P f vs.toArray w fun e w' => ∃ us G', e = .returned (tupVal us) ∧ Fwd G w G' w' ∧ Lv t G' w' ∧ ResPs P G' w' m w.heap.size en.rs r us
/-- A closure's contract. -/
def SoundC (P : Program) (f : FuncId) (cl : Cl) : Prop := Callable P f ∧ ∀ t G w, Lv t G w → ∀ (xs : dens cl.ps) vs (cs : pdens cl.caps) ws, ArgsD G w cl.ps xs vs → ArgsP P G w cl.caps cs ws → ∀ r, cl.g xs cs = some r →
  Calls P f (vs.toArray ++ ws.toArray) w fun e w' => ∃ v G', e = .returned v ∧ Fwd G w G' w' ∧ Lv t G' w' ∧ ResD G' w' cl.rs r v

/-- An iterator's contract. -/
def SoundQ (P : Program) (f : FuncId) (sq : Sq) : Prop := Callable P f ∧ ∀ τ G w, Lv τ G w → ∀ (fs : pdens sq.firsts) vs (cs : pdens sq.caps) ws, ArgsP P G w sq.firsts fs vs → ArgsP P G w sq.caps cs ws →
  ∀ xs, sq.g fs cs = some xs → SeqRun P f vs.toArray ws.toArray sq.es xs τ G w

/-- A call that may have written one block. -/
structure FwdX (b : Nat) (G : Gh) (w : World) (G' : Gh) (w' : World) : Prop where
  os : w'.os = w.os
  tape : w'.tape = w.tape
  output : w'.output = w.output
  size : w.heap.size ≤ w'.heap.size
  same : ∀ k, k < w.heap.size → k ≠ b → w'.heap[k]? = w.heap[k]? ∧ G' k = G k
  adv : Adv G w G' w'
/-- The contract of a function that writes what its first argument points to. -/
def SoundM (P : Program) (f : FuncId) (em : Em) : Prop := Callable P f ∧ ∀ m t G w, m ≤ t → Lv t G w → ∀ b cs et y, w.heap[b]? = some (.cells cs et (0, 0)) → G b = .mine m → Rep G w em.τ y cs.toList → ∀ xs vs, ArgsP P G w em.ps xs vs →
  ∀ y' r, em.g y xs = some (y', r) → Calls P f (#[.pointer (some ⟨b, 0, none⟩)] ++ vs.toArray) w fun e w' => ∃ us G' cs' et', e = .returned (tupVal us) ∧ w'.heap[b]? = some (.cells cs' et' (0, 0)) ∧ G' b = .mine m ∧ Rep G' w' em.τ y' cs'.toList ∧
    FwdX b G w G' w' ∧ Lv t G' w' ∧ ResPs P G' w' m w.heap.size em.rs r us

def capOf : Value → Nat
  | .slice _ _ c => c
  | _ => 0
/-- A call that may have turned a slice's items. -/
structure FwdR (v : Value) (b : Nat) (G : Gh) (w : World) (G' : Gh) (w' : World) : Prop where
  os : w'.os = w.os
  tape : w'.tape = w.tape
  output : w'.output = w.output
  size : w.heap.size ≤ w'.heap.size
  same : ∀ k, k < w.heap.size → (k ≠ b ∨ capOf v = 0) → w'.heap[k]? = w.heap[k]? ∧ G' k = G k
  adv : Adv G w G' w'
  nc : NC G w G' w'
/-- The contract of a function that keeps the slice that it is given. -/
def SoundD (P : Program) (f : FuncId) (de : De) : Prop := Callable P f ∧ ∀ m t G w, m ≤ t → Lv t G w → ∀ b y v, OwnRel G w m 0 false b de.e y v → ∀ xs vs, ArgsP P G w de.ps xs vs →
  ∀ r, de.g y xs = some r → Calls P f (#[v] ++ vs.toArray) w fun e w' => ∃ us G', e = .returned (tupVal us) ∧ FwdR v b G w G' w' ∧ Lv t G' w' ∧ ResPs P G' w' m w.heap.size de.rs r us

/-- The contract of an iterator with one variable of its own. -/
def SoundO (P : Program) (f : FuncId) (oq : Oq) : Prop := Callable P f ∧ ∀ τ G w b cs et y, w.heap[b]? = some (.cells cs et (0, 0)) → G b = .mine (τ + 1) → (∀ k, k < w.heap.size → k ≠ b → (G k).upto τ) → Rep G w oq.τ y cs.toList →
  ∀ xs, oq.g y = some xs → SeqRun P f #[] #[.pointer (some ⟨b, 0, none⟩)] oq.es xs τ G w

structure CtxOk (P : Program) (C : Ctx) : Prop where
  types : Types P C.tab
  fts : ftsOk P C.fts = true
  pts : ptsOk P C.pts = true
  fns : ∀ f en, C.Γ f = some en → SoundE P f en
  cls : ∀ f cl, C.Γc f = some cl → SoundC P f cl
  sqs : ∀ f sq, C.Γs f = some sq → SoundQ P f sq
  ems : ∀ f em, C.Γm f = some em → SoundM P f em
  mixed : P.follows .mixedOrders = true
  ons : ∀ f oq, C.Γo f = some oq → SoundO P f oq := by intro f oq h; cases h
  des : ∀ f de, C.Γd f = some de → SoundD P f de := by intro f de h; cases h

theorem ArgP.adv {P : Program} {G G' : Gh} {w w' : World} (ha : Adv G w G' w') : ∀ {p : PTy} {x : p.den} {v : Value}, ArgP P G w p x v → ArgP P G' w' p x v
  | .data _, _, _, h => RepV.adv ha h
  | .cptr _, _, _, h => CPtr.adv ha h
  | .fnp _ _, _, _, h => FnRel.adv ha h
  | .seqp _, _, _, h => SeqRel.adv ha h
  | .nils _, _, _, h => h
theorem ArgsP.adv {P : Program} {G G' : Gh} {w w' : World} (ha : Adv G w G' w') : ∀ (ps : List PTy) (x : pdens ps) (vs : List Value), ArgsP P G w ps x vs → ArgsP P G' w' ps x vs
  | [], _, _, h => h
  | [_], _, _, ⟨v, h1, h2⟩ => ⟨v, h1, h2.adv ha⟩
  | _ :: q :: ps, x, _, ⟨v, vs', h1, h2, h3⟩ => ⟨v, vs', h1, h2.adv ha, ArgsP.adv ha (q :: ps) x.2 vs' h3⟩

section
variable {P : Program} {H : Heap} {g : Gs} {w : World}

omit P H g w in
theorem castSeq_some {es es' : List Ty} {x : List (dens es)} {y : List (dens es')} (h : castSeq es es' x = some y) : (⟨es, x⟩ : (es : List Ty) × List (dens es)) = ⟨es', y⟩ := by
  unfold castSeq at h
  split at h
  · rename_i hb
    have hst := tysEq hb
    subst hst
    cases h; rfl
  · cases h

theorem SRel.asP {p : PTy} {u : S} {v : Value} {x : p.den} (h : SRel P H g w u v) (hx : asP p u = some x) : ArgP P g.G w p x v := by
  unfold Go.Vi.asP at hx
  split at hx
  · exact h.asD hx
  · cases castD_some hx
    exact h
  · cases hx
  · rename_i ps rs ps' rs' f
    split at hx
    · rename_i hh
      have h1 := tysEq hh.1
      have h2 := tysEq hh.2
      subst h1
      subst h2
      cases hx
      exact h
    · cases hx
  · cases hx
  · cases castSeq_some hx
    exact h
  · cases hx
  · exact h
  · cases hx

theorem asPs_rel : ∀ (ps : List PTy) (us : List S) (vs : List Value) (x : pdens ps), Each (SRel P H g w) us vs → asPs ps us = some x → ArgsP P g.G w ps x vs
  | [], [], [], _, _, _ => rfl
  | [p], [u], [v], x, h, hx => ⟨v, rfl, h.1.asP hx⟩
  | p :: q :: ps, u :: us, v :: vs, x, h, hx => by
    simp only [asPs] at hx
    rw [Option.bind_eq_some_iff] at hx
    obtain ⟨y, hy, hx⟩ := hx
    rw [Option.map_eq_some_iff] at hx
    obtain ⟨z, hz, rfl⟩ := hx
    exact ⟨v, vs, rfl, h.1.asP hy, asPs_rel (q :: ps) us vs z h.2 hz⟩
  | [], _ :: _, _, _, _, hx => by simp [asPs] at hx
  | [_], [], _, _, _, hx => by simp [asPs] at hx
  | [_], _ :: _ :: _, _, _, _, hx => by simp [asPs] at hx
  | _ :: _ :: _, [], _, _, _, hx => by simp [asPs] at hx
  | [], [], _ :: _, _, h, _ => h.elim
  | [_], [_], [], _, h, _ => h.elim
  | [_], [_], _ :: _ :: _, _, h, _ => h.2.elim
  | _ :: _ :: _, _ :: _, [], _, h, _ => h.elim

theorem asDs_rel : ∀ (ps : List Ty) (us : List S) (vs : List Value) (x : dens ps), Each (SRel P H g w) us vs → asDs ps us = some x → ArgsD g.G w ps x vs
  | [], [], [], _, _, _ => rfl
  | [p], [u], [v], x, h, hx => ⟨v, rfl, h.1.asD hx⟩
  | p :: q :: ps, u :: us, v :: vs, x, h, hx => by
    simp only [asDs] at hx
    rw [Option.bind_eq_some_iff] at hx
    obtain ⟨y, hy, hx⟩ := hx
    rw [Option.map_eq_some_iff] at hx
    obtain ⟨z, hz, rfl⟩ := hx
    exact ⟨v, vs, rfl, h.1.asD hy, asDs_rel (q :: ps) us vs z h.2 hz⟩
  | [], _ :: _, _, _, _, hx => by simp [asDs] at hx
  | [_], [], _, _, _, hx => by simp [asDs] at hx
  | [_], _ :: _ :: _, _, _, _, hx => by simp [asDs] at hx
  | _ :: _ :: _, [], _, _, _, hx => by simp [asDs] at hx
  | [], [], _ :: _, _, h, _ => h.elim
  | [_], [_], [], _, h, _ => h.elim
  | [_], [_], _ :: _ :: _, _, h, _ => h.2.elim
  | _ :: _ :: _, _ :: _, [], _, h, _ => h.elim

/-- A closure, made. -/
theorem fn_of_cl {f : FuncId} {cl : Cl} (hs : SoundC P f cl) {cs : pdens cl.caps} {ws : List Value} (hc : ArgsP P g.G w cl.caps cs ws) : FnRel P g.G w cl.ps cl.rs (fun xs => cl.g xs cs) (.func (.func f) #[] ws.toArray) :=
  ⟨f, ws.toArray, rfl, hs.1, fun t _ _ ha hl xs vs hxs r hr => hs.2 t _ _ hl xs vs cs ws hxs (hc.adv ha) r hr⟩

theorem seq_of_sq {f : FuncId} {sq : Sq} (hs : SoundQ P f sq) {fs : pdens sq.firsts} {vs : List Value} {cs : pdens sq.caps} {ws : List Value} (hf : ArgsP P g.G w sq.firsts fs vs) (hc : ArgsP P g.G w sq.caps cs ws) {xs : List (dens sq.es)} (hx : sq.g fs cs = some xs) :
    SeqRel P g.G w sq.es xs (.func (.func f) vs.toArray ws.toArray) :=
  ⟨f, vs.toArray, ws.toArray, rfl, hs.1, fun τ _ _ ha hl => hs.2 τ _ _ hl fs vs cs ws (hf.adv ha) (hc.adv ha) xs hx⟩

theorem asFn_rel {C : Ctx} (hC : CtxOk P C) {u : S} {v : Value} (h : SRel P H g w u v) : SRel P H g w (asFn C u) v := by
  unfold asFn
  split
  · rename_i f
    split
    · rename_i cl hcl
      split
      · rename_i cs hcs
        have hv : v = .func (.func f) #[] #[] := h
        subst hv
        exact SRel.of0 (fn_of_cl (hC.cls f cl hcl) (ws := []) (asPs_rel (H := H) cl.caps [] [] cs trivial hcs))
      · exact SRel.of0 (s := .poison) trivial
    · exact SRel.of0 (s := .poison) trivial
  · exact h

end

section
variable {P : Program} {C : Ctx} (hC : CtxOk P C) {N : Nat} {F : Fr} {g : Gs} {s : St} {a : Act} {w : World} (hinv : Inv P N F g s a w) {o : Oper} (hd : dstLt N F o.dst)
include hinv

theorem evs (l : List Operand) : Each (SRel P s.heap g w) (l.map s.ev) (l.map a.eval) := by
  induction l with
  | nil => trivial
  | cons x l ih => exact ⟨hinv.ev x, ih⟩

include hd hC
theorem shown_makeFunc {f : Fn} {first caps : Array Operand} (hop : o.op = .makeFunc f first caps) {e : Eff} (he : (makeFuncS C s f (first.toList.map s.ev) (caps.toList.map s.ev)).is e) : Shown P N F s a w o e := by
  have hrun : ∀ f', f = .func f' → (execOp a.eval o).run P w = .ok (.value (.func (.func f') (first.toList.map a.eval).toArray (caps.toList.map a.eval).toArray)) w := by
    intro f' hf
    unfold execOp
    rw [hop, hf]
    simp only [Instr.makeFunc, Sem.run_bind, Sem.run_pure, Result.andThen_ok]
    congr 3 <;> apply Array.ext' <;> simp
  unfold makeFuncS at he
  split at he
  · rename_i f'
    have hrun := hrun f' rfl
    split at he
    · rename_i cl hcl
      split at he
      · rename_i vs hw rd hfirst hfr
        have hf : first.toList = [] := by
          have := congrArg List.length hfirst
          exact List.eq_nil_of_length_eq_zero (by simpa using this)
        split at he
        · rename_i cs hcs
          obtain ⟨_, rfl⟩ := he
          obtain ⟨g', i1, i2, i3, i4, i5, i7, i8⟩ := freeze_inv hinv _ _ _ _ _ hfr (evs hinv caps.toList)
          have hval : SRel P (hw ++ s.heap) g' w (.fn cl.ps cl.rs (fun xs => cl.g xs cs)) (.func (.func f') #[] (caps.toList.map a.eval).toArray) :=
            SRel.of0 (fn_of_cl (hC.cls f' cl hcl) (asPs_rel _ _ _ cs i8 hcs))
          rw [hf] at hrun
          exact .value hrun ⟨g', hinv.app (e := { val := .fn cl.ps cl.rs (fun xs => cl.g xs cs), hw, rd }) hd i2 hval i1 i3⟩
        · exact he.elim
      · exact he.elim
    · split at he
      · rename_i sq vs hw rd hsq hfr
        split at he
        · rename_i fs cs hfs hcs
          obtain ⟨xs, hxs, rfl⟩ := he
          obtain ⟨g', i1, i2, i3, i4, i5, i7, i8⟩ := freeze_inv hinv _ _ _ _ _ hfr (evs hinv caps.toList)
          have hval : SRel P (hw ++ s.heap) g' w (.seq sq.es xs) (.func (.func f') (first.toList.map a.eval).toArray (caps.toList.map a.eval).toArray) :=
            SRel.of0 (seq_of_sq (hC.sqs f' sq hsq) ((asPs_rel _ _ _ fs (evs hinv first.toList) hfs).adv i3.kp.adv) (asPs_rel _ _ _ cs i8 hcs) hxs)
          exact .value hrun ⟨g', hinv.app (e := { val := .seq sq.es xs, hw, rd }) hd i2 hval i1 i3⟩
        · exact he.elim
      · exact he.elim
  · exact he.elim

omit hinv hd hC in
/-- A row of a name is laid over what was there; no memory changes. -/
theorem HeapRel.lay {H : Heap} (h : HeapRel P H g w F) {id n : Nat} {fz : Bool} {c : S} (hn : ∀ m fz' c', lookO H id = some (.box m fz' c') → m < n) (hnt : ∀ m, lookO H id ≠ some (.tok m)) (b : Nat) (v : Value)
    (hbox : ∀ g' : Gs, g'.G = g.G → g'.ι id n = b → (g'.ov id).1 = v → BoxRel P ((id, .box n fz c) :: H) g' w F id n fz c)
    (hfree : ∀ g' : Gs, (g'.ov id).1 = v → Real g' id c → ∀ id' n' fz' c', lookO H id' = some (.box n' fz' c') → id' ≠ id → Real g id' c' → g.ι id' n' ≠ b) :
    ∃ g' : Gs, g'.G = g.G ∧ (g'.ov id).1 = v ∧ g'.ι id n = b ∧ (∀ T, T ≠ id → g'.ov T = g.ov T) ∧ (∀ id' n', id' ≠ id → g'.ι id' n' = g.ι id' n') ∧ HeapRel P ((id, .box n fz c) :: H) g' w F ∧ Ext H g ((id, .box n fz c) :: H) g' := by
  obtain ⟨g', hg'⟩ : ∃ g' : Gs, g' = ⟨g.G, fun id' n' => if id' = id ∧ n' = n then b else g.ι id' n', fun T => if T = id then (v, 0) else g.ov T, g.yl⟩ := ⟨_, rfl⟩
  have hι : g'.ι id n = b := by simp [hg']
  have hov : (g'.ov id).1 = v := by simp [hg']
  have hG : g'.G = g.G := by rw [hg']
  have hιo : ∀ id' n', ¬ (id' = id ∧ n' = n) → g'.ι id' n' = g.ι id' n' := fun id' n' h => by rw [hg']; exact if_neg h
  have hovo : ∀ T, T ≠ id → g'.ov T = g.ov T := fun T h => by rw [hg']; exact if_neg h
  have hyl : g'.yl = g.yl := by rw [hg']
  clear hg'
  have ha : Adv g.G w g'.G w := by rw [hG]; exact Adv.refl _ _
  have hx : Ext H g ((id, .box n fz c) :: H) g' := by
    refine ⟨fun id1 m fz1 c1 hl => ?_, fun T m hl => ⟨m, ?_, Nat.le_refl _, fun _ => hovo T (fun h => hnt m (by rw [← h]; exact hl))⟩, hyl⟩
    · by_cases hid : id = id1
      · subst hid
        have hnm := hn m fz1 c1 hl
        refine ⟨n, fz, c, by rw [lookO_cons, if_pos rfl], by omega, fun k hk => hιo _ _ (by omega), fun h => by omega⟩
      · refine ⟨m, fz1, c1, by rw [lookO_cons, if_neg hid]; exact hl, Nat.le_refl _, fun k hk => hιo _ _ (fun h => hid h.1.symm), fun _ => ⟨hovo id1 (Ne.symm hid), rfl⟩⟩
    · rw [lookO_cons, if_neg (fun h => hnt m (by rw [h]; exact hl))]; exact hl
  refine ⟨g', hG, hov, hι, hovo, fun id' n' hne => hιo _ _ (fun h => hne h.1), ?_, hx⟩
  refine h.addBox (g' := g') none (fun b hb _ => ⟨rfl, by rw [hG]⟩) (fun id' h => hovo id' h) (fun id' n' hne => hιo _ _ (fun h => hne h.1)) (hbox g' hG hι hov) ?_ (fun _ _ _ _ _ h => by cases h) hx ha
  intro id' n' fz' c' hl hne hr
  exact ⟨fun h => (by cases h), fun hr2 => by rw [hι]; exact hfree g' hov hr2 id' n' fz' c' hl hne hr⟩

theorem shown_makeOnce {f : FuncId} {caps : List Operand} {first : List Operand} {oq : Oq} (ho : C.Γo f = some oq) (hrun : (execOp a.eval o).run P w = .ok (.value (.func (.func f) (first.map a.eval).toArray (caps.map a.eval).toArray)) w) {e : Eff}
    (he : (makeOnce s oq o.dst (first.map s.ev) (caps.map s.ev)).is e) : Shown P N F s a w o e := by
  have hE := evs hinv caps
  generalize hus : caps.map s.ev = us at hE he
  generalize caps.map a.eval = vs at hE hrun
  unfold makeOnce at he
  split at he
  · rename_i d id n root hdst hfirst
    have hf : first = [] := List.map_eq_nil_iff.1 hfirst
    subst hf
    split at he
    · rename_i σ x k hbox hn
      split at he
      · rename_i x' hx'
        cases castD_some hx'
        cases hb : oq.τ.beq root && !Nat.beq d id with
        | false => rw [hb] at he; exact he.elim
        | true =>
          rw [hb] at he
          obtain ⟨xs, hxs, rfl⟩ := he
          simp only [Bool.and_eq_true, Bool.not_eq_true'] at hb
          obtain rfl := Ty.eq_of_beq hb.1
          have hdi : d ≠ id := fun e => by
            have h2 := hb.2
            rw [e, Nat.beq_refl] at h2
            cases h2
          obtain ⟨hcall, hsound⟩ := hC.ons f oq ho
          have hl := box_spec hbox
          obtain ⟨cs, et, k1, k2, k3⟩ := hinv.heap.box id n false _ hl
          rw [if_neg (by simp)] at k3
          have k2 : Rep g.G w oq.τ x' cs.toList := k2
          match vs, hE with
          | [v], ⟨hp, _⟩ =>
            obtain ⟨m0, fz0, c0, p1, p2, p3, rfl⟩ := hp
            -- the variable's name is given up
            obtain ⟨g1, g1G, g1o, g1i, g1oo, g1io, hH1, hX1⟩ := hinv.heap.lay (id := id) (n := n + 1) (fz := true) (c := .row .unit []) (fun m fz' c' h' => by rw [hl] at h'; cases h'; omega) (fun m h' => by rw [hl] at h'; cases h') 0 (.slice none 0 0)
              (fun g' _ _ h3 => ⟨none, 0, h3, Nat.le_refl _, .inl rfl⟩)
              (fun g' h3 hr => by
                rcases hr with hr | ⟨ao, m, Cc, hr, hne⟩
                · cases hr
                · rw [h3] at hr; cases hr; exact absurd rfl hne)
            have hlk : lookO ((id, HC.box (n + 1) true (.row .unit [])) :: s.heap) d = lookO s.heap d := by rw [lookO_cons, if_neg (Ne.symm hdi)]
            have hseal : SealRel P g.G w F.m false (g.ι id n) oq.es xs (.func (.func f) #[] #[.pointer (some ⟨g.ι id n, 0, none⟩)]) :=
              ⟨f, _, cs, et, rfl, hcall, k1, by rw [if_neg (by simp)]; exact k3, fun τ G1 w1 ha1 q1 q2 q3 => hsound τ G1 w1 (g.ι id n) cs et x' q1 q2 q3 (Rep.adv ha1 oq.τ x' _ k2) xs hxs⟩
            obtain ⟨g2, g2G, g2o, g2i, g2oo, g2io, hH2, hX2⟩ := hH1.lay (id := d) (n := k) (fz := false) (c := .inn oq.es xs) (fun m fz' c' h' => by
                rw [hlk] at h'
                unfold nextBox at hn
                rw [h'] at hn
                cases hn; omega) (fun m h' => by
                rw [hlk] at h'
                unfold nextBox at hn
                rw [h'] at hn
                cases hn) (g.ι id n) (.func (.func f) #[] #[.pointer (some ⟨g.ι id n, 0, none⟩)])
              (fun g' h1 h2 h3 => by
                show SealRel P g'.G w F.m false (g'.ι d k) oq.es xs (g'.ov d).1
                rw [h1, h2, h3, g1G]; exact hseal)
              (fun g' _ _ id' n' fz' c' h1 h2 h3 => by
                rw [lookO_cons] at h1
                by_cases e : id = id'
                · rw [if_pos e] at h1
                  cases h1
                  subst e
                  rcases h3 with h3 | ⟨ao, m, Cc, h3, hne⟩
                  · cases h3
                  · rw [g1o] at h3; cases h3; exact absurd rfl hne
                · rw [if_neg e] at h1
                  rw [g1io id' n' (Ne.symm e)]
                  refine hinv.heap.apart id' n' fz' c' id n false _ h1 hl (Ne.symm e) ?_ (.inl rfl)
                  unfold Real at h3 ⊢
                  rwa [g1oo id' (Ne.symm e)] at h3)
            have hX := hX1.trans hX2
            refine .value hrun ⟨g2, ?_⟩
            rw [hdst]
            refine hinv.app (d := some d) (e := { val := .once d k, hw := [(d, .box k false (.inn oq.es xs)), (id, .box (n + 1) true (.row .unit []))], rd := [d, id] }) (hdst ▸ hd) hX (SRel.of0 (s := .once d k) ⟨k, false, .inn oq.es xs, by simp [lookO_cons], Nat.le_refl _, fun _ => g2o.symm⟩) hH2 (by rw [g2G, g1G]; exact Stp.refl _ _ _)
          | [], hE => exact hE.elim
          | _ :: _ :: _, hE => exact hE.2.elim
      · exact he.elim
    · exact he.elim
  · exact he.elim

theorem shown_makeFuncO {f : Fn} {first caps : Array Operand} (hop : o.op = .makeFunc f first caps) {e : Eff} (he : (makeFuncO C s o.dst f (first.toList.map s.ev) (caps.toList.map s.ev)).is e) : Shown P N F s a w o e := by
  unfold makeFuncO at he
  split at he
  · rename_i f'
    split at he
    · rename_i oq ho
      refine shown_makeOnce hC hinv hd ho ?_ he
      unfold execOp
      rw [hop]
      simp only [Instr.makeFunc, Sem.run_bind, Sem.run_pure, Result.andThen_ok]
      congr 3 <;> apply Array.ext' <;> simp
    · exact shown_makeFunc hC hinv hd hop he
  · exact he.elim

omit hd hC in
/-- What a call leaves of the heap. -/
theorem HeapRel.fwd {G' : Gh} {w' : World} (hf : Fwd g.G w G' w') : HeapRel P s.heap ⟨G', g.ι, g.ov, g.yl⟩ w' F ∧ Ext s.heap g s.heap ⟨G', g.ι, g.ov, g.yl⟩ :=
  ⟨hinv.heap.mono (fun b hb => hf.below.block b hb) ⟨G', g.ι, g.ov, g.yl⟩ (fun b hb => hf.own b hb) rfl rfl rfl, fun _ m fz c h => ⟨m, fz, c, h, Nat.le_refl _, fun _ _ => rfl, fun _ => ⟨rfl, rfl⟩⟩, fun _ m h => ⟨m, h, Nat.le_refl _, fun _ => rfl⟩, rfl⟩

omit hd hC hinv in
theorem resP_dat {G' : Gh} {w' : World} {m B : Nat} : ∀ {r : RTy} {x : r.den} {v : Value}, ResP P G' w' m B r x v → ∀ H (g' : Gs), g'.G = G' → ∀ T n, SRel0 P H g' w' (resS T n false r x) v
  | .data _, _, _, h, _, _, rfl, _, _ => h
  | .fresh _, _, _, h, _, _, rfl, _, _ => h.1
  | .own _, _, _, _, _, _, _, _, _ => trivial
  | .oncer _, _, _, _, _, _, _, _, _ => trivial
  | .seqr _, _, _, h, _, _, rfl, _, _ => h
  | .fnr _ _, _, _, h, _, _, rfl, _, _ => h

omit hd hC hinv in
theorem resList_dat {G' : Gh} {w' : World} {m B : Nat} {H : Heap} {g' : Gs} (hg : g'.G = G') (T n : Nat) : ∀ (rs : List RTy) (x : rdens rs) (us : List Value), ResPs P G' w' m B rs x us → Each (SRel0 P H g' w') (resList T n false rs x) us
  | [], _, _, h => by subst h; trivial
  | [r], x, _, ⟨v, h1, h2⟩ => by subst h1; exact ⟨resP_dat h2 H g' hg T n, trivial⟩
  | r :: q :: rs, x, _, ⟨v, vs, h1, h2, h3⟩ => by
    subst h1
    refine ⟨resP_dat h2 H g' hg T n, ?_⟩
    exact resList_dat hg T n (q :: rs) x.2 vs h3

omit hd hC hinv in
theorem resVal_rel {H : Heap} {g' : Gs} {w' : World} {l : List S} {us : List Value} (h : Each (SRel0 P H g' w') l us) : SRel P H g' w' (resVal l) (tupVal us) := by
  match l, us, h with
  | [], [], h => exact ⟨[], rfl, trivial⟩
  | [u], [v], h => exact SRel.of0 h.1
  | u :: u' :: l, v :: v' :: vs, h => exact ⟨v :: v' :: vs, rfl, h⟩
  | [], _ :: _, h => exact h.elim
  | [_], [], h => exact h.elim
  | [_], _ :: _ :: _, h => exact h.2.elim
  | _ :: _ :: _, [], h => exact h.elim
  | _ :: _ :: _, [_], h => exact h.2.elim

omit hC in
/-- A call that only makes memory, without a right in its result. -/
theorem Inv.call {G' : Gh} {w' : World} (hf : Fwd g.G w G' w') (hl : Lv F.t G' w') {u : S} {v : Value} (hv : SRel P s.heap ⟨G', g.ι, g.ov, g.yl⟩ w' u v) : Inv P N F ⟨G', g.ι, g.ov, g.yl⟩ (s.app o.dst { val := u }) (a.put o.dst v) w' := by
  obtain ⟨h1, h2⟩ := HeapRel.fwd hinv hf
  exact hinv.app (e := { val := u }) hd h2 hv h1 (hf.stp fun _ => hl)
end
end Go.Vi

/- Calls whose result is a slice of its own; append. -/
namespace Go.Vi
open Go.RowKit (Below)

def setOv (g : Gs) (T : Nat) (p : Value × Nat) : Gs := ⟨g.G, g.ι, fun T' => if T' = T then p else g.ov T', g.yl⟩

/-- A right of a name may follow. -/
theorem ext_tok {H : Heap} {g : Gs} {s : St} (hs : s.heap = H) {T n : Nat} (hn : nextTok s T = some n) (G' : Gh) (p : Value × Nat) : Ext H g ((T, .tok n) :: H) ⟨G', g.ι, fun T' => if T' = T then p else g.ov T', g.yl⟩ := by
  subst hs
  refine ⟨fun id m fz c hl => ?_, fun T' m hl => ?_, rfl⟩
  · have hne : T ≠ id := by
      intro e
      subst e
      simp [nextTok, hl] at hn
    exact ⟨m, fz, c, by rw [lookO_cons, if_neg hne]; exact hl, Nat.le_refl _, fun _ _ => rfl, fun _ => ⟨by simp only; rw [if_neg (Ne.symm hne)], rfl⟩⟩
  · by_cases e : T = T'
    · subst e
      have hnm : n = m + 1 := by simp [nextTok, hl] at hn; omega
      exact ⟨n, by rw [lookO_cons, if_pos rfl], by omega, fun h => by omega⟩
    · exact ⟨m, by rw [lookO_cons, if_neg e]; exact hl, Nat.le_refl _, fun _ => by simp only; rw [if_neg (Ne.symm e)]⟩

theorem roomOf_lt {v : Value} {k : Nat} {b : Nat} (h : roomOf (v, k) = some b) : ∃ a m c, v = .slice (some a) m c ∧ m < c ∧ a.block = b := by
  unfold roomOf at h
  split at h
  · rename_i a m c hv
    simp only at hv
    split at h
    · cases h; exact ⟨a, m, c, hv, by assumption, rfl⟩
    · cases h
  · cases h

section
variable {P : Program} {N : Nat} {F : Fr} {g : Gs} {s : St} {a : Act} {w : World} (hinv : Inv P N F g s a w) {o : Oper} (hd : dstLt N F o.dst)
include hinv hd

/-- A call's results, one of which has the right to its room. -/
theorem Inv.callTok {G' : Gh} {w' : World} (hf : Fwd g.G w G' w') (hl : Lv F.t G' w') {T n : Nat} (hn : nextTok s T = some n) {u : S} {v : Value} {x : Value} {e : Ty} (hroom : Room G' w' F.m w.heap.size e x)
    (hv : ∀ H g', g'.G = G' → lookO H T = some (.tok n) → g'.ov T = (x, e.size) → SRel P H g' w' u v) {rd : List Nat} :
    ∃ g', Inv P N F g' (s.app o.dst { val := u, hw := [(T, .tok n)], rd := rd }) (a.put o.dst v) w' := by
  obtain ⟨h1, h2⟩ := HeapRel.fwd hinv hf
  have hx : Ext s.heap g ((T, .tok n) :: s.heap) ⟨G', g.ι, fun T' => if T' = T then (x, e.size) else g.ov T', g.yl⟩ := ext_tok rfl hn G' (x, e.size)
  have hlt := hinv.heap.lt
  refine ⟨⟨G', g.ι, fun T' => if T' = T then (x, e.size) else g.ov T', g.yl⟩, hinv.app (e := { val := u, hw := [(T, .tok n)], rd := rd }) hd hx ?_ ?_ (hf.stp fun _ => hl)⟩
  · exact hv _ _ rfl (by simp [lookO_cons]) (by simp)
  · refine h1.addTok (g' := ⟨G', g.ι, fun T' => if T' = T then (x, e.size) else g.ov T', g.yl⟩) (roomOf (x, e.size)) (fun b _ _ => ⟨rfl, rfl⟩) rfl (fun T' hne => by simp only; rw [if_neg hne]) ?_ (fun k hk => by simpa using hk) ?_ ?_ ?_ (Adv.refl _ _)
    · obtain ⟨ao, m, c, q1, q2, q3⟩ := hroom
      refine ⟨ao, m, c, by simpa using q1, q2, ?_⟩
      rcases q3 with q3 | ⟨b, o1, cur, et, q4, q5, q6, q7, q8⟩
      · exact .inl q3
      · exact .inr ⟨b, o1, cur, et, q4, by simpa using q5, Nat.le_trans hinv.hB q6, q7, by simpa using q8⟩
    · intro id n' fz c hl hreal e1
      obtain ⟨ad, m, c', r1, r2, r3⟩ := roomOf_lt e1
      obtain ⟨ao, m', c'', q1, q2, q3⟩ := hroom
      rw [r1] at q1
      cases q1
      rcases q3 with q3 | ⟨b, o1, cur, et, q4, q5, q6, q7, q8⟩
      · omega
      · cases q4
        have := hlt.1 id n' fz c hl hreal
        simp only at r3 this
        omega
    · intro T' m hl hne b hb e1
      obtain ⟨ad, m', c', r1, r2, r3⟩ := roomOf_lt e1
      obtain ⟨ao, m'', c'', q1, q2, q3⟩ := hroom
      rw [r1] at q1
      cases q1
      rcases q3 with q3 | ⟨b', o1, cur, et, q4, q5, q6, q7, q8⟩
      · omega
      · cases q4
        have := hlt.2 T' m hl b hb
        simp only at r3
        omega
    · exact ext_tok (g := ⟨G', g.ι, g.ov, g.yl⟩) rfl hn G' (x, e.size)
end

theorem run_callFunc {P : Program} {f : FuncId} (h : Callable P f) (args : Array Value) (w : World) : (callFunc f args).run P w = .ok (.enter f args) w := by
  obtain ⟨fn, h1, h2, h3⟩ := h
  have h4 : fn.body.isNone = false := by cases hb : fn.body <;> simp [hb] at h2 ⊢
  simp only [callFunc, Sem.run_bind, run_program, Result.andThen_ok, h1, h3, h4, Bool.false_eq_true, if_false, Sem.run_pure]

theorem callM_ne {C : Ctx} {s : St} {em : Em} {es : List Ty} {x : dens es} (xs : List S) : callM C s em xs ≠ .emit es x := by
  intro h
  unfold callM at h
  split at h
  · split at h
    · split at h
      · split at h
        · simp only [cond_eq_ite] at h
          split at h <;> cases h
        · cases h
      · cases h
    · cases h
  · cases h

theorem resList_tip {P : Program} {G' : Gh} {w' : World} {m B : Nat} (T n : Nat) : ∀ (rs : List RTy) (x : rdens rs) (us : List Value), ResPs P G' w' m B rs x us → rs.any RTy.isFresh = true →
    ∃ v e, Room G' w' m B e v ∧ ∀ H (g' : Gs), g'.G = G' → lookO H T = some (.tok n) → g'.ov T = (v, e.size) → Each (SRel0 P H g' w') (resList T n true rs x) us
  | [], _, _, _, h => by simp at h
  | [.data τ], x, _, _, h => by simp [RTy.isFresh] at h
  | [.seqr _], x, _, _, h => by simp [RTy.isFresh] at h
  | [.fnr _ _], x, _, _, h => by simp [RTy.isFresh] at h
  | [.own _], x, _, _, h => by simp [RTy.isFresh] at h
  | [.oncer _], x, _, _, h => by simp [RTy.isFresh] at h
  | [.fresh e], x, _, ⟨v, h1, h2⟩, _ => ⟨v, e, h2.2, fun H g' hg hl hov => by
      subst h1; subst hg
      exact ⟨⟨h2.1, n, hl, Nat.le_refl _, fun _ => hov⟩, trivial⟩⟩
  | .data τ :: q :: rs, x, _, ⟨v, vs, h1, h2, h3⟩, h => by
    have h' : (q :: rs).any RTy.isFresh = true := by simpa [RTy.isFresh] using h
    obtain ⟨v', e, hr, hh⟩ := resList_tip T n (q :: rs) x.2 vs h3 h'
    refine ⟨v', e, hr, fun H g' hg hl hov => ?_⟩
    subst h1
    have := hh H g' hg hl hov
    subst hg
    exact ⟨h2, this⟩
  | .seqr _ :: q :: rs, x, _, ⟨v, vs, h1, h2, h3⟩, h => by
    have h' : (q :: rs).any RTy.isFresh = true := by simpa [RTy.isFresh] using h
    obtain ⟨v', e, hr, hh⟩ := resList_tip T n (q :: rs) x.2 vs h3 h'
    refine ⟨v', e, hr, fun H g' hg hl hov => ?_⟩
    subst h1
    have := hh H g' hg hl hov
    subst hg
    exact ⟨h2, this⟩
  | .fnr _ _ :: q :: rs, x, _, ⟨v, vs, h1, h2, h3⟩, h => by
    have h' : (q :: rs).any RTy.isFresh = true := by simpa [RTy.isFresh] using h
    obtain ⟨v', e, hr, hh⟩ := resList_tip T n (q :: rs) x.2 vs h3 h'
    refine ⟨v', e, hr, fun H g' hg hl hov => ?_⟩
    subst h1
    have := hh H g' hg hl hov
    subst hg
    exact ⟨h2, this⟩
  | .own _ :: q :: rs, x, _, ⟨v, vs, h1, h2, h3⟩, h => by
    have h' : (q :: rs).any RTy.isFresh = true := by simpa [RTy.isFresh] using h
    obtain ⟨v', e, hr, hh⟩ := resList_tip T n (q :: rs) x.2 vs h3 h'
    refine ⟨v', e, hr, fun H g' hg hl hov => ?_⟩
    subst h1
    have := hh H g' hg hl hov
    subst hg
    exact ⟨trivial, this⟩
  | .oncer _ :: q :: rs, x, _, ⟨v, vs, h1, h2, h3⟩, h => by
    have h' : (q :: rs).any RTy.isFresh = true := by simpa [RTy.isFresh] using h
    obtain ⟨v', e, hr, hh⟩ := resList_tip T n (q :: rs) x.2 vs h3 h'
    refine ⟨v', e, hr, fun H g' hg hl hov => ?_⟩
    subst h1
    have := hh H g' hg hl hov
    subst hg
    exact ⟨trivial, this⟩
  | .fresh e :: q :: rs, x, _, ⟨v, vs, h1, h2, h3⟩, _ => ⟨v, e, h2.2, fun H g' hg hl hov => by
      subst h1
      refine ⟨?_, resList_dat hg T n (q :: rs) x.2 vs h3⟩
      subst hg
      exact ⟨h2.1, n, hl, Nat.le_refl _, fun _ => hov⟩⟩

theorem argsD_resPs {P : Program} {G : Gh} {w : World} {m B : Nat} : ∀ (rs : List Ty) (x : dens rs) (us : List Value), ArgsD G w rs x us → ∀ y : rdens (rdata rs), HEq y x → ResPs P G w m B (rdata rs) y us
  | [], _, _, h, _, _ => h
  | [_], x, _, ⟨v, h1, h2⟩, y, hy => by
    cases hy
    exact ⟨v, h1, h2⟩
  | a :: b :: l, x, _, ⟨v, vs, h1, h2, h3⟩, y, hy => by
    have ht : rdens (rdata (b :: l)) = dens (b :: l) := rdens_rdata (b :: l)
    obtain ⟨y1, y2⟩ := y
    obtain ⟨x1, x2⟩ := x
    have key : ∀ (A X Y : Type) (h : X = Y) (p : A × X) (q : A × Y), HEq p q → p.1 = q.1 ∧ HEq p.2 q.2 := by
      intro A X Y h p q hpq
      subst h
      cases hpq
      exact ⟨rfl, HEq.rfl⟩
    obtain ⟨k1, k2⟩ := key a.den _ _ ht (y1, y2) (x1, x2) hy
    simp only at k1 k2
    subst k1
    exact ⟨v, vs, h1, h2, argsD_resPs (b :: l) x2 vs h3 y2 k2⟩

section
variable {P : Program} {C : Ctx} (hC : CtxOk P C) {N : Nat} {F : Fr} {g : Gs} {s : St} {a : Act} {w : World} (hinv : Inv P N F g s a w) {o : Oper} (hd : dstLt N F o.dst)
include hinv hd hC

omit hinv hd hC in
theorem asFn_each (hC : CtxOk P C) : ∀ (l1 : List S) (l2 : List Value), Each (SRel P s.heap g w) l1 l2 → Each (SRel P s.heap g w) (l1.map (asFn C)) l2
  | [], [], _ => trivial
  | _ :: l1, _ :: l2, h => ⟨asFn_rel hC h.1, asFn_each hC l1 l2 h.2⟩
  | [], _ :: _, h => h.elim
  | _ :: _, [], h => h.elim

theorem shown_callM {f : Operand} {args : Array Operand} {ts : Array TypeId} (hop : o.op = .call { callee := .value f, args, argTypes := ts }) {fi : FuncId} (e1 : a.eval f = .func (.func fi) #[] #[]) {em : Em} (hem : C.Γm fi = some em) {e : Eff} {l1 : List S} (hargs : Each (SRel P s.heap g w) l1 (args.toList.map a.eval))
    (he : (callM C s em l1).is e) : Shown P N F s a w o e := by
  obtain ⟨hcall, hsound⟩ := hC.ems fi em hem
  have hex : (execOp a.eval o).run P w = .ok (.enter fi (args.toList.map a.eval).toArray) w := by
    have hr := run_callFunc hcall (args.toList.map a.eval).toArray w
    unfold execOp
    rw [hop]
    simp only [resolve, Deferred.ofValue, e1, Sem.run_bind, Sem.run_pure, Result.andThen_ok, invoke]
    have : (#[] ++ Array.map a.eval args) ++ (#[] : Array Value) = (args.toList.map a.eval).toArray := by apply Array.ext'; simp
    rw [this]; exact hr
  generalize args.toList.map a.eval = l2 at *
  unfold callM at he
  split at he
  · rename_i id n root π us
    cases l2 with
    | nil => exact hargs.elim
    | cons v vs =>
      obtain ⟨hp, hrest⟩ := hargs
      obtain ⟨m0, fz0, c0, p1, p2, p3, rfl⟩ := hp
      split at he
      · rename_i σ x hbox
        obtain ⟨kc, hbox, hunf⟩ := boxD_some hbox
        have hl := box_spec hbox
        obtain ⟨cs, et, k1, k2, k3⟩ := (hinv.heap.box id n false _ hl).con (unfat_conC hunf)
        rw [if_neg (by simp)] at k3
        have k2 : Rep g.G w σ x cs.toList := k2.unfat hunf
        split at he
        · rename_i τ y xs hget hxs
          split at he
          · rename_i y' hy'
            cases castD_some hy'
            cases hb : σ.beq root && (Nat.beq (pathOff π σ) 0 && (Nat.beq em.τ.size σ.size && !em.rs.any RTy.isFresh)) with
            | false => rw [hb] at he; exact he.elim
            | true =>
              rw [hb] at he
              simp only [Bool.and_eq_true] at hb
              obtain ⟨hb1, hb2, hb3, _⟩ := hb
              obtain rfl := Ty.eq_of_beq hb1
              have hoff := Nat.eq_of_beq_eq_true hb2
              have hsz := Nat.eq_of_beq_eq_true hb3
              obtain ⟨⟨y2, r⟩, hg, hset⟩ := he
              obtain ⟨d, hd', rfl⟩ := Option.map_eq_some_iff.1 hset
              have hlen : cs.toList.length = σ.size := Rep.size _ _ _ k2
              have hrep : Rep g.G w em.τ y' cs.toList := by
                have := (pathGet_rep (G := g.G) (w := w) π ⟨σ, x⟩ _ hget p3 _ k2).1
                simp only [hoff, List.drop_zero] at this
                rwa [List.take_of_length_le (by rw [hlen, hsz]; exact Nat.le_refl _)] at this
              have hA := asPs_rel em.ps _ _ xs (asFn_each hC us vs hrest) hxs
              unfold Shown OpOk
              rw [hex]
              have hargs' : (Value.pointer (some ⟨g.ι id n, pathOff π σ, none⟩) :: vs).toArray = #[.pointer (some ⟨g.ι id n, 0, none⟩)] ++ vs.toArray := by rw [hoff]; simp
              simp only [hargs']
              refine (hsound F.m F.t g.G w hinv.mt hinv.lv (g.ι id n) cs et y' k1 k3 hrep xs vs hA y2 r hg).mono ?_
              rintro e w' ⟨us', G', cs', et', rfl, j1, j2, j3, j4, j5, j6⟩
              refine ⟨tupVal us', rfl, ?_⟩
              have hlen' : cs'.toList.length = em.τ.size := Rep.size _ _ _ j3
              have hset' := pathSet_rep (G := G') (w := w') π ⟨σ, x⟩ ⟨em.τ, y2⟩ d hd' p3 cs.toList cs'.toList (Rep.adv j4.adv σ x _ k2) j3
              have hty := pathSet_ty π ⟨σ, x⟩ ⟨em.τ, y2⟩ d hd'
              have hcon : Rep G' w' d.1 d.2 cs'.toList := by
                have := hset'.1
                rwa [hoff, splice_all (by rw [hlen', hlen, hsz])] at this
              obtain ⟨hh, hx⟩ := hinv.heap.put (g' := ⟨G', g.ι, g.ov, g.yl⟩) (w' := w') (fz' := false) (c' := .dat d.1 d.2) hl (some (g.ι id n)) (.inr ⟨.inl (conC_row (unfat_conC hunf)), rfl⟩) (fun b hb hne => j4.same b hb (fun e => hne (by rw [e]))) rfl rfl rfl (conC_row (unfat_conC hunf)).symm j4.adv (fun _ => ⟨cs', et', j1, hcon, by rw [if_neg (by simp)]; exact j2⟩)
              refine ⟨⟨G', g.ι, g.ov, g.yl⟩, hinv.app (e := { val := (resEff none em.rs r).val, hw := [(id, .box n false (.dat d.1 d.2))], rd := [id] }) hd hx (resVal_rel (resList_dat rfl 0 0 em.rs r us' j6)) hh ?_⟩
              refine ⟨⟨j4.os, j4.tape, j4.output, j4.size, fun k hk hp => j4.same k hk (fun e => by rw [e, k3] at hp; exact hp rfl), j4.adv⟩, fun _ => j5, fun k ob h5 h6 => ?_⟩
              have hne : k ≠ g.ι id n := fun e => by rw [e, k1] at h5; cases h5; cases h6
              obtain ⟨q1, q2⟩ := j4.same k (Array.getElem?_eq_some_iff.1 h5).1 hne
              exact ⟨q1.trans h5, q2⟩
          · exact he.elim
        · exact he.elim
      · exact he.elim
  · exact he.elim

theorem shown_callOwn {f : Operand} {args : Array Operand} {ts : Array TypeId} (hop : o.op = .call { callee := .value f, args, argTypes := ts }) {fi : FuncId} (e1 : a.eval f = .func (.func fi) #[] #[]) {ps : List PTy} {ee : Ty} {eg : pdens ps → Option (List ee.den)} (hen : C.Γ fi = some ⟨ps, [.own ee], eg⟩)
    {e : Eff} {us : List S} (hargs : Each (SRel P s.heap g w) us (args.toList.map a.eval)) (he : (callOwn C s o.dst ps ee eg us).is e) : Shown P N F s a w o e := by
  obtain ⟨hcall, hsound⟩ := hC.fns fi _ hen
  unfold callOwn at he
  split at he
  · rename_i d xs hdst hxs
    rw [hdst] at hd
    split at he
    · rename_i n hn
      obtain ⟨r, hr, rfl⟩ := he
      have hex : (execOp a.eval o).run P w = .ok (.enter fi (args.toList.map a.eval).toArray) w := by
        have hr := run_callFunc hcall (args.toList.map a.eval).toArray w
        unfold execOp
        rw [hop]
        simp only [resolve, Deferred.ofValue, e1, Sem.run_bind, Sem.run_pure, Result.andThen_ok, invoke]
        have : (#[] ++ Array.map a.eval args) ++ (#[] : Array Value) = (args.toList.map a.eval).toArray := by apply Array.ext'; simp
        rw [this]; exact hr
      have hA := asPs_rel ps _ _ xs (asFn_each hC us _ hargs) hxs
      unfold Shown OpOk
      rw [hex]
      refine (hsound F.m F.t g.G w hinv.mt hinv.lv xs _ hA r hr).mono ?_
      rintro e w' ⟨us', G', rfl, hfwd, hlv, hres⟩
      refine ⟨tupVal us', rfl, ?_⟩
      obtain ⟨v, rfl, b, hown⟩ := hres
      have hown : OwnRel G' w' F.m w.heap.size false b ee r v := hown
      -- the new row
      obtain ⟨g', hg'⟩ : ∃ g' : Gs, g' = ⟨G', fun id' n' => if id' = d ∧ n' = n then b else g.ι id' n', fun T => if T = d then (v, 0) else g.ov T, g.yl⟩ := ⟨_, rfl⟩
      have hι : g'.ι d n = b := by simp [hg']
      have hov : (g'.ov d).1 = v := by simp [hg']
      have hG : g'.G = G' := by rw [hg']
      have hιo : ∀ id' n', ¬ (id' = d ∧ n' = n) → g'.ι id' n' = g.ι id' n' := fun id' n' h => by rw [hg']; exact if_neg h
      have hovo : ∀ T, T ≠ d → g'.ov T = g.ov T := fun T h => by rw [hg']; exact if_neg h
      have hyl : g'.yl = g.yl := by rw [hg']
      clear hg'
      subst hG
      have hnt : ∀ m, lookO s.heap d ≠ some (.tok m) := fun m hl => by simp [nextBox, hl] at hn
      have hx : Ext s.heap g ((d, .box n false (.row ee r)) :: s.heap) g' := by
        refine ⟨fun id m fz c' hl => ?_, fun T m hl => ⟨m, ?_, Nat.le_refl _, fun _ => hovo T (fun h => hnt m (by rw [← h]; exact hl))⟩, hyl⟩
        · by_cases hid : d = id
          · subst hid
            have hnm : n = m + 1 := by simp [nextBox, hl] at hn; omega
            refine ⟨n, false, _, by rw [lookO_cons, if_pos rfl], by omega, fun k hk => hιo _ _ (by omega), fun h => by omega⟩
          · refine ⟨m, fz, c', by rw [lookO_cons, if_neg hid]; exact hl, Nat.le_refl _, fun k hk => hιo _ _ (fun h => hid h.1.symm), fun _ => ⟨hovo id (Ne.symm hid), rfl⟩⟩
        · rw [lookO_cons, if_neg (fun h => hnt m (by rw [h]; exact hl))]; exact hl
      have hlt := hinv.heap.lt
      have hown' : OwnRel g'.G w' F.m F.B false b ee r v := by
        obtain ⟨ao, Cc, q1, q2, q3⟩ := hown
        refine ⟨ao, Cc, q1, q2, ?_⟩
        rcases q3 with q3 | ⟨q3, q4, q5⟩
        · exact .inl q3
        · exact .inr ⟨q3, Nat.le_trans hinv.hB q4, q5⟩
      refine ⟨g', ?_⟩
      rw [hdst]
      refine hinv.app (d := some d) (e := { val := .vec d n ee, hw := [(d, .box n false (.row ee r))], rd := [d] }) hd hx (SRel.of0 (s := .vec d n ee) ⟨n, false, .row ee r, by simp [lookO_cons], Nat.le_refl _, fun _ => ⟨⟨_, rfl⟩, hov.symm⟩⟩) ?_ (hfwd.stp fun _ => hlv)
      refine hinv.heap.addBox (g' := g') (id := d) (n := n) (fz := false) none (fun b hb _ => ⟨hfwd.below.block b hb, hfwd.own b hb⟩) (fun id' h => hovo id' h) (fun id' n' hne => hιo _ _ (fun h => hne h.1)) (by show OwnRel _ _ _ _ _ _ _ _ _; rw [hι, hov]; exact hown') ?_ (fun _ _ _ _ _ h => by cases h) hx hfwd.adv
      intro id' n' fz' c' hl _ hr'
      refine ⟨fun h => (by cases h), fun hr2 => ?_⟩
      rw [hι]
      have := hlt.1 id' n' fz' c' hl hr'
      obtain ⟨ao, Cc, q1, q2, q3⟩ := hown
      rcases q3 with q3 | ⟨_, q4, _⟩
      · rcases hr2 with hr2 | ⟨ao', m', C', hr2, hne⟩
        · cases hr2
        · rw [hov, q1] at hr2; cases hr2; exact absurd q3 hne
      · omega
    · exact he.elim
  · exact he.elim

theorem shown_callOnce {f : Operand} {args : Array Operand} {ts : Array TypeId} (hop : o.op = .call { callee := .value f, args, argTypes := ts }) {fi : FuncId} (e1 : a.eval f = .func (.func fi) #[] #[]) {ps : List PTy} {ee : List Ty} {eg : pdens ps → Option (List (dens ee))} (hen : C.Γ fi = some ⟨ps, [.oncer ee], eg⟩)
    {e : Eff} {us : List S} (hargs : Each (SRel P s.heap g w) us (args.toList.map a.eval)) (he : (callOnce C s o.dst ps ee eg us).is e) : Shown P N F s a w o e := by
  obtain ⟨hcall, hsound⟩ := hC.fns fi _ hen
  unfold callOnce at he
  split at he
  · rename_i d xs hdst hxs
    rw [hdst] at hd
    split at he
    · rename_i n hn
      obtain ⟨r, hr, rfl⟩ := he
      have hex : (execOp a.eval o).run P w = .ok (.enter fi (args.toList.map a.eval).toArray) w := by
        have hr := run_callFunc hcall (args.toList.map a.eval).toArray w
        unfold execOp
        rw [hop]
        simp only [resolve, Deferred.ofValue, e1, Sem.run_bind, Sem.run_pure, Result.andThen_ok, invoke]
        have : (#[] ++ Array.map a.eval args) ++ (#[] : Array Value) = (args.toList.map a.eval).toArray := by apply Array.ext'; simp
        rw [this]; exact hr
      have hA := asPs_rel ps _ _ xs (asFn_each hC us _ hargs) hxs
      unfold Shown OpOk
      rw [hex]
      refine (hsound F.m F.t g.G w hinv.mt hinv.lv xs _ hA r hr).mono ?_
      rintro e w' ⟨us', G', rfl, hfwd, hlv, hres⟩
      refine ⟨tupVal us', rfl, ?_⟩
      obtain ⟨v, rfl, b, hbw, hown⟩ := hres
      have hown : SealRel P G' w' F.m false b ee r v := hown
      -- the new row
      obtain ⟨g', hg'⟩ : ∃ g' : Gs, g' = ⟨G', fun id' n' => if id' = d ∧ n' = n then b else g.ι id' n', fun T => if T = d then (v, 0) else g.ov T, g.yl⟩ := ⟨_, rfl⟩
      have hι : g'.ι d n = b := by simp [hg']
      have hov : (g'.ov d).1 = v := by simp [hg']
      have hG : g'.G = G' := by rw [hg']
      have hιo : ∀ id' n', ¬ (id' = d ∧ n' = n) → g'.ι id' n' = g.ι id' n' := fun id' n' h => by rw [hg']; exact if_neg h
      have hovo : ∀ T, T ≠ d → g'.ov T = g.ov T := fun T h => by rw [hg']; exact if_neg h
      have hyl : g'.yl = g.yl := by rw [hg']
      clear hg'
      subst hG
      have hnt : ∀ m, lookO s.heap d ≠ some (.tok m) := fun m hl => by simp [nextBox, hl] at hn
      have hx : Ext s.heap g ((d, .box n false (.inn ee r)) :: s.heap) g' := by
        refine ⟨fun id m fz c' hl => ?_, fun T m hl => ⟨m, ?_, Nat.le_refl _, fun _ => hovo T (fun h => hnt m (by rw [← h]; exact hl))⟩, hyl⟩
        · by_cases hid : d = id
          · subst hid
            have hnm : n = m + 1 := by simp [nextBox, hl] at hn; omega
            refine ⟨n, false, _, by rw [lookO_cons, if_pos rfl], by omega, fun k hk => hιo _ _ (by omega), fun h => by omega⟩
          · refine ⟨m, fz, c', by rw [lookO_cons, if_neg hid]; exact hl, Nat.le_refl _, fun k hk => hιo _ _ (fun h => hid h.1.symm), fun _ => ⟨hovo id (Ne.symm hid), rfl⟩⟩
        · rw [lookO_cons, if_neg (fun h => hnt m (by rw [h]; exact hl))]; exact hl
      have hlt := hinv.heap.lt
      refine ⟨g', ?_⟩
      rw [hdst]
      refine hinv.app (d := some d) (e := { val := .once d n, hw := [(d, .box n false (.inn ee r))], rd := [d] }) hd hx (SRel.of0 (s := .once d n) ⟨n, false, .inn ee r, by simp [lookO_cons], Nat.le_refl _, fun _ => hov.symm⟩) ?_ (hfwd.stp fun _ => hlv)
      refine hinv.heap.addBox (g' := g') (id := d) (n := n) (fz := false) none (fun b hb _ => ⟨hfwd.below.block b hb, hfwd.own b hb⟩) (fun id' h => hovo id' h) (fun id' n' hne => hιo _ _ (fun h => hne h.1)) (by show SealRel _ _ _ _ _ _ _ _ _; rw [hι, hov]; exact hown) ?_ (fun _ _ _ _ _ h => by cases h) hx hfwd.adv
      intro id' n' fz' c' hl _ hr'
      refine ⟨fun h => (by cases h), fun _ => ?_⟩
      rw [hι]
      have := hlt.1 id' n' fz' c' hl hr'
      omega
    · exact he.elim
  · exact he.elim

theorem shown_call {f : Operand} {args : Array Operand} {ts : Array TypeId} (hop : o.op = .call { callee := .value f, args, argTypes := ts }) {e : Eff} {us : List S} (hargs : Each (SRel P s.heap g w) us (args.toList.map a.eval)) (he : (callS C s o.dst (s.ev f) us).is e) : Shown P N F s a w o e := by
  have hf := hinv.ev f
  generalize hsf : s.ev f = sf at *
  unfold callS at he
  split at he
  · rename_i fi
    have e1 : a.eval f = .func (.func fi) #[] #[] := hf
    split at he
    · rename_i ps ee eg hen
      exact shown_callOwn hC hinv hd hop e1 hen hargs he
    · rename_i ps ee eg hen
      exact shown_callOnce hC hinv hd hop e1 hen hargs he
    · rename_i en _ _ hen
      obtain ⟨hcall, hsound⟩ := hC.fns fi en hen
      split at he
      · rename_i xs tk hxs htk
        obtain ⟨r, hr, rfl⟩ := he
        have hex : (execOp a.eval o).run P w = .ok (.enter fi (args.toList.map a.eval).toArray) w := by
          have hr := run_callFunc hcall (args.toList.map a.eval).toArray w
          unfold execOp
          rw [hop]
          simp only [resolve, Deferred.ofValue, e1, Sem.run_bind, Sem.run_pure, Result.andThen_ok, invoke]
          have : (#[] ++ Array.map a.eval args) ++ (#[] : Array Value) = (args.toList.map a.eval).toArray := by apply Array.ext'; simp
          rw [this]; exact hr
        have hrel := asFn_each hC us _ hargs
        have hA := asPs_rel en.ps _ _ xs hrel hxs
        unfold Shown OpOk
        rw [hex]
        refine (hsound F.m F.t g.G w hinv.mt hinv.lv xs _ hA r hr).mono ?_
        rintro e w' ⟨us, G', rfl, hfwd, hlv, hres⟩
        refine ⟨tupVal us, rfl, ?_⟩
        unfold resTok at htk
        cases hany : en.rs.any RTy.isFresh with
        | false =>
          rw [hany] at htk
          cases htk
          exact ⟨_, Inv.call hinv hd hfwd hlv (resVal_rel (resList_dat (g' := ⟨G', g.ι, g.ov, g.yl⟩) rfl 0 0 en.rs r us hres))⟩
        | true =>
          rw [hany, cond_true] at htk
          split at htk
          · rename_i d hdst
            split at htk
            · rename_i n hn
              cases htk
              obtain ⟨x, ee, hroom, hh⟩ := resList_tip (P := P) (tokId d) n en.rs r us hres hany
              exact hinv.callTok hd hfwd hlv hn hroom (u := resVal (resList (tokId d) n true en.rs r)) (rd := [tokId d]) (fun H g' q1 q2 q3 => resVal_rel (hh H g' q1 q2 q3))
            · cases htk
          · cases htk
            exact ⟨_, Inv.call hinv hd hfwd hlv (resVal_rel (resList_dat (g' := ⟨G', g.ι, g.ov, g.yl⟩) rfl 0 0 en.rs r us hres))⟩
      · exact he.elim
    · split at he
      · rename_i em hem
        exact shown_callM hC hinv hd hop e1 hem hargs he
      · exact he.elim
  · rename_i ps rs fg
    obtain ⟨fi, caps, e1, hcall, hsound⟩ := hf
    split at he
    · rename_i xs hxs
      obtain ⟨r, hr, rfl⟩ := he
      have hex : (execOp a.eval o).run P w = .ok (.enter fi ((args.toList.map a.eval).toArray ++ caps)) w := by
        have hr := run_callFunc hcall ((args.toList.map a.eval).toArray ++ caps) w
        unfold execOp
        rw [hop]
        simp only [resolve, Deferred.ofValue, e1, Sem.run_bind, Sem.run_pure, Result.andThen_ok, invoke]
        have : (#[] ++ Array.map a.eval args) = (args.toList.map a.eval).toArray := by apply Array.ext'; simp
        rw [this]; exact hr
      have hA := asDs_rel ps _ _ xs hargs hxs
      have hr' : ∃ r' : dens rs, fg xs = some r' ∧ HEq r r' := by
        have key : ∀ (X Y : Type) (h : X = Y) (p : Option Y) (q : X), (h.symm ▸ p : Option X) = some q → ∃ r', p = some r' ∧ HEq q r' := by
          intro X Y h p q hh
          subst h
          exact ⟨q, hh, HEq.rfl⟩
        exact key _ _ (rdens_rdata rs) (fg xs) r hr
      obtain ⟨r', hr1, hr2⟩ := hr'
      unfold Shown OpOk
      rw [hex]
      refine (hsound F.t g.G w (Adv.refl _ _) hinv.lv xs _ hA r' hr1).mono ?_
      rintro e w' ⟨v, G', rfl, hfwd, hlv, us, hres, rfl⟩
      refine ⟨tupVal us, rfl, ?_⟩
      exact ⟨_, Inv.call hinv hd hfwd hlv (resVal_rel (resList_dat (g' := ⟨G', g.ι, g.ov, g.yl⟩) rfl 0 0 (rdata rs) r us (argsD_resPs (m := 0) (B := 0) rs r' us hres r hr2)))⟩
    · exact he.elim
  · rename_i es
    cases hh : asDs es us with
    | none => rw [hh] at he; exact he.elim
    | some x => rw [hh] at he; exact he.elim
  · exact he.elim

omit hd hC hinv in
theorem Rep.flat {G G' : Gh} {w w' : World} : ∀ (τ : Ty) (x : τ.den) (cs : List Value), flatTy τ = true → Rep G w τ x cs → Rep G' w' τ x cs
  | .int _, _, _, _, h => h
  | .bool, _, _, _, h => h
  | .str, _, _, _, h => h
  | .unit, _, _, _, h => h
  | .one a, x, cs, hf, h => Rep.flat a x cs hf h
  | .pair a b, _, _, hf, ⟨c1, c2, h0, h1, h2⟩ => by
    simp only [flatTy, Bool.and_eq_true] at hf
    exact ⟨c1, c2, h0, Rep.flat a _ _ hf.1 h1, Rep.flat b _ _ hf.2 h2⟩
  | .arr _ e, _, _, hf, ⟨hn, css, h0, h1⟩ => ⟨hn, css, h0, h1.mono fun x c hc => Rep.flat e x c hf hc⟩
  | .slc _, _, _, hf, _ => by cases hf
omit hd hC hinv in
theorem resPs_flat {G G' : Gh} {w w' : World} {m B m' B' : Nat} : ∀ (rs : List RTy) (x : rdens rs) (us : List Value), rs.all RTy.flat = true → ResPs P G w m B rs x us → ResPs P G' w' m' B' rs x us := by
  have one : ∀ (r : RTy) (x : r.den) (v : Value), r.flat = true → ResP P G w m B r x v → ResP P G' w' m' B' r x v := by
    intro r x v hf h
    cases r with
    | data τ => obtain ⟨cs, h1, h2⟩ := h; exact ⟨cs, Rep.flat τ x cs hf h1, h2⟩
    | _ => cases hf
  intro rs
  induction rs with
  | nil => intro x us _ h; exact h
  | cons r rs ih =>
    intro x us hf h
    rw [List.all_cons, Bool.and_eq_true] at hf
    cases rs with
    | nil => obtain ⟨v, h1, h2⟩ := h; exact ⟨v, h1, one _ _ _ hf.1 h2⟩
    | cons q rs => obtain ⟨v, vs, h1, h2, h3⟩ := h; exact ⟨v, vs, h1, one _ _ _ hf.1 h2, ih _ _ hf.2 h3⟩
omit hd hC hinv in
theorem flat_fresh : ∀ (rs : List RTy), rs.all RTy.flat = true → rs.any RTy.isFresh = false
  | [], _ => rfl
  | r :: rs, h => by
    rw [List.all_cons, Bool.and_eq_true] at h
    rw [List.any_cons, flat_fresh rs h.2]
    cases r <;> first | rfl | (simp [RTy.flat] at h)

/-- A call that is lent slices of the run's own. -/
theorem shown_callFlat {f : Operand} {args : Array Operand} {ts : Array TypeId} (hop : o.op = .call { callee := .value f, args, argTypes := ts }) {s1 : St} {g1 : Gs} (hinv1 : Inv P N F g1 s1 a w) (hev : s1.ev f = s.ev f) (hstp : Stp F g.G w g1.G w) {e : Eff} {us : List S}
    (hargs : Each (SRel P s1.heap g1 w) us (args.toList.map a.eval)) (hflat : flatCall C (s.ev f) = true) (he : (callS C s1 o.dst (s.ev f) us).is e) : ∃ u, e = { val := u } ∧ Shown P N F s a w o { val := u } := by
  have hf := hinv.ev f
  generalize hsf : s.ev f = sf at *
  unfold flatCall at hflat
  split at hflat
  · rename_i fi
    have e1 : a.eval f = .func (.func fi) #[] #[] := hf
    split at hflat
    · rename_i en hen
      unfold callS at he
      simp only [hen] at he
      split at he
      · rename_i ps ee eg heq
        cases heq
        simp [RTy.flat] at hflat
      · rename_i ps ee eg heq
        cases heq
        simp [RTy.flat] at hflat
      · rename_i en' _ _ heq
        cases heq
        obtain ⟨hcall, hsound⟩ := hC.fns fi _ hen
        have hff := flat_fresh _ hflat
        split at he
        · rename_i xs tk hxs htk
          obtain ⟨r, hr, rfl⟩ := he
          have htk' : tk = none := by
            unfold resTok at htk
            rw [hff] at htk
            cases htk; rfl
          subst htk'
          refine ⟨_, rfl, ?_⟩
          have hex : (execOp a.eval o).run P w = .ok (.enter fi (args.toList.map a.eval).toArray) w := by
            have hr := run_callFunc hcall (args.toList.map a.eval).toArray w
            unfold execOp
            rw [hop]
            simp only [resolve, Deferred.ofValue, e1, Sem.run_bind, Sem.run_pure, Result.andThen_ok, invoke]
            have : (#[] ++ Array.map a.eval args) ++ (#[] : Array Value) = (args.toList.map a.eval).toArray := by apply Array.ext'; simp
            rw [this]; exact hr
          have hA := asPs_rel en.ps _ _ xs (asFn_each hC us _ hargs) hxs
          unfold Shown OpOk
          rw [hex]
          refine (hsound F.m F.t g1.G w hinv1.mt hinv1.lv xs _ hA r hr).mono ?_
          rintro e w' ⟨us', G', rfl, hfwd, hlv, hres⟩
          refine ⟨tupVal us', rfl, ?_⟩
          obtain ⟨G2, hG2⟩ : ∃ G2 : Gh, G2 = fun b => if b < w.heap.size then g.G b else G' b := ⟨_, rfl⟩
          have hfwd2 : Fwd g.G w G2 w' := ⟨hfwd.below, fun b hb => by rw [hG2]; exact if_pos hb⟩
          have hlv2 : Lv F.t G2 w' := fun b hb => by
            rw [hG2]
            by_cases h : b < w.heap.size
            · simp only [if_pos h]; exact hinv.lv b h
            · simp only [if_neg h]; exact hlv b hb
          have hres2 : ResPs P G2 w' F.m w.heap.size en.rs r us' := resPs_flat en.rs r us' hflat hres
          exact ⟨_, Inv.call hinv hd hfwd2 hlv2 (resVal_rel (resList_dat (g' := ⟨G2, g.ι, g.ov, g.yl⟩) rfl 0 0 en.rs r us' hres2))⟩
        · exact he.elim
      · cases ‹some en = none›
    · cases hflat
  · cases hflat

theorem shown_callD {f : Operand} {args : Array Operand} {ts : Array TypeId} (hop : o.op = .call { callee := .value f, args, argTypes := ts }) {fi : FuncId} (e1 : a.eval f = .func (.func fi) #[] #[]) {de : De} (hde : C.Γd fi = some de) {e : Eff} {l1 : List S} (hargs : Each (SRel P s.heap g w) l1 (args.toList.map a.eval))
    (he : (callD C s de l1).is e) : Shown P N F s a w o e := by
  obtain ⟨hcall, hsound⟩ := hC.des fi de hde
  have hex : (execOp a.eval o).run P w = .ok (.enter fi (args.toList.map a.eval).toArray) w := by
    have hr := run_callFunc hcall (args.toList.map a.eval).toArray w
    unfold execOp
    rw [hop]
    simp only [resolve, Deferred.ofValue, e1, Sem.run_bind, Sem.run_pure, Result.andThen_ok, invoke]
    have : (#[] ++ Array.map a.eval args) ++ (#[] : Array Value) = (args.toList.map a.eval).toArray := by apply Array.ext'; simp
    rw [this]; exact hr
  generalize args.toList.map a.eval = l2 at *
  unfold callD at he
  split at he
  · rename_i id n ee us
    cases l2 with
    | nil => exact hargs.elim
    | cons v vs =>
      obtain ⟨hp, hrest⟩ := hargs
      split at he
      · rename_i e' ys0 hbox
        split at he
        · rename_i ys xs hys hxs
          cases castD_some (σ := .slc e') hys
          cases hb : de.e.beq ee && !de.rs.any RTy.isFresh with
          | false => rw [hb] at he; exact he.elim
          | true =>
            rw [hb] at he
            simp only [Bool.and_eq_true] at hb
            obtain ⟨r, hr, rfl⟩ := he
            have hl := box_spec hbox
            obtain ⟨hv, hee, ao, Cc, h1, h2, h3⟩ := vec_rel hinv hp hbox
            have hown : OwnRel g.G w F.m 0 false (g.ι id n) de.e ys v := ⟨ao, Cc, h1, h2, h3.imp (fun h => h) fun ⟨q1, _, q3⟩ => ⟨q1, Nat.zero_le _, q3⟩⟩
            have hA := asPs_rel de.ps _ _ xs (asFn_each hC us vs hrest) hxs
            unfold Shown OpOk
            rw [hex]
            have hargs' : (v :: vs).toArray = #[v] ++ vs.toArray := by simp
            simp only [hargs']
            refine (hsound F.m F.t g.G w hinv.mt hinv.lv (g.ι id n) ys v hown xs vs hA r hr).mono ?_
            rintro e w' ⟨us', G', rfl, j4, j5, j6⟩
            refine ⟨tupVal us', rfl, ?_⟩
            have hcap : capOf v = Cc := by rw [h1]; rfl
            obtain ⟨tb, htb0, htb1⟩ : ∃ tb : Option Nat, (Cc = 0 → tb = none) ∧ (Cc ≠ 0 → tb = some (g.ι id n)) := by
              by_cases hC0 : Cc = 0
              · exact ⟨none, fun _ => rfl, fun h => absurd hC0 h⟩
              · exact ⟨some (g.ι id n), fun h => absurd h hC0, fun _ => rfl⟩
            have hsame : ∀ k, k < w.heap.size → tb ≠ some k → w'.heap[k]? = w.heap[k]? ∧ G' k = g.G k := fun k hk hne => j4.same k hk (by
              by_cases hC0 : Cc = 0
              · exact .inr (by rw [hcap]; exact hC0)
              · exact .inl fun e => hne (by rw [htb1 hC0, e]))
            obtain ⟨g1, hg1⟩ : ∃ g1 : Gs, g1 = ⟨G', g.ι, fun T => if T = id then (.slice none 0 0, 0) else g.ov T, g.yl⟩ := ⟨_, rfl⟩
            have g1G : g1.G = G' := by rw [hg1]
            have g1ι : g1.ι = g.ι := by rw [hg1]
            have g1y : g1.yl = g.yl := by rw [hg1]
            have g1o : (g1.ov id).1 = .slice none 0 0 := by rw [hg1]; simp
            have g1n : ∀ T, T ≠ id → g1.ov T = g.ov T := fun T h => by rw [hg1]; exact if_neg h
            clear hg1
            have hnr : ¬ Real g1 id (.row .unit []) := fun hr => by
              rcases hr with hr | ⟨ao', m, C', hr, hne⟩
              · cases hr
              · rw [g1o] at hr; cases hr; exact hne rfl
            have hreal : Cc ≠ 0 → Real g id (.row de.e ys) := fun hC0 => .inr ⟨_, _, Cc, by rw [← hv]; exact h1, hC0⟩
            have hx1 : Ext s.heap g ((id, .box (n + 1) true (.row .unit [])) :: s.heap) g1 := by
              refine ⟨fun id1 m fz1 c1 k1 => ?_, fun T m k1 => ⟨m, ?_, Nat.le_refl _, fun _ => g1n T (fun e => by rw [e, hl] at k1; cases k1)⟩, g1y⟩
              · by_cases e : id = id1
                · subst e
                  rw [hl] at k1
                  cases k1
                  exact ⟨n + 1, true, _, by rw [lookO_cons, if_pos rfl], by omega, fun _ _ => by rw [g1ι], fun h => by omega⟩
                · exact ⟨m, fz1, c1, by rw [lookO_cons, if_neg e]; exact k1, Nat.le_refl _, fun _ _ => by rw [g1ι], fun _ => ⟨g1n id1 (Ne.symm e), rfl⟩⟩
              · rw [lookO_cons, if_neg (fun e => by rw [e, k1] at hl; cases hl)]; exact k1
            have hrooms : ∀ T m, lookO s.heap T = some (.tok m) → ∀ b, roomOf (g.ov T) = some b → tb ≠ some b := by
              intro T m hT b hb e
              by_cases hC0 : Cc = 0
              · rw [htb0 hC0] at e; cases e
              · rw [htb1 hC0] at e
                have e := Option.some.inj e
                obtain ⟨cs, et, _, hroom⟩ := (hinv.heap.box id n false _ hl).block (hreal hC0)
                obtain ⟨ao2, k2, cp, q1, q2, q3⟩ := hinv.heap.tok T m hT
                rw [roomOf, q1] at hb
                cases ao2 with
                | none => cases hb
                | some ad =>
                  simp only at hb
                  split at hb
                  · have hb := Option.some.inj hb
                    rcases q3 with q3 | ⟨b', o1, cur, et', q4, q5, _⟩
                    · omega
                    · cases q4
                      simp only at hb
                      rw [← hb] at e
                      rw [e, q5] at hroom
                      cases hroom
                  · cases hb
            have hfree : ∀ id' n' fz' c', lookO s.heap id' = some (.box n' fz' c') → id' ≠ id → Real g id' c' → tb ≠ some (g.ι id' n') := by
              intro id' n' fz' c' hl' hne' hr e
              by_cases hC0 : Cc = 0
              · rw [htb0 hC0] at e; cases e
              · rw [htb1 hC0] at e
                exact hinv.heap.apart _ _ _ _ _ _ _ _ hl' hl hne' hr (hreal hC0) (Option.some.inj e).symm
            have hadv : Adv g.G w g1.G w' := by rw [g1G]; exact j4.adv
            have hh1 : HeapRel P ((id, .box (n + 1) true (.row .unit [])) :: s.heap) g1 w' F :=
              hinv.heap.addBox tb (fun b hb hne => by rw [g1G]; exact hsame b hb hne) (fun id' h => g1n id' h) (fun _ _ _ => by rw [g1ι]) ⟨none, 0, g1o, Nat.le_refl _, .inl rfl⟩
                (fun id' n' fz' c' hl' hne' hr => ⟨hfree id' n' fz' c' hl' hne' hr, fun hr' => absurd hr' hnr⟩) hrooms hx1 hadv
            refine ⟨g1, hinv.app (e := { val := (resEff none de.rs r).val, hw := [(id, .box (n + 1) true (.row .unit []))], rd := [id] }) hd hx1 (resVal_rel (resList_dat g1G 0 0 de.rs r us' j6)) hh1 ?_⟩
            rw [g1G]
            refine ⟨⟨j4.os, j4.tape, j4.output, j4.size, fun k hk hp => j4.same k hk ?_, j4.adv⟩, fun _ => j5, j4.nc⟩
            by_cases hC0 : Cc = 0
            · exact .inr (by rw [hcap]; exact hC0)
            · refine .inl fun e => ?_
              rcases h3 with h3 | ⟨_, _, cs, et, css, rest, _, _, _, _, q5⟩
              · exact hC0 h3
              · rw [e, q5] at hp; exact hp rfl
        · exact he.elim
      · exact he.elim
  · exact he.elim

theorem shown_callV {f : Operand} {args : Array Operand} {ts : Array TypeId} (hop : o.op = .call { callee := .value f, args, argTypes := ts }) {e : Eff} (he : (callV C s o.dst (s.ev f) (args.toList.map s.ev)).is e) : Shown P N F s a w o e := by
  unfold callV at he
  split at he
  · rename_i de hk
    have hf := hinv.ev f
    have hargs := evs hinv args.toList
    generalize s.ev f = sf at *
    cases sf with
    | fref fi => exact shown_callD hC hinv hd hop hf hk hargs he
    | _ => cases hk
  unfold callW at he
  cases hb : flatCall C (s.ev f) with
  | true =>
    rw [hb, cond_true] at he
    split at he
    · rename_i us _ hth
      obtain ⟨g1, i1, i2, i3, _, _, _, i8⟩ := lend_inv hinv _ us [] _ _ hth (evs hinv args.toList)
      exact shown_call hC (hinv.ghost i1 i2 i3) hd hop i8 he
    · rename_i us h hw rd hth
      obtain ⟨g1, i1, i2, i3, _, _, _, i8⟩ := lend_inv hinv _ us (h :: hw) _ _ hth (evs hinv args.toList)
      have hi := hinv.ghost i1 i2 i3
      have hev : (⟨s.slots, h :: hw ++ s.heap⟩ : St).ev f = s.ev f := by cases f <;> rfl
      obtain ⟨e0, h1, rfl⟩ := Out.lay_is he
      obtain ⟨u, rfl, h2⟩ := shown_callFlat hC hinv hd hop hi hev i3 i8 hb h1
      exact h2
    · exact he.elim
  | false =>
    rw [hb, cond_false] at he
    split at he
    · rename_i us _ hth
      obtain ⟨g1, i1, i2, i3, _, _, _, i8⟩ := thaw_inv hinv _ us [] _ _ hth (evs hinv args.toList)
      exact shown_call hC (hinv.ghost i1 i2 i3) hd hop i8 he
    · rename_i us h hw rd hth
      obtain ⟨g1, i1, i2, i3, _, _, _, i8⟩ := thaw_inv hinv _ us (h :: hw) _ _ hth (evs hinv args.toList)
      have hi := hinv.ghost i1 i2 i3
      have hev : (⟨s.slots, h :: hw ++ s.heap⟩ : St).ev f = s.ev f := by cases f <;> rfl
      obtain ⟨e0, h1, rfl⟩ := Out.lay_is he
      exact (shown_call hC hi hd hop i8 (by rw [hev]; exact h1)).lay
    · exact he.elim

omit hd hC hinv in
theorem thaw_nil : ∀ (l us : List S) (rd : List Nat), thaw s l = some (us, [], rd) → us = l
  | [], us, rd, h => by cases h; rfl
  | u :: l, us, rd, h => by
    unfold thaw at h
    split at h
    · cases ‹u :: l = []›
    · split at h
      · rename_i e' _ _
        cases hb : e'.beq _ with
        | false => rw [hb] at h; cases h
        | true =>
          rw [hb, cond_true] at h
          split at h <;> cases h
      · cases h
    · rename_i u' l' _ heq
      cases heq
      split at h
      · rename_i a b c hf
        cases h
        rw [thaw_nil l a _ hf]
      · cases h
omit hd hC hinv in
theorem lend_nil : ∀ (l us : List S) (rd : List Nat), lend s l = some (us, [], rd) → us = l
  | [], us, rd, h => by cases h; rfl
  | u :: l, us, rd, h => by
    unfold lend at h
    split at h
    · cases ‹u :: l = []›
    · split at h
      · rename_i e' _ _
        cases hb : e'.beq _ with
        | false => rw [hb] at h; cases h
        | true =>
          rw [hb, cond_true] at h
          split at h <;> cases h
      · cases h
    · split at h
      · split at h
        · rename_i σ x _
          split at h
          · cases hb : σ.beq _ with
            | false => rw [hb] at h; cases h
            | true =>
              rw [hb, cond_true] at h
              split at h <;> cases h
          · cases h
        · cases h
      · cases h
    · rename_i u' l' _ _ heq
      cases heq
      split at h
      · rename_i a b c hf
        cases h
        rw [lend_nil l a _ hf]
      · cases h
omit hd hC hinv in
theorem Out.lay_emit {o : Out} {hw : List (Nat × HC)} {rd : List Nat} {es : List Ty} {x : dens es} : o.lay hw rd ≠ .emit es x := by
  cases o <;> simp [Out.lay]
omit hd hC hinv in
theorem callV_emit {f : S} {xs : List S} {d : Option Nat} {es : List Ty} {x : dens es} (h : callV C s d f xs = .emit es x) : callS C s d f xs = .emit es x := by
  unfold callV at h
  split at h
  · unfold callD at h
    split at h
    · split at h
      · split at h
        · simp only [cond_eq_ite] at h
          split at h <;> cases h
        · cases h
      · cases h
    · cases h
  unfold callW at h
  cases hb : flatCall C f with
  | true =>
    rw [hb, cond_true] at h
    split at h
    · rename_i us _ hth
      rw [lend_nil _ _ _ hth] at h
      exact h
    · exact absurd h Out.lay_emit
    · cases h
  | false =>
    rw [hb, cond_false] at h
    split at h
    · rename_i us _ hth
      rw [thaw_nil _ _ _ hth] at h
      exact h
    · exact absurd h Out.lay_emit
    · cases h

omit hd hC in
/-- An item is handed over. -/
theorem emit_exec {f : Operand} {args : Array Operand} {ts : Array TypeId} (hop : o.op = .call { callee := .value f, args, argTypes := ts }) {es : List Ty} {x : dens es} (he : callV C s o.dst (s.ev f) (args.toList.map s.ev) = .emit es x) :
    ∃ vs, ArgsD g.G w es x vs ∧ (execOp a.eval o).run P w = (Instr.yield g.yl vs.toArray).run P w := by
  have hf := hinv.ev f
  have hargs := evs hinv args.toList
  have he := callV_emit he
  generalize hsf : s.ev f = sf at *
  unfold callS at he
  split at he
  · split at he
    · unfold callOwn at he
      split at he
      · split at he <;> cases he
      · cases he
    · unfold callOnce at he
      split at he
      · split at he <;> cases he
      · cases he
    · split at he <;> cases he
    · split at he
      · exact absurd he (callM_ne _)
      · cases he
  · split at he <;> cases he
  · rename_i es'
    split at he
    · rename_i y hy
      cases he
      have e1 : a.eval f = .func (.yield g.yl) #[] #[] := hf
      refine ⟨_, asDs_rel es _ _ x hargs hy, ?_⟩
      unfold execOp
      rw [hop]
      simp only [resolve, Deferred.ofValue, e1, Sem.run_bind, Sem.run_pure, Result.andThen_ok, invoke]
      have : (#[] ++ Array.map a.eval args) = (args.toList.map a.eval).toArray := by apply Array.ext'; simp
      simp only [this]
    · cases he
  · cases he
end
end Go.Vi

/- append. -/
namespace Go.Vi
open Go.RowKit (Below)

/-- append of nothing. -/
theorem run_append_none {P : Program} (w : World) (t ty e : TypeId) (i : TypeInfo) (ht : P.underlying t = some (.slice e)) (hi : P.info? e = some i) (ao : Option Addr) (n c : Nat) (hnc : n ≤ c) (a2 : Option Addr) (c2 : Nat) :
    (Builtin.append_ #[t, t] ty #[.slice ao n c, .slice a2 0 c2]).run P w = .ok (.slice ao n c) w := by
  have hf : (Builtin.firstCells i.size 0 (.slice a2 0 c2)).run P w = .ok #[] w := by
    cases a2 <;> simp [Builtin.firstCells, loadCells, loadCellsFrom]
  cases ao with
  | none => simp [Builtin.append_, run_underlying ht, sizeOf, typeInfo, hi, Builtin.lenOf, hnc, hf]
  | some ad => simp [Builtin.append_, run_underlying ht, sizeOf, typeInfo, hi, Builtin.lenOf, hnc, hf, storeCells]

/-- append within the room. -/
theorem run_storeCells_free (P : Program) (g o : Nat) (t : TypeId) (fz : Nat × Nat) : ∀ (vs : List Value) (i : Nat) (cur : Array Value) (w : World), w.heap[g]? = some (.cells cur t fz) → (∀ j, j < o + i + vs.length → ¬ (fz.1 ≤ j ∧ j < fz.2)) → o + i + vs.length ≤ cur.size → (∀ v ∈ vs, v.oneCell' = true) →
    (storeCells ⟨g, o, none⟩ vs i).run P w = .ok () (w.setRow g (cur.toList.take (o + i) ++ vs ++ cur.toList.drop (o + i + vs.length)).toArray)
  | [], i, cur, w, hg, _, _, _ => by
    simp only [storeCells, List.append_nil, List.length_nil, Nat.add_zero, List.take_append_drop, Array.toArray_toList]
    rw [setRow_self w g cur t fz hg]
    rfl
  | v :: rest, i, cur, w, hg, hz, hl, h1 => by
    have hi : o + i < cur.size := by simp at hl; omega
    have hadd : (⟨g, o, none⟩ : Addr).add i = ⟨g, o + i, none⟩ := by unfold Addr.add; split <;> simp_all
    have hcell : w.cell? ⟨g, o + i, none⟩ = some cur[o + i] := by simp [World.cell?, hg, hi]
    have hfro : w.frozen? ⟨g, o + i, none⟩ = false := by
      have := hz (o + i) (by rw [List.length_cons]; omega)
      obtain ⟨lo, hi'⟩ := fz
      simp only [World.frozen?, hg, Bool.and_eq_false_iff, decide_eq_false_iff_not]
      simp only at this
      omega
    have hst : (store ((⟨g, o, none⟩ : Addr).add i) v).run P w = .ok () (w.setRow g (cur.setIfInBounds (o + i) v)) := by
      rw [hadd, run_store P w _ v _ (h1 v (by simp)), hcell]
      simp [hfro, setCell_eq_setRow w g (o + i) cur t fz v hg]
    have ih := run_storeCells_free P g o t fz rest (i + 1) (cur.setIfInBounds (o + i) v) (w.setRow g (cur.setIfInBounds (o + i) v)) (setRow_heap w g cur _ t _ hg) (fun j hj => hz j (by simp; omega)) (by simp at hl ⊢; omega) (fun x hx => h1 x (by simp [hx]))
    simp only [storeCells, Sem.run_bind, hst, Result.andThen_ok, ih, setRow_setRow]
    congr 3
    have e := list_seg_step cur.toList (o + i) v rest (by simp at hl ⊢; omega)
    simpa [Array.toList_setIfInBounds, Nat.add_assoc] using e
theorem run_append_in {P : Program} (w : World) (t ty e : TypeId) (et : TypeId × (Nat × Nat)) (i : TypeInfo) (ht : P.underlying t = some (.slice e)) (hi : P.info? e = some i)
    (g o sLen sCap : Nat) (cur : Array Value) (hg : w.heap[g]? = some (.cells cur et.1 et.2))
    (a : Addr) (m c : Nat) (news : List Value) (hl : news.length = m * i.size) (hnews : ∀ j u, news[j]? = some u → w.cell? (a.add j) = some u) (h1 : ∀ u ∈ news, u.oneCell' = true)
    (hroom : sLen + m ≤ sCap) (hz : RoomSz cur et.2 (o + sCap * i.size)) :
    (Builtin.append_ #[t, t] ty #[.slice (some ⟨g, o, none⟩) sLen sCap, .slice (some a) m c]).run P w =
      .ok (.slice (some ⟨g, o, none⟩) (sLen + m) sCap) (w.setRow g (cur.toList.take (o + sLen * i.size) ++ news ++ cur.toList.drop (o + sLen * i.size + news.length)).toArray) := by
  have hle : (sLen + m) * i.size ≤ sCap * i.size := Nat.mul_le_mul_right _ hroom
  rw [Nat.add_mul] at hle
  have hf := run_firstCells_some (P := P) w i.size m a m c news hl hnews
  have hst := run_storeCells_free P g (o + sLen * i.size) et.1 et.2 news 0 cur w hg (fun j hj => hz.2 j (by omega)) (by have := hz.1; omega) h1
  simp only [Nat.add_zero] at hst
  simp [Builtin.append_, run_underlying ht, sizeOf, typeInfo, hi, Builtin.lenOf, hroom, hf, Addr.add_lit, hst]

section
variable {P : Program} {N : Nat} {F : Fr} {g : Gs} {s : St} {a : Act} {w : World} (hinv : Inv P N F g s a w) {o : Oper} (hd : dstLt N F o.dst)
include hinv

omit hinv in
theorem lookO_append_some {α : Type} : ∀ (l m : List (Nat × α)) (k : Nat), lookO (l ++ m) k = (lookO l k).or (lookO m k)
  | [], _, _ => by simp [lookO]
  | (k', v) :: l, m, k => by
    simp only [List.cons_append, lookO]
    cases Nat.beq k' k
    · simpa using lookO_append_some l m k
    · rfl

/-- The right to a slice's room is taken: what is known of its room then. -/
theorem tip_rel {x : S} {hw : List (Nat × HC)} {rd : List Nat} (ht : tipOf s x = some (hw, rd)) {e : Ty} {xs : List e.den} (hxs : asD (.slc e) x = some xs) {ao : Option Addr} {c : Nat} (hv : SRel P s.heap g w x (.slice ao xs.length c)) :
    ∃ g1 : Gs, HeapRel P (hw ++ s.heap) g1 w F ∧ Ext s.heap g (hw ++ s.heap) g1 ∧ g1.G = g.G ∧ g1.ι = g.ι ∧ (∀ T, (∀ m, lookO s.heap T = some (.tok m) → lookO (hw ++ s.heap) T = some (.tok m) ∨ lookO (hw ++ s.heap) T = some (.tok (m + 1))) ∧ (lookO s.heap T = none → lookO (hw ++ s.heap) T = none) ∧
        (∀ m fz u, lookO s.heap T = some (.box m fz u) → lookO (hw ++ s.heap) T = some (.box m fz u))) ∧
      (c = xs.length ∨ ∃ (b o : Nat) (cur : Array Value) (et : TypeId × (Nat × Nat)), ao = some ⟨b, o, none⟩ ∧ g.G b = .room F.m (o + xs.length * e.size) ∧ F.B ≤ b ∧ w.heap[b]? = some (.cells cur et.1 et.2) ∧ RoomSz cur et.2 (o + c * e.size) ∧
        (∀ T m, lookO (hw ++ s.heap) T = some (.tok m) → roomOf (g1.ov T) ≠ some b) ∧ ∀ id n fz u, lookO (hw ++ s.heap) id = some (.box n fz u) → Real g1 id u → g1.ι id n ≠ b) := by
  have trivial1 : hw = [] → c = xs.length → _ := fun (h1 : hw = []) (h2 : c = xs.length) => by
    subst h1
    exact (⟨g, hinv.heap, Ext.refl _ _, rfl, rfl, fun T => ⟨fun m h => .inl h, fun h => h, fun m fz u h => h⟩, .inl h2⟩ : ∃ g1 : Gs, HeapRel P ([] ++ s.heap) g1 w F ∧ Ext s.heap g ([] ++ s.heap) g1 ∧ g1.G = g.G ∧ g1.ι = g.ι ∧ (∀ T, (∀ m, lookO s.heap T = some (.tok m) → lookO ([] ++ s.heap) T = some (.tok m) ∨ lookO ([] ++ s.heap) T = some (.tok (m + 1))) ∧ (lookO s.heap T = none → lookO ([] ++ s.heap) T = none) ∧
        (∀ m fz u, lookO s.heap T = some (.box m fz u) → lookO ([] ++ s.heap) T = some (.box m fz u))) ∧
      (c = xs.length ∨ ∃ (b o : Nat) (cur : Array Value) (et : TypeId × (Nat × Nat)), ao = some ⟨b, o, none⟩ ∧ g.G b = .room F.m (o + xs.length * e.size) ∧ F.B ≤ b ∧ w.heap[b]? = some (.cells cur et.1 et.2) ∧ RoomSz cur et.2 (o + c * e.size) ∧
        (∀ T m, lookO ([] ++ s.heap) T = some (.tok m) → roomOf (g1.ov T) ≠ some b) ∧ ∀ id n fz u, lookO ([] ++ s.heap) id = some (.box n fz u) → Real g1 id u → g1.ι id n ≠ b))
  unfold tipOf at ht
  split at ht
  · cases ht
    have hv' : (Value.slice ao xs.length c) = .slice none 0 0 := hv
    injection hv' with q1 q2 q3
    exact trivial1 rfl (by omega)
  · cases ht
    obtain ⟨_, ao', n, hv'⟩ := hv
    injection hv' with q1 q2 q3
    exact trivial1 rfl (by omega)
  · rename_i T n e' xs'
    cases castD_some (σ := .slc e') hxs
    obtain ⟨hrep, m, hl, hle, hov⟩ := hv
    split at ht
    · rename_i m' hl'
      cases hb : Nat.beq m' n with
      | false => rw [hb] at ht; cases ht
      | true =>
        rw [hb] at ht
        cases ht
        obtain rfl := Nat.eq_of_beq_eq_true hb
        rw [hl'] at hl
        cases hl
        have hov := hov rfl
        have hn : nextTok s T = some (m + 1) := by simp [nextTok, hl']
        let g1 : Gs := ⟨g.G, g.ι, fun T' => if T' = T then (.slice none 0 0, 0) else g.ov T', g.yl⟩
        have hx : Ext s.heap g ((T, .tok (m + 1)) :: s.heap) g1 := ext_tok rfl hn g.G (.slice none 0 0, 0)
        have h1 : HeapRel P ((T, .tok (m + 1)) :: s.heap) g1 w F :=
          hinv.heap.addTok none (fun b _ _ => ⟨rfl, rfl⟩) rfl (fun T' hne => by simp only [g1]; rw [if_neg hne]) ⟨none, 0, 0, by simp [g1], Nat.le_refl _, .inl rfl⟩
            (fun k hk => by simp [g1, roomOf] at hk) (fun _ _ _ _ _ _ => by simp) (fun _ _ _ _ _ _ => by simp) hx (Adv.refl _ _)
        refine ⟨g1, h1, hx, rfl, rfl, fun T' => ⟨fun k hk => ?_, fun hk => ?_, fun k fz u hk => ?_⟩, ?_⟩
        · by_cases e1 : T = T'
          · subst e1
            rw [hl'] at hk
            cases hk
            exact .inr (by rw [List.cons_append, lookO_cons, if_pos rfl])
          · exact .inl (by rw [List.cons_append, lookO_cons, if_neg e1]; exact hk)
        · rw [List.cons_append, lookO_cons, if_neg (fun e1 => by rw [e1, hk] at hl'; cases hl')]; exact hk
        · rw [List.cons_append, lookO_cons, if_neg (fun e1 => by rw [e1, hk] at hl'; cases hl')]; exact hk
        · obtain ⟨ao2, k, cp, q1, q2, q3⟩ := hinv.heap.tok T m hl'
          rw [hov] at q1 q3
          simp only at q1 q3
          cases q1
          rcases q3 with q3 | ⟨b, o1, cur, et, q4, q5, q6, q7, q8⟩
          · exact .inl q3.symm
          · by_cases hck : c = xs.length
            · exact .inl hck
            refine .inr ⟨b, o1, cur, et, q4, q5, q6, q7, q8, fun T' k' hk' => ?_, fun id k' fz u hk' hreal => ?_⟩
            · rw [List.cons_append, lookO_cons] at hk'
              by_cases e1 : T = T'
              · subst e1
                simp [g1, roomOf]
              · rw [if_neg e1] at hk'
                simp only [g1]
                rw [if_neg (Ne.symm e1)]
                refine hinv.heap.rooms T m T' k' hl' hk' e1 b ?_
                rw [hov, roomOf, q4]
                simp only
                rw [if_pos (by omega)]
            · rw [List.cons_append, lookO_cons] at hk'
              by_cases e1 : T = id
              · rw [if_pos e1] at hk'; cases hk'
              · rw [if_neg e1] at hk'
                obtain ⟨cs0, et0, r1, r3⟩ := (hinv.heap.box id k' fz u hk').block (hreal.of (by simp only [g1]; rw [if_neg (Ne.symm e1)]))
                intro e2
                have e2' : g.ι id k' = b := e2
                rw [e2', q5] at r3
                cases fz <;> cases r3
    · cases ht
  · cases ht

omit hinv in
theorem st_room {G : Gh} {b m k j : Nat} (h : G b = .room m k) (hj : j < k) : G.st b j := by unfold Gh.st; rw [h]; exact hj

omit hinv in
/-- A slice's value out of a block's cells, from a place on. -/
theorem repV_at {G : Gh} {w : World} {b k : Nat} {cur : Array Value} {et : TypeId} {fz : Nat × Nat} (hb : w.heap[b]? = some (.cells cur et fz)) {e : Ty} {xs : List e.den} {css : List (List Value)} (hes : Each (Rep G w e) xs css)
    (hpre : css.flatten <+: cur.toList.drop k) (hst : ∀ j, j < css.flatten.length → G.st b (k + j)) {cap : Nat} (hc : xs.length ≤ cap) : RepV G w (.slc e) xs (.slice (some ⟨b, k, none⟩) xs.length cap) := by
  refine RepV.mk_slc hc ⟨.inl rfl, css, hes, fun j v hj => ?_⟩
  have hlt : j < css.flatten.length := (List.getElem?_eq_some_iff.1 hj).1
  obtain ⟨rest, hr⟩ := hpre
  refine ⟨?_, hst j hlt⟩
  unfold Cell
  rw [cell_of_row w b (k + j) cur et fz hb]
  have h1 : (cur.toList.drop k)[j]? = some v := by rw [← hr, List.getElem?_append_left hlt]; exact hj
  rw [List.getElem?_drop, Array.getElem?_toList] at h1
  exact h1
omit hinv in
/-- A slice's value out of a block's cells. -/
theorem repV_block {G : Gh} {w : World} {b : Nat} {cur : Array Value} {et : TypeId} {fz : Nat × Nat} (hb : w.heap[b]? = some (.cells cur et fz)) {e : Ty} {xs : List e.den} {css : List (List Value)} (hes : Each (Rep G w e) xs css)
    (hpre : css.flatten <+: cur.toList) (hst : ∀ j, j < css.flatten.length → G.st b j) {cap : Nat} (hc : xs.length ≤ cap) : RepV G w (.slc e) xs (.slice (some ⟨b, 0, none⟩) xs.length cap) := by
  refine RepV.mk_slc hc ⟨.inl rfl, css, hes, fun j v hj => ?_⟩
  have hlt : j < css.flatten.length := (List.getElem?_eq_some_iff.1 hj).1
  obtain ⟨rest, hr⟩ := hpre
  simp only [Nat.zero_add]
  refine ⟨?_, hst j hlt⟩
  unfold Cell
  rw [cell_of_row w b j cur et fz hb]
  rw [← Array.getElem?_toList, ← hr, List.getElem?_append_left hlt]
  exact hj

include hd in
theorem shown_append {C : Ctx} (T : Types P C.tab) {x y : Operand} {t t' : TypeId} (hop : o.op = .call { callee := .builtin .append, args := #[x, y], argTypes := #[t, t'] }) {sx sy : S} (hx : SRel P s.heap g w sx (a.eval x)) (hy : SRel P s.heap g w sy (a.eval y)) {e : Eff}
    (he : (appendS C s o.dst [t, t'] [sx, sy]).is e) : Shown P N F s a w o e := by
  unfold appendS at he
  split at he
  · rename_i d t1 t2 x1 y1 hdst hts hxs0
    cases hts
    cases hxs0
    split at he
    · rename_i te hte
      split at he
      · rename_i ee hty
        split at he
        · rename_i hw rd xs ys n htip hxs hys hn
          cases hb : Nat.beq t t' && (Nat.ble 1 ee.size && (Nat.ble 1 te.bytes && (lookO hw (tokId d)).isNone)) with
          | false => rw [hb] at he; exact he.elim
          | true =>
            rw [hb, cond_true] at he
            obtain ⟨hpre, rfl⟩ := he
            simp only [Bool.and_eq_true] at hb
            obtain rfl := Nat.eq_of_beq_eq_true hb.1
            have hesz : 0 < ee.size := Nat.le_of_ble_eq_true hb.2.1
            have hbpos : 0 < te.bytes := Nat.le_of_ble_eq_true hb.2.2.1
            have hdn : lookO hw (tokId d) = none := by simpa using hb.2.2.2
            have hbytes : (xs.length + ys.length) * te.bytes ≤ 140737488355328 := by simpa using hpre
            have hsmall : xs.length + ys.length ≤ 140737488355328 := Nat.le_trans (Nat.le_mul_of_pos_right _ hbpos) hbytes
            rw [hdst] at hd
            obtain ⟨et, tee, i, hu, hte2, hty2, hi, hisz, hiz, hiby⟩ := T.slc hte hty
            have hzs : (valOf ee (zeroV ee)).cells.size = ee.size := by
              rw [(Rep.zero g.G w ee).cells]; simpa using Rep.size _ _ _ (Rep.zero g.G w ee)
            -- the two slices
            have hrx := hx.asD hxs
            have hry := hy.asD hys
            obtain ⟨ao, c, e1, hc, hrow⟩ := RepV.slc hrx
            obtain ⟨ao2, c2, e2, hc2, hrow2⟩ := RepV.slc hry
            rw [e1] at hx hrx
            rw [e2] at hry
            obtain ⟨g1, hh1, hx1, hG1, hι1, hlk, hroom⟩ := tip_rel hinv htip hxs hx
            -- the new right's name
            have hl1 : lookO (hw ++ s.heap) (tokId d) = lookO s.heap (tokId d) := by rw [lookO_append_some, hdn, Option.none_or]
            have hn1 : nextTok { s with heap := hw ++ s.heap } (tokId d) = some n := by
              unfold nextTok at hn ⊢
              simp only [hl1]
              exact hn
            have hex : ∀ v' w', (Builtin.append_ #[t, t] o.type #[a.eval x, a.eval y]).run P w = .ok v' w' → (execOp a.eval o).run P w = .ok (.value v') w' := by
              intro v' w' hr
              unfold execOp
              rw [hop]
              simp only [resolve, invoke, builtin, List.map_toArray, List.map_cons, List.map_nil, Sem.run_bind, Sem.run_pure, Result.andThen_ok, hr]
            have fin : ∀ (G' : Gh) (w' : World) (v' : Value) (tb : Option Nat), (Builtin.append_ #[t, t] o.type #[a.eval x, a.eval y]).run P w = .ok v' w' → Adv g.G w G' w' → RepV G' w' (.slc ee) (xs ++ ys) v' →
                (∃ ao m c, v' = .slice ao m c ∧ m ≤ c ∧ (m = c ∨ ∃ (b o : Nat) (cur : Array Value) (et : TypeId × (Nat × Nat)), ao = some ⟨b, o, none⟩ ∧ G' b = .room F.m (o + m * ee.size) ∧ F.B ≤ b ∧ w'.heap[b]? = some (.cells cur et.1 et.2) ∧ RoomSz cur et.2 (o + c * ee.size))) →
                (∀ b, b < w.heap.size → tb ≠ some b → w'.heap[b]? = w.heap[b]? ∧ G' b = g.G b) → (∀ k, roomOf (v', ee.size) = some k → tb = some k) →
                (∀ id n fz u, lookO (hw ++ s.heap) id = some (.box n fz u) → Real g1 id u → tb ≠ some (g1.ι id n)) → (∀ T m, lookO (hw ++ s.heap) T = some (.tok m) → ∀ b, roomOf (g1.ov T) = some b → tb ≠ some b) → Stp F g.G w G' w' →
                Shown P N F s a w o { val := .lst (.tip (tokId d) n) ee (xs ++ ys), hw := (tokId d, .tok n) :: hw, rd := tokId d :: rd } := by
              intro G' w' v' tb hrun hadv hrep htok hkeep hsub hfree hrooms hfwd
              let g2 : Gs := ⟨G', g1.ι, fun T' => if T' = tokId d then (v', ee.size) else g1.ov T', g1.yl⟩
              have hx2 : Ext (hw ++ s.heap) g1 ((tokId d, .tok n) :: (hw ++ s.heap)) g2 := ext_tok (s := { s with heap := hw ++ s.heap }) rfl hn1 G' (v', ee.size)
              have hadv1 : Adv g1.G w G' w' := by rw [hG1]; exact hadv
              have hh2 : HeapRel P ((tokId d, .tok n) :: (hw ++ s.heap)) g2 w' F := by
                refine hh1.addTok tb (fun b hb hne => by rw [hG1]; exact hkeep b hb hne) rfl (fun T' hne => by simp only [g2]; rw [if_neg hne]) ?_ (fun k hk => hsub k (by simpa [g2] using hk)) hfree (fun T' m hl _ b hb => hrooms T' m hl b hb) hx2 hadv1
                obtain ⟨ao', m, c', q1, q2, q3⟩ := htok
                refine ⟨ao', m, c', by simpa [g2] using q1, q2, ?_⟩
                rcases q3 with q3 | ⟨b, o1, cur, et, q4, q5, q6, q7, q8⟩
                · exact .inl q3
                · exact .inr ⟨b, o1, cur, et, q4, by simpa [g2] using q5, q6, q7, by simpa [g2] using q8⟩
              have hxx : Ext s.heap g ((tokId d, .tok n) :: (hw ++ s.heap)) g2 := by
                exact hx1.trans hx2
              refine .value (hex v' w' hrun) ⟨g2, ?_⟩
              refine hinv.app (e := { val := .lst (.tip (tokId d) n) ee (xs ++ ys), hw := (tokId d, .tok n) :: hw, rd := tokId d :: rd }) (by rw [hdst]; exact hd) hxx ?_ hh2 hfwd
              exact SRel.of0 ⟨hrep, n, by simp [lookO_cons], Nat.le_refl _, fun _ => by simp [g2]⟩
            have hlt1 := hh1.lt
            rw [e1, e2] at fin
            by_cases hm0 : ys.length = 0
            · -- nothing is appended
              have hys0 : ys = [] := List.eq_nil_of_length_eq_zero hm0
              subst hys0
              refine fin g.G w (.slice ao xs.length c) (roomOf (.slice ao xs.length c, ee.size)) (run_append_none w t o.type et i hu hi ao xs.length c hc ao2 c2) (Adv.refl _ _) (by simpa using hrx) ?_ (fun _ _ _ => ⟨rfl, rfl⟩) (fun k hk => hk) ?_ ?_ (Stp.refl _ _ _)
              · refine ⟨ao, xs.length, c, rfl, hc, ?_⟩
                rcases hroom with h | ⟨b, o1, cur, et', q4, q5, q6, q7, q8, q9, q10⟩
                · exact .inl h.symm
                · exact .inr ⟨b, o1, cur, et', q4, q5, q6, q7, q8⟩
              · intro id n' fz u hl hreal e0
                obtain ⟨ad, m, c', r1, r2, r3⟩ := roomOf_lt e0
                cases r1
                rcases hroom with h | ⟨b, o1, cur, et', q4, q5, q6, q7, q8, q9, q10⟩
                · omega
                · cases q4
                  exact q10 id n' fz u hl hreal r3.symm
              · intro T' m' hl b' hb' e0
                obtain ⟨ad, m, c', r1, r2, r3⟩ := roomOf_lt e0
                cases r1
                rcases hroom with h | ⟨b, o1, cur, et', q4, q5, q6, q7, q8, q9, q10⟩
                · omega
                · cases q4
                  exact q9 T' m' hl (by rw [hb']; exact congrArg some r3.symm)
            · cases ao2 with
              | none => simp only at hrow2; omega
              | some a2 =>
                obtain ⟨b2, o2, spot2⟩ := a2
                obtain ⟨hspot2, dss, hds, hdcells⟩ := hrow2
                have hspot2 : spot2 = none := hspot2.resolve_right (by omega)
                subst hspot2
                have hdl : dss.flatten.length = ys.length * ee.size := by rw [flatten_length_const ee.size dss hds.sizes, ← hds.length]
                have hdone : ∀ u ∈ dss.flatten, u.oneCell' = true := by
                  intro u hu0
                  rw [List.mem_flatten] at hu0
                  obtain ⟨cc, hcc, huu⟩ := hu0
                  exact hds.right (Q := fun c => ∀ v ∈ c, v.oneCell' = true) (fun p q hpq => Rep.one ee p q hpq) cc hcc u huu
                have hdc : ∀ j v, dss.flatten[j]? = some v → w.cell? ((⟨b2, o2, none⟩ : Addr).add j) = some v := fun j v hj => by rw [Addr.add_lit]; exact (hdcells j v hj).1
                by_cases hfit : xs.length + ys.length ≤ c
                · -- there is room
                  rcases hroom with h | ⟨b, o1, cur, et', q4, q5, q6, q7, q8, q9, q10⟩
                  · omega
                  · subst q4
                    obtain ⟨_, css, hcs, hccells⟩ := hrow
                    have hcl : css.flatten.length = xs.length * ee.size := by rw [flatten_length_const ee.size css hcs.sizes, ← hcs.length]
                    have hle : (xs.length + ys.length) * ee.size ≤ c * ee.size := Nat.mul_le_mul_right _ hfit
                    rw [Nat.add_mul] at hle
                    have hb : b < w.heap.size := (Array.getElem?_eq_some_iff.1 q7).1
                    have hcsz : o1 + c * ee.size ≤ cur.size := q8.1
                    have hcurl : cur.toList.length = cur.size := by simp
                    have hcur : (cur.toList.drop o1).take css.flatten.length = css.flatten := by
                      apply List.ext_getElem?
                      intro j
                      rw [List.getElem?_take]
                      by_cases hj : j < css.flatten.length
                      · rw [if_pos hj]
                        have h1 := (hccells j _ (List.getElem?_eq_getElem hj)).1
                        unfold Cell at h1
                        rw [cell_of_row w b _ cur et'.1 et'.2 q7, ← Array.getElem?_toList] at h1
                        rw [List.getElem?_drop, h1, List.getElem?_eq_getElem hj]
                      · rw [if_neg hj, List.getElem?_eq_none (by omega)]
                    have hpre : (cur.toList.take (o1 + xs.length * ee.size)) = cur.toList.take o1 ++ css.flatten := by
                      rw [List.take_add, ← hcl, hcur]
                    have hrun := run_append_in (P := P) w t o.type et et' i hu hi b o1 xs.length c cur q7 ⟨b2, o2, none⟩ ys.length c2 dss.flatten (by rw [hdl, hisz]) hdc hdone hfit (by rw [hisz]; exact q8)
                    rw [hisz] at hrun
                    generalize hnew : (cur.toList.take (o1 + xs.length * ee.size) ++ dss.flatten ++ cur.toList.drop (o1 + xs.length * ee.size + dss.flatten.length)).toArray = new at hrun
                    have hnewl : new.toList = cur.toList.take o1 ++ (css.flatten ++ dss.flatten ++ cur.toList.drop (o1 + xs.length * ee.size + dss.flatten.length)) := by rw [← hnew, hpre]; simp [List.append_assoc]
                    have htl : (cur.toList.take o1).length = o1 := by rw [List.length_take]; omega
                    let G' : Gh := fun b' => if b' = b then .room F.m (o1 + (xs.length + ys.length) * ee.size) else g.G b'
                    have hblk : (w.setRow b new).heap[b]? = some (.cells new et'.1 et'.2) := setRow_heap w b cur new et'.1 et'.2 q7
                    have hG'b : G' b = .room F.m (o1 + (xs.length + ys.length) * ee.size) := by simp [G']
                    have hadv : Adv g.G w G' (w.setRow b new) := ⟨fun b' o' v hcell hs => by
                      by_cases hb' : b' = b
                      · subst hb'
                        unfold Gh.st at hs
                        rw [q5] at hs
                        simp only at hs
                        refine ⟨?_, st_room hG'b (by rw [Nat.add_mul]; omega)⟩
                        unfold Cell at hcell ⊢
                        rw [cell_of_row w b' o' cur et'.1 et'.2 q7] at hcell
                        have hnl2 : new.toList = cur.toList.take (o1 + xs.length * ee.size) ++ (dss.flatten ++ cur.toList.drop (o1 + xs.length * ee.size + dss.flatten.length)) := by rw [← hnew]; simp [List.append_assoc]
                        rw [cell_of_row _ b' o' new et'.1 et'.2 hblk, ← Array.getElem?_toList, hnl2, List.getElem?_append_left (by rw [List.length_take]; omega), List.getElem?_take, if_pos (by omega), Array.getElem?_toList]
                        exact hcell
                      · refine ⟨by rw [Cell.of_block (setRow_other w b b' new hb')]; exact hcell, ?_⟩
                        unfold Gh.st at *
                        simp only [G']
                        rw [if_neg hb']; exact hs⟩
                    have heach : Each (Rep G' (w.setRow b new) ee) (xs ++ ys) (css ++ dss) := (hcs.mono fun p q hpq => Rep.adv hadv ee p q hpq).append (hds.mono fun p q hpq => Rep.adv hadv ee p q hpq)
                    have hrep := repV_at (k := o1) hblk heach (by rw [List.flatten_append, hnewl, List.drop_left' htl]; exact List.prefix_append _ _)
                      (fun j hj => st_room hG'b (by rw [List.flatten_append, List.length_append, hcl, hdl] at hj; rw [Nat.add_mul]; omega)) (cap := c) (by rw [List.length_append]; exact hfit)
                    rw [List.length_append] at hrep
                    refine fin G' (w.setRow b new) (.slice (some ⟨b, o1, none⟩) (xs.length + ys.length) c) (some b) hrun hadv hrep ⟨_, _, _, rfl, hfit, .inr ⟨b, o1, new, et', rfl, hG'b, q6, hblk, ?_⟩⟩ ?_ ?_ ?_ ?_ ?_
                    · refine ⟨?_, q8.2⟩
                      have hs := congrArg List.length hnewl
                      simp only [Array.length_toList, List.length_append, List.length_drop, hcl, hdl, htl] at hs
                      have := q8.1
                      omega
                    · intro b' hb' hne
                      have hne' : b' ≠ b := fun e0 => hne (by rw [e0])
                      exact ⟨setRow_other w b b' new hne', by simp only [G']; rw [if_neg hne']⟩
                    · intro k hk
                      obtain ⟨ad, m, c', r1, r2, r3⟩ := roomOf_lt hk
                      cases r1
                      exact congrArg some r3
                    · intro id n' fz u hl hreal e0
                      exact q10 id n' fz u hl hreal (Option.some.inj e0).symm
                    · intro T' m' hl b' hb' e0
                      exact q9 T' m' hl (by rw [hb', e0])
                    · refine ⟨⟨rfl, rfl, rfl, by simp, fun k hk hp => ?_, hadv⟩, fun hl k hk => ?_, fun k ob h5 h6 => ?_⟩
                      · have hne : k ≠ b := fun e0 => by rw [e0, q5] at hp; exact hp rfl
                        exact ⟨setRow_other w b k new hne, by simp only [G']; rw [if_neg hne]⟩
                      · simp only [G']
                        by_cases e0 : k = b
                        · rw [if_pos e0]; exact hinv.mt
                        · rw [if_neg e0]; exact hl k (by simpa using hk)
                      · by_cases e0 : k = b
                        · rw [e0, q7] at h5; cases h5; cases h6
                        · exact ⟨by rw [setRow_other w b k new e0]; exact h5, by simp only [G']; rw [if_neg e0]⟩
                · -- a new block
                  have hge := grownCap_ge w (xs.length + ys.length) c et
                  have hfits : Builtin.nextslicecap (xs.length + ys.length) c * i.bytes ≤ 281474976710656 := growslice_fits (by omega) (by rw [hiby]; exact hbytes)
                  obtain ⟨css, hcs, hcl, hrun⟩ : ∃ css : List (List Value), Each (Rep g.G w ee) xs css ∧ css.flatten.length = xs.length * ee.size ∧
                      (Builtin.append_ #[t, t] o.type #[.slice ao xs.length c, .slice (some ⟨b2, o2, none⟩) ys.length c2]).run P w =
                        .ok (.slice (some ⟨w.heap.size, 0, none⟩) (xs.length + ys.length) (grownCap w (xs.length + ys.length) c et))
                          (w.drew.alloc (.cells (css.flatten.toArray ++ dss.flatten.toArray ++ Builtin.zeroCells (valOf ee (zeroV ee)).cells (grownCap w (xs.length + ys.length) c et - (xs.length + ys.length))) et)) := by
                    cases ao with
                    | none =>
                      simp only at hrow
                      subst hrow
                      have hx0 : xs = [] := List.eq_nil_of_length_eq_zero (by omega)
                      subst hx0
                      have hr := run_append_nil (P := P) w t o.type et i _ hu hi hiz ⟨b2, o2, none⟩ ys.length c2 dss.flatten (by rw [hdl, hisz]) hdc (by omega) (by omega) (by
                        have hb2 := hbytes
                        simp only [List.length_nil, Nat.zero_add] at hb2
                        rw [hiby]; omega)
                      refine ⟨[], trivial, by simp, ?_⟩
                      simpa using hr
                    | some ad =>
                      obtain ⟨hspot, css, hcs, hccells⟩ := hrow
                      have hcl : css.flatten.length = xs.length * ee.size := by rw [flatten_length_const ee.size css hcs.sizes, ← hcs.length]
                      have hr := run_append_grow (P := P) w t o.type et i _ hu hi hiz ad xs.length c css.flatten (by rw [hcl, hisz]) (fun j v hj => by
                          have hlt : j < css.flatten.length := (List.getElem?_eq_some_iff.1 hj).1
                          have hsp : ad.spot = none := hspot.resolve_right (fun h0 => by
                            have : xs.length = 0 := by omega
                            rw [hcl, this] at hlt
                            omega)
                          obtain ⟨b1, o1, spot1⟩ := ad
                          simp only at hsp
                          subst hsp
                          rw [Addr.add_lit]; exact (hccells j v hj).1)
                        ⟨b2, o2, none⟩ ys.length c2 dss.flatten (by rw [hdl, hisz]) hdc (by omega) (by omega) hfits
                      exact ⟨css, hcs, hcl, hr⟩
                  generalize hcap : grownCap w (xs.length + ys.length) c et = cap at hrun hge
                  generalize hnew : css.flatten.toArray ++ dss.flatten.toArray ++ Builtin.zeroCells (valOf ee (zeroV ee)).cells (cap - (xs.length + ys.length)) = new at hrun
                  have hnewl : new.toList = css.flatten ++ dss.flatten ++ (Builtin.zeroCells (valOf ee (zeroV ee)).cells (cap - (xs.length + ys.length))).toList := by rw [← hnew]; simp
                  have hnsz : new.size = cap * ee.size := by
                    rw [← hnew]
                    simp only [Array.size_append, List.size_toArray, size_zeroCells, hzs, hcl, hdl, ← Nat.add_mul]
                    congr 1
                    omega
                  let G' : Gh := fun b' => if b' = w.heap.size then .room F.m ((xs.length + ys.length) * ee.size) else g.G b'
                  have hblk : (w.drew.alloc (.cells new et)).heap[w.heap.size]? = some (.cells new et (0, 0)) := heap_alloc_new w.drew _
                  have hG'b : G' w.heap.size = .room F.m ((xs.length + ys.length) * ee.size) := by simp [G']
                  have hold : ∀ b', b' < w.heap.size → (w.drew.alloc (.cells new et)).heap[b']? = w.heap[b']? ∧ G' b' = g.G b' := fun b' hb' => ⟨heap_alloc (w := w.drew) hb', by simp only [G']; rw [if_neg (by omega)]⟩
                  have hadv : Adv g.G w G' (w.drew.alloc (.cells new et)) := ⟨fun b' o' v hcell hs => by
                    have hb := Cell.lt hcell
                    refine ⟨by rw [Cell.of_block (hold b' hb).1]; exact hcell, ?_⟩
                    unfold Gh.st at *
                    rw [(hold b' hb).2]; exact hs⟩
                  have heach : Each (Rep G' (w.drew.alloc (.cells new et)) ee) (xs ++ ys) (css ++ dss) := (hcs.mono fun p q hpq => Rep.adv hadv ee p q hpq).append (hds.mono fun p q hpq => Rep.adv hadv ee p q hpq)
                  have hrep := repV_block hblk heach (by rw [List.flatten_append, hnewl]; exact List.prefix_append _ _)
                    (fun j hj => st_room hG'b (by rw [List.flatten_append, List.length_append, hcl, hdl] at hj; rw [Nat.add_mul]; exact hj)) (cap := cap) (by rw [List.length_append]; exact hge)
                  rw [List.length_append] at hrep
                  refine fin G' (w.drew.alloc (.cells new et)) (.slice (some ⟨w.heap.size, 0, none⟩) (xs.length + ys.length) cap) (some w.heap.size) hrun hadv hrep ⟨_, _, _, rfl, hge, .inr ⟨w.heap.size, 0, new, (et, (0, 0)), rfl, by rw [Nat.zero_add]; exact hG'b, hinv.hB, hblk, by rw [hnsz, Nat.zero_add]; exact Nat.le_refl _, fun j _ hj => by simp at hj⟩⟩
                    (fun b' hb' _ => hold b' hb') ?_ ?_ ?_ ?_
                  · intro k hk
                    obtain ⟨ad, m, c', r1, r2, r3⟩ := roomOf_lt hk
                    cases r1
                    exact congrArg some r3
                  · intro id n' fz u hl hreal e0
                    have := hlt1.1 id n' fz u hl hreal
                    have := Option.some.inj e0
                    omega
                  · intro T' m' hl b' hb' e0
                    have := hlt1.2 T' m' hl b' hb'
                    have := Option.some.inj e0
                    omega
                  · refine ⟨⟨rfl, rfl, rfl, (show w.heap.size ≤ (w.heap.push _).size by simp), fun k hk _ => hold k hk, hadv⟩, fun hl k hk => ?_, NC.of_blocks (fun k hk => (hold k hk).1) (fun k hk => (hold k hk).2)⟩
                    by_cases e0 : k = w.heap.size
                    · rw [e0, hG'b]; exact hinv.mt
                    · have hk' : k < w.heap.size := by
                        have : k < (w.heap.push (Obj.cells new et)).size := hk
                        simp at this
                        omega
                      rw [(hold k hk').2]; exact hl k hk'
        · exact he.elim
      · exact he.elim
    · exact he.elim
  · exact he.elim

include hd in
/-- An append that makes a slice of the run's own. -/
theorem shown_appendOwn {C : Ctx} (T : Types P C.tab) {x y : Operand} {t t' : TypeId} (hop : o.op = .call { callee := .builtin .append, args := #[x, y], argTypes := #[t, t'] }) {sx sy : S} (hx : SRel P s.heap g w sx (a.eval x)) (hy : SRel P s.heap g w sy (a.eval y)) {e : Eff}
    (he : (appendOwn C s o.dst [t, t'] [sx, sy]).is e) : Shown P N F s a w o e := by
  unfold appendOwn at he
  split at he
  · rename_i d t1 t2 e' y1 hdst hts hxs0
    cases hts
    cases hxs0
    rw [hdst] at hd
    split at he
    · rename_i te hte
      split at he
      · rename_i ee hty
        split at he
        · rename_i ys n hys hn
          cases hb : Nat.beq t t' && (e'.beq ee && (Nat.ble 1 ee.size && Nat.ble 1 te.bytes)) with
          | false => rw [hb] at he; exact he.elim
          | true =>
            rw [hb, cond_true] at he
            obtain ⟨hpre, rfl⟩ := he
            simp only [Bool.and_eq_true] at hb
            obtain rfl := Nat.eq_of_beq_eq_true hb.1
            obtain rfl := Ty.eq_of_beq hb.2.1
            have hbytes : ys.length * te.bytes ≤ 140737488355328 := by simpa using hpre
            have hbpos : 0 < te.bytes := Nat.le_of_ble_eq_true hb.2.2.2
            have hsmall : ys.length ≤ 140737488355328 := Nat.le_trans (Nat.le_mul_of_pos_right _ hbpos) hbytes
            obtain ⟨et, tee, i, hu, hte2, hty2, hi, hisz, hiz, hiby⟩ := T.slc hte hty
            have hzs : (valOf e' (zeroV e')).cells.size = e'.size := by
              rw [(Rep.zero g.G w e').cells]; simpa using Rep.size _ _ _ (Rep.zero g.G w e')
            obtain ⟨hrx, aox, cx, ex⟩ := hx
            have hry := hy.asD hys
            obtain ⟨ao0, c0, e1, hc, hrow⟩ := RepV.slc hrx
            rw [ex] at e1
            have ex0 : a.eval x = .slice aox 0 0 := by
              rw [ex]
              injection e1 with q1 q2 q3
              simp only [List.length_nil] at q2
              rw [q2]
            obtain ⟨ao2, c2, e2, hc2, hrow2⟩ := RepV.slc hry
            have hex : ∀ v' w', (Builtin.append_ #[t, t] o.type #[a.eval x, a.eval y]).run P w = .ok v' w' → (execOp a.eval o).run P w = .ok (.value v') w' := by
              intro v' w' hr
              unfold execOp
              rw [hop]
              simp only [resolve, invoke, builtin, List.map_toArray, List.map_cons, List.map_nil, Sem.run_bind, Sem.run_pure, Result.andThen_ok, hr]
            rw [ex0, e2] at hex
            by_cases hm0 : ys.length = 0
            · -- nothing is appended
              have hys0 : ys = [] := List.eq_nil_of_length_eq_zero hm0
              subst hys0
              have hrun := run_append_none (P := P) w t o.type et i hu hi aox 0 0 (Nat.le_refl _) ao2 c2
              obtain ⟨g', hg'⟩ : ∃ g' : Gs, g' = ⟨g.G, g.ι, fun T => if T = d then (.slice aox 0 0, 0) else g.ov T, g.yl⟩ := ⟨_, rfl⟩
              have hov : (g'.ov d).1 = .slice aox 0 0 := by simp [hg']
              have hG : g'.G = g.G := by rw [hg']
              have hι : g'.ι = g.ι := by rw [hg']
              have hovo : ∀ T, T ≠ d → g'.ov T = g.ov T := fun T h => by rw [hg']; exact if_neg h
              have hyl : g'.yl = g.yl := by rw [hg']
              clear hg'
              have ha : Adv g.G w g'.G w := by rw [hG]; exact Adv.refl _ _
              have hnt : ∀ m, lookO s.heap d ≠ some (.tok m) := fun m hl => by simp [nextBox, hl] at hn
              have hxx : Ext s.heap g ((d, .box n false (.row e' [])) :: s.heap) g' := by
                refine ⟨fun id m fz c' hl => ?_, fun T m hl => ⟨m, ?_, Nat.le_refl _, fun _ => hovo T (fun h => hnt m (by rw [← h]; exact hl))⟩, hyl⟩
                · by_cases hid : d = id
                  · subst hid
                    have hnm : n = m + 1 := by simp [nextBox, hl] at hn; omega
                    refine ⟨n, false, _, by rw [lookO_cons, if_pos rfl], by omega, fun k hk => by rw [hι], fun h => by omega⟩
                  · refine ⟨m, fz, c', by rw [lookO_cons, if_neg hid]; exact hl, Nat.le_refl _, fun k hk => by rw [hι], fun _ => ⟨hovo id (Ne.symm hid), rfl⟩⟩
                · rw [lookO_cons, if_neg (fun h => hnt m (by rw [h]; exact hl))]; exact hl
              refine .value (hex _ _ hrun) ⟨g', ?_⟩
              rw [hdst]
              refine hinv.app (d := some d) (e := { val := .vec d n e', hw := [(d, .box n false (.row e' []))], rd := [d] }) hd hxx (SRel.of0 (s := .vec d n e') ⟨n, false, .row e' [], by simp [lookO_cons], Nat.le_refl _, fun _ => ⟨⟨_, rfl⟩, hov.symm⟩⟩) ?_ (by rw [hG]; exact Stp.refl _ _ _)
              refine hinv.heap.addBox (g' := g') (id := d) (n := n) (fz := false) none (fun b hb _ => ⟨rfl, by rw [hG]⟩) (fun id' h => hovo id' h) (fun id' n' hne => by rw [hι]) ⟨aox, 0, hov, Nat.le_refl _, .inl rfl⟩ ?_ (fun _ _ _ _ _ h => by cases h) hxx ha
              intro id' n' fz' c' hl _ hr'
              refine ⟨fun h => (by cases h), fun hr2 => ?_⟩
              rcases hr2 with hr2 | ⟨ao', m', C', hr2, hne⟩
              · cases hr2
              · rw [hov] at hr2; cases hr2; exact absurd rfl hne
            · cases ao2 with
              | none => simp only at hrow2; omega
              | some a2 =>
                obtain ⟨b2, o2, spot2⟩ := a2
                obtain ⟨hspot2, dss, hds, hdcells⟩ := hrow2
                have hspot2 : spot2 = none := hspot2.resolve_right (by omega)
                subst hspot2
                have hdl : dss.flatten.length = ys.length * e'.size := by rw [flatten_length_const e'.size dss hds.sizes, ← hds.length]
                have hdc : ∀ j v, dss.flatten[j]? = some v → w.cell? ((⟨b2, o2, none⟩ : Addr).add j) = some v := fun j v hj => by rw [Addr.add_lit]; exact (hdcells j v hj).1
                have hge := grownCap_ge w (0 + ys.length) 0 et
                obtain ⟨hrun⟩ : Nonempty ((Builtin.append_ #[t, t] o.type #[.slice aox 0 0, .slice (some ⟨b2, o2, none⟩) ys.length c2]).run P w =
                    .ok (.slice (some ⟨w.heap.size, 0, none⟩) (0 + ys.length) (grownCap w (0 + ys.length) 0 et))
                      (w.drew.alloc (.cells (#[] ++ dss.flatten.toArray ++ Builtin.zeroCells (valOf e' (zeroV e')).cells (grownCap w (0 + ys.length) 0 et - (0 + ys.length))) et))) := by
                  cases aox with
                  | none =>
                    have hr := run_append_nil (P := P) w t o.type et i _ hu hi hiz ⟨b2, o2, none⟩ ys.length c2 dss.flatten (by rw [hdl, hisz]) hdc (by omega) (by omega) (by
                      rw [hiby]; omega)
                    exact ⟨by simpa using hr⟩
                  | some ad =>
                    have hfits : Builtin.nextslicecap (0 + ys.length) 0 * i.bytes ≤ 281474976710656 := growslice_fits (by omega) (by rw [hiby]; simpa using hbytes)
                    have hr := run_append_grow (P := P) w t o.type et i _ hu hi hiz ad 0 0 [] (by simp) (fun j v hj => by simp at hj)
                      ⟨b2, o2, none⟩ ys.length c2 dss.flatten (by rw [hdl, hisz]) hdc (by omega) (by omega) hfits
                    exact ⟨by simpa using hr⟩
                generalize hcap : grownCap w (0 + ys.length) 0 et = cap at hrun hge
                generalize hnew : #[] ++ dss.flatten.toArray ++ Builtin.zeroCells (valOf e' (zeroV e')).cells (cap - (0 + ys.length)) = new at hrun
                have hnewl : new.toList = dss.flatten ++ (Builtin.zeroCells (valOf e' (zeroV e')).cells (cap - (0 + ys.length))).toList := by rw [← hnew]; simp
                have hnsz : new.size = cap * e'.size := by
                  rw [← hnew]
                  simp only [Array.size_append, List.size_toArray, size_zeroCells, hzs, hdl, List.length_nil, Nat.zero_add]
                  rw [← Nat.add_mul]
                  congr 1
                  omega
                rw [Nat.zero_add] at hrun hge
                obtain ⟨g', hg'⟩ := hinv.drew.newBox (fz0 := false) (et := et) (cs := new) (c := .row e' ys) (u := .vec d n e') (v := .slice (some ⟨w.heap.size, 0, none⟩) ys.length cap) (ov := .slice (some ⟨w.heap.size, 0, none⟩) ys.length cap) (rd := [d]) hd hn fun g' h1 h2 h3 ha hxx => by
                  refine ⟨?_, SRel.of0 (s := .vec d n e') ⟨n, false, .row e' ys, by simp [lookO_cons], Nat.le_refl _, fun _ => ⟨⟨_, rfl⟩, h2.symm⟩⟩⟩
                  show OwnRel g'.G _ F.m F.B false (g'.ι d n) e' ys (g'.ov d).1
                  rw [h1, h2]
                  have ha0 : Adv g.G w g'.G (w.drew.alloc (.cells new et)) := (⟨fun _ _ _ hc hs => ⟨hc, hs⟩⟩ : Adv g.G w g.G w.drew).trans ha
                  exact ⟨_, cap, rfl, hge, .inr ⟨rfl, hinv.hB, new, et, dss, _, heap_alloc_new w.drew _, hnewl, hds.mono fun p q hpq => Rep.adv ha0 e' p q hpq, hnsz, h3⟩⟩
                exact .value (hex _ _ hrun) ⟨g', by rw [hdst]; exact hg'⟩
        · exact he.elim
      · exact he.elim
    · exact he.elim
  · exact he.elim
end
end Go.Vi

/- Tails of slices: what keeps the right; what is the run's own; items that are made zero. -/
namespace Go.Vi
open Go.RowKit (Below)

section
variable {P : Program} {C : Ctx} (T : Types P C.tab) {N : Nat} {F : Fr} {g : Gs} {s : St} {a : Act} {w : World} (hinv : Inv P N F g s a w) {o : Oper} (hd : dstLt N F o.dst)
include hinv T

omit T in
/-- A slice from a place on. -/
theorem run_tail (T : Types P C.tab) {t : TypeId} {x lo : Operand} (hop : o.op = .slice t x (some lo) none none) {te : TE} (hte : C.te t = some te) {e : Ty} (hty : te.ty = .slc e) {k : IntKind} {l : Int} (hlo : s.ev lo = .dat (.int k) l) {ao : Option Addr} {n c : Nat} (hv : a.eval x = .slice ao n c)
    (h0 : 0 ≤ l) (h1 : l ≤ (n : Int)) (hnc : n ≤ c) : (execOp a.eval o).run P w = .ok (.value (subVal (.slice ao n c) l.toNat e.size)) w := by
  obtain ⟨et, tee, inf, k1, k2, k3, k4, k5, _⟩ := T.slc hte hty
  have hb1 : boundS s (some lo) = some (some l) := by simp only [boundS, hlo]
  have hb := run_bounds (P := P) (w := w) true n c (boundS_rel hinv hb1) (boundS_rel hinv (show boundS s none = some none from rfl)) (boundS_rel hinv (show boundS s none = some none from rfl)) (fun _ => rfl) h0 h1 (by simp; omega) (Int.le_refl _)
  have hex : execOp a.eval o = (do pure (.value (← Instr.sliceAt t (a.eval x) ((some lo).map a.eval) ((none : Option Operand).map a.eval) ((none : Option Operand).map a.eval)))) := by unfold execOp; rw [hop]
  rw [hex, hv]
  simp only [Instr.sliceAt, Instr.slice, Sem.run_bind, run_underlying k1, Result.andThen_ok, hb, sizeOf, typeInfo, run_program, k4, Sem.run_pure, k5, Option.getD_some, Option.getD_none, Int.toNat_natCast, subVal]

include hd
theorem shown_tail {t : TypeId} {x : Operand} {lo hi mx : Option Operand} (hop : o.op = .slice t x lo hi mx) {e : Eff} (he : (tailS C s o.dst t (s.ev x) lo hi mx).is e) : Shown P N F s a w o e := by
  have hx := hinv.ev x
  generalize hsx : s.ev x = sx at *
  unfold tailS at he
  split at he
  · rename_i d lo1 hdst
    split at he
    · rename_i k l te hlo hte
      rw [hdst] at hd
      unfold tailI at he
      split at he
      · rename_i Tn n ee xs
        split at he
        · rename_i hw rd k' htip hn
          cases hb : te.ty.beq (.slc ee) && (lookO hw (tokId d)).isNone with
          | false => rw [hb] at he; exact he.elim
          | true =>
            rw [hb, cond_true] at he
            obtain ⟨hp, rfl⟩ := he
            simp only [Bool.and_eq_true, decide_eq_true_eq] at hb hp
            have hty := Ty.eq_of_beq hb.1
            have hdn : lookO hw (tokId d) = none := by simpa using hb.2
            have hrx : RepV g.G w (.slc ee) xs (a.eval x) := hx.1
            obtain ⟨ao, c, e1, hc, hrow⟩ := RepV.slc hrx
            have hrun := run_tail hinv T hop hte hty hlo e1 hp.1 hp.2 hc
            have hx' := hx
            rw [e1] at hx' hrx
            have hxs : asD (.slc ee) (.lst (.tip Tn n) ee xs) = some xs := by
              show castD (.slc ee) (.slc ee) xs = some xs
              unfold castD
              rw [dif_pos (by rw [← hty]; rw [hty] at hb; exact hty ▸ hb.1)]
            obtain ⟨g1, hh1, hx1, hG1, hι1, hlk, hroom⟩ := tip_rel hinv htip hxs hx'
            have hl1 : lookO (hw ++ s.heap) (tokId d) = lookO s.heap (tokId d) := by rw [lookO_append_some, hdn, Option.none_or]
            have hn1 : nextTok { s with heap := hw ++ s.heap } (tokId d) = some k' := by
              unfold nextTok at hn ⊢
              simp only [hl1]
              exact hn
            have hrep : RepV g.G w (.slc ee) (xs.drop l.toNat) (subVal (.slice ao xs.length c) l.toNat ee.size) := by
              have := RepV.sub hrx (l := l.toNat) (k := xs.length) (m := c) (by omega) (Nat.le_refl _) hc (Nat.le_refl _)
              rw [show Vi.sub xs l.toNat xs.length = xs.drop l.toNat by simp [Vi.sub]] at this
              exact this
            obtain ⟨v', hv'⟩ : ∃ v', v' = subVal (.slice ao xs.length c) l.toNat ee.size := ⟨_, rfl⟩
            rw [← hv'] at hrep hrun
            let g2 : Gs := ⟨g.G, g1.ι, fun T' => if T' = tokId d then (v', ee.size) else g1.ov T', g1.yl⟩
            have hx2 : Ext (hw ++ s.heap) g1 ((tokId d, .tok k') :: (hw ++ s.heap)) g2 := ext_tok (s := { s with heap := hw ++ s.heap }) rfl hn1 g.G (v', ee.size)
            have hsub : ∀ b, roomOf (v', ee.size) = some b → ∃ o1 : Nat, ao = some ⟨b, o1, none⟩ ∧ c ≠ xs.length := by
              intro b hb
              rw [hv', subVal, roomOf] at hb
              simp only at hb
              by_cases hcl : c = l.toNat
              · rw [if_pos hcl] at hb
                cases ao with
                | none => cases hb
                | some ad =>
                  simp only at hb
                  rw [if_neg (by omega)] at hb
                  cases hb
              · rw [if_neg hcl] at hb
                cases ao with
                | none => cases hb
                | some ad =>
                  simp only [Option.map_some] at hb
                  split at hb
                  · rename_i hlt
                    have hb := Option.some.inj hb
                    rcases hroom with h | ⟨b', o1, cur, et', q4, _⟩
                    · omega
                    · cases q4
                      rw [Addr.add_lit] at hb
                      simp only at hb
                      exact ⟨o1, by rw [hb], by omega⟩
                  · cases hb
            have hh2 : HeapRel P ((tokId d, .tok k') :: (hw ++ s.heap)) g2 w F := by
              refine hh1.addTok (roomOf (v', ee.size)) (fun b _ _ => ⟨rfl, by rw [hG1]⟩) rfl (fun T' hne => by simp only [g2]; rw [if_neg hne]) ?_ (fun k hk => by simpa [g2] using hk) ?_ ?_ hx2 (by rw [hG1]; exact Adv.refl _ _)
              · refine ⟨if c = l.toNat then ao else ao.map (·.add (l.toNat * ee.size)), xs.length - l.toNat, c - l.toNat, by simp [g2, hv', subVal], by omega, ?_⟩
                by_cases hcl : c = xs.length
                · exact .inl (by omega)
                · rcases hroom with h | ⟨b, o1, cur, et', q4, q5, q6, q7, q8, q9, q10⟩
                  · exact absurd h hcl
                  · refine .inr ⟨b, o1 + l.toNat * ee.size, cur, et', ?_, ?_, q6, q7, ?_⟩
                    · rw [if_neg (by omega), q4, Option.map_some, Addr.add_lit]
                    · show g.G b = .room F.m (o1 + l.toNat * ee.size + (xs.length - l.toNat) * (g2.ov (tokId d)).2)
                      have e2 : (g2.ov (tokId d)).2 = ee.size := by simp [g2]
                      have e3 : l.toNat + (xs.length - l.toNat) = xs.length := by omega
                      rw [e2, q5, Nat.add_assoc, ← Nat.add_mul, e3]
                    · have e2 : (g2.ov (tokId d)).2 = ee.size := by simp [g2]
                      rw [e2]
                      have e3 : l.toNat + (c - l.toNat) = c := by omega
                      have : o1 + l.toNat * ee.size + (c - l.toNat) * ee.size = o1 + c * ee.size := by
                        rw [Nat.add_assoc, ← Nat.add_mul, e3]
                      rw [this]
                      exact q8
              · intro id n' fz u hl hreal e0
                obtain ⟨o1, q, hne⟩ := hsub _ e0
                rcases hroom with h | ⟨b, o2, cur, et', q4, q5, q6, q7, q8, q9, q10⟩
                · exact hne h
                · rw [q4] at q
                  cases q
                  exact q10 id n' fz u hl hreal rfl
              · intro T' m' hl _ b' hb' e0
                obtain ⟨o1, q, hne⟩ := hsub _ e0
                rcases hroom with h | ⟨b, o2, cur, et', q4, q5, q6, q7, q8, q9, q10⟩
                · exact hne h
                · rw [q4] at q
                  cases q
                  exact q9 T' m' hl hb'
            refine .value hrun ⟨g2, ?_⟩
            refine hinv.app (e := { val := .lst (.tip (tokId d) k') ee (xs.drop l.toNat), hw := (tokId d, .tok k') :: hw, rd := tokId d :: rd }) (by rw [hdst]; exact hd) (hx1.trans hx2) ?_ hh2 (Stp.refl _ _ _)
            exact SRel.of0 ⟨hrep, k', by simp [lookO_cons], Nat.le_refl _, fun _ => by simp [g2]⟩
        · exact he.elim
      · rename_i id n ee
        split at he
        · rename_i fz e' xs hbox
          cases hb : te.ty.beq (.slc ee) && e'.beq ee with
          | false => rw [hb] at he; exact he.elim
          | true =>
            rw [hb, cond_true] at he
            obtain ⟨hp, rfl⟩ := he
            simp only [Bool.and_eq_true, decide_eq_true_eq] at hb hp
            have hty := Ty.eq_of_beq hb.1
            obtain rfl := Ty.eq_of_beq hb.2
            obtain ⟨hv, _, ao, Cc, h1, h2, h3⟩ := vec_rel hinv hx hbox
            have hrun := run_tail hinv T hop hte hty hlo h1 hp.1 hp.2 h2
            have hl := box_spec hbox
            refine .value hrun ⟨g, hinv.val (rd := [id]) (by rw [hdst]; exact hd) (SRel.of0 (s := .vsub id n e' l.toNat) ⟨n, fz, _, hl, Nat.le_refl _, fun _ => ⟨⟨_, rfl, by omega⟩, by rw [← hv, h1]⟩⟩)⟩
        · exact he.elim
      · exact he.elim
    · exact he.elim
  · exact he.elim

omit hd in
theorem shown_clear {x : Operand} {t : TypeId} (hop : o.op = .call { callee := .builtin .clear, args := #[x], argTypes := #[t] }) (hdst : o.dst = none) {e : Eff} (he : (clearS C s t (s.ev x)).is e) : Shown P N F s a w o e := by
  have hx := hinv.ev x
  generalize hsx : s.ev x = sx at *
  unfold clearS at he
  split at he
  · rename_i id n ee lo
    split at he
    · rename_i e' xs te hbox hte
      cases hb : te.ty.beq (.slc ee) && e'.beq ee with
      | false => rw [hb] at he; exact he.elim
      | true =>
        rw [hb, cond_true] at he
        obtain ⟨_, rfl⟩ := he
        simp only [Bool.and_eq_true] at hb
        have hty := Ty.eq_of_beq hb.1
        obtain rfl := Ty.eq_of_beq hb.2
        have hl := box_spec hbox
        obtain ⟨m, fz, c, p1, p2, p3⟩ := hx
        rw [hl] at p1
        cases p1
        obtain ⟨⟨k, pk, plo⟩, p4⟩ := p3 rfl
        cases pk
        obtain ⟨ao, Cc, hv, hle, hrow⟩ := row_rel hinv hbox
        obtain ⟨et, tee, inf, k1, k2, k3, k4, k5, k6, _⟩ := T.slc hte hty
        have hcl : (valOf e' (zeroV e')).cells.toList = zeroV e' := by rw [(Rep.zero g.G w e').cells]
        have hzs : (zeroV e').length = e'.size := Rep.size _ _ _ (Rep.zero g.G w e')
        have hex : ∀ v' w', (Builtin.clear_ #[t] o.type #[a.eval x]).run P w = .ok v' w' → (execOp a.eval o).run P w = .ok (.value v') w' := by
          intro v' w' hr
          unfold execOp
          rw [hop]
          simp only [resolve, invoke, builtin, List.map_toArray, List.map_cons, List.map_nil, Sem.run_bind, Sem.run_pure, Result.andThen_ok, hr]
        have happ : ∀ (g' : Gs) (w' : World) (v' : Value), (execOp a.eval o).run P w = .ok (.value v') w' → Inv P N F g' (s.app none { val := .poison, hw := [(id, .box n false (.row e' (xs.take lo ++ List.replicate (xs.length - lo) e'.zero)))], rd := [id] }) (a.put none v') w' →
            Shown P N F s a w o { val := .poison, hw := [(id, .box n false (.row e' (xs.take lo ++ List.replicate (xs.length - lo) e'.zero)))], rd := [id] } := by
          intro g' w' v' hr hi
          exact .value hr ⟨g', by rw [hdst]; exact hi⟩
        have hlen' : (xs.take lo ++ List.replicate (xs.length - lo) e'.zero).length = xs.length := by
          rw [List.length_append, List.length_take, List.length_replicate]; omega
        by_cases hz : xs.length - lo = 0
        · -- nothing is turned
          have hsame : xs.take lo ++ List.replicate (xs.length - lo) e'.zero = xs := by rw [hz, List.replicate_zero, List.append_nil, List.take_of_length_le (by omega)]
          have hr : (Builtin.clear_ #[t] o.type #[a.eval x]).run P w = .ok (.tuple #[]) w := by
            rw [p4, hv, subVal, hz]
            have : ∀ ao', (Builtin.clear_ #[t] o.type #[.slice ao' 0 (Cc - lo)]).run P w = .ok (.tuple #[]) w := by
              intro ao'
              cases ao' <;> simp [Builtin.clear_, run_underlying k1]
            exact this _
          rw [hsame] at happ ⊢
          obtain ⟨hput, hxx⟩ := hinv.heap.put (g' := g) (w' := w) (fz' := false) (c' := .row e' xs) hl none (.inl rfl) (fun b _ _ => ⟨rfl, rfl⟩) rfl rfl rfl rfl (Adv.refl _ _) (fun _ => hinv.heap.box id n false _ hl)
          exact happ g w _ (hex _ _ hr) (hinv.app (d := none) (e := { val := .poison, hw := [(id, .box n false (.row e' xs))], rd := [id] }) trivial hxx (SRel.of0 (s := .poison) trivial) hput (Stp.refl _ _ _))
        · rcases hrow with hrow | ⟨rfl, hB, cs, et', css, rest, q1, q2, q3, q4, q5⟩
          · omega
          rw [if_neg (by simp)] at q5
          have hcl2 : css.flatten.length = xs.length * e'.size := by rw [flatten_length_const e'.size css q3.sizes, ← q3.length]
          have hlt : lo ≠ Cc := by omega
          obtain ⟨zs, hzz⟩ : ∃ zs, zs = (Builtin.zeroCells (valOf e' (zeroV e')).cells (xs.length - lo)).toList := ⟨_, rfl⟩
          have hzl : zs = (List.replicate (xs.length - lo) (zeroV e')).flatten := by
            rw [hzz]
            by_cases he0 : e'.size = 0
            · have h0 : zeroV e' = [] := List.eq_nil_of_length_eq_zero (by omega)
              have h1 : (Builtin.zeroCells (valOf e' (zeroV e')).cells (xs.length - lo)).toList.length = 0 := by
                have := size_zeroCells (valOf e' (zeroV e')).cells (xs.length - lo)
                rw [Array.length_toList, this, (Rep.zero g.G w e').cells]
                simp [h0]
              rw [List.eq_nil_of_length_eq_zero h1, h0]
              simp
            · have := range_zero (zeroV e').toArray (xs.length - lo) (by simp only [List.size_toArray, hzs]; omega)
              rw [(Rep.zero g.G w e').cells]
              simpa [Builtin.zeroCells] using this
          have hzlen : zs.length = (xs.length - lo) * e'.size := by
            rw [hzl, flatten_length_const e'.size _ (fun c hc => by rw [(List.mem_replicate.1 hc).2, hzs]), List.length_replicate]
          have hcsl : cs.toList.length = css.flatten.length + rest.length := by rw [q2, List.length_append]
          have hin : lo * e'.size + zs.length ≤ css.flatten.length := by
            rw [hzlen, hcl2, ← Nat.add_mul]; exact Nat.mul_le_mul_right _ (by omega)
          have hone : ∀ v ∈ zs, v.oneCell' = true := by
            intro v hv'
            rw [hzl, List.mem_flatten] at hv'
            obtain ⟨c, hc, hv'⟩ := hv'
            rw [(List.mem_replicate.1 hc).2] at hv'
            exact Rep.one e' e'.zero (zeroV e') (Rep.zero g.G w e') v hv'
          have hst := run_storeCells_at P (g.ι id n) (lo * e'.size) et' zs 0 cs w q1 (by
            have : cs.toList.length = cs.size := by simp
            omega) hone
          simp only [Nat.add_zero] at hst
          have hr : (Builtin.clear_ #[t] o.type #[a.eval x]).run P w = .ok (.tuple #[]) (w.setRow (g.ι id n) (splice cs.toList (lo * e'.size) zs).toArray) := by
            rw [p4, hv, subVal, if_neg (Ne.symm hlt), Option.map_some, Addr.add_lit, Nat.zero_add]
            have hz0 : ∀ w0 : World, (zeroValue et).run P w0 = .ok (valOf e' (zeroV e')) w0 := fun w0 => by simp [zeroValue, typeInfo, k4, k6]
            obtain ⟨kk, hkk⟩ : ∃ kk, xs.length - lo = kk + 1 := ⟨xs.length - lo - 1, by omega⟩
            rw [hkk] at hzz ⊢
            simp only [Builtin.clear_, List.getElem?_toArray, List.getElem?_cons_zero, Sem.run_bind, run_underlying k1, Result.andThen_ok, hz0, ← hzz, hst, Sem.run_pure, splice, List.append_assoc]
          generalize hcs' : (splice cs.toList (lo * e'.size) zs).toArray = cs' at hr
          have hcs'l : cs'.toList = (css.take lo ++ List.replicate (xs.length - lo) (zeroV e')).flatten ++ rest := by
            have e1 : cs'.toList = splice cs.toList (lo * e'.size) zs := by rw [← hcs']
            have e2 : (css.take lo).flatten = css.flatten.take (lo * e'.size) := by
              have h3 : (css.take lo).flatten.length = lo * e'.size := by
                rw [flatten_length_const e'.size _ (fun c hc => q3.sizes c (List.mem_of_mem_take hc)), List.length_take, ← q3.length, Nat.min_eq_left plo]
              have h4 : css.flatten = (css.take lo).flatten ++ (css.drop lo).flatten := by rw [← List.flatten_append, List.take_append_drop]
              rw [h4, ← h3, List.take_left]
            rw [e1, q2, List.flatten_append, e2, ← hzl]
            have hend : lo * e'.size + zs.length = css.flatten.length := by rw [hzlen, hcl2, ← Nat.add_mul, show lo + (xs.length - lo) = xs.length by omega]
            simp only [splice]
            rw [List.take_append_of_le_length (by omega), hend, List.drop_left, List.append_assoc]
          have hnsz : cs'.size = Cc * e'.size := by
            have h3 := congrArg List.length (show cs'.toList = splice cs.toList (lo * e'.size) zs by rw [← hcs'])
            rw [splice_length (by omega)] at h3
            simp at h3
            omega
          have ha : Adv g.G w g.G (w.setRow (g.ι id n) cs') := ⟨fun b o' v hcell hs => by
            by_cases hb : b = g.ι id n
            · subst hb
              unfold Gh.st at hs
              rw [q5] at hs
              exact hs.elim
            · exact ⟨by rw [Cell.of_block (setRow_other w _ b cs' hb)]; exact hcell, hs⟩⟩
          have hreal : Real g id (.row e' xs) := .inr ⟨_, _, Cc, hv, by omega⟩
          obtain ⟨hput, hxx⟩ := hinv.heap.put (g' := g) (w' := w.setRow (g.ι id n) cs') (fz' := false) (c' := .row e' (xs.take lo ++ List.replicate (xs.length - lo) e'.zero)) hl (some (g.ι id n)) (.inr ⟨hreal, rfl⟩) (fun b _ hb => ⟨setRow_other w _ b cs' (fun e => hb (by rw [e])), rfl⟩) rfl rfl rfl
            (by simp only [rowOf, hlen']) ha (fun hx => by
              show OwnRel g.G _ F.m F.B false (g.ι id n) e' (xs.take lo ++ List.replicate (xs.length - lo) e'.zero) (g.ov id).1
              unfold OwnRel
              rw [hlen']
              refine ⟨_, Cc, hv, hle, .inr ⟨rfl, hB, cs', et', css.take lo ++ List.replicate (xs.length - lo) (zeroV e'), rest, setRow_heap w _ cs cs' et' (0, 0) q1, hcs'l, ?_, hnsz, by rw [if_neg (by simp)]; exact q5⟩⟩
              exact ((q3.mono fun x y hxy => Rep.adv ha e' x y hxy).take lo).append (Each.replicate (Rep.zero _ _ e') _))
          refine happ g (w.setRow (g.ι id n) cs') _ (hex _ _ hr) (hinv.app (d := none) (e := { val := .poison, hw := [(id, .box n false (.row e' (xs.take lo ++ List.replicate (xs.length - lo) e'.zero)))], rd := [id] }) trivial hxx (SRel.of0 (s := .poison) trivial) hput ?_)
          refine ⟨⟨rfl, rfl, rfl, by simp, fun k hk hp => ⟨setRow_other w _ k cs' (fun e => ?_), rfl⟩, ha⟩, fun hl b hb => hl b (by simpa using hb), fun b o' h5 h6 => ?_⟩
          · rw [e, q5] at hp; exact hp rfl
          · by_cases e : b = g.ι id n
            · rw [e, q1] at h5; cases h5; cases h6
            · exact ⟨by rw [setRow_other w _ b cs' e]; exact h5, rfl⟩
    · exact he.elim
  · exact he.elim
end
end Go.Vi
