/- append. -/
import Derived.Test.YtagpigbfbhdoiaaViO
namespace Go.Vi
open Go.RowKit (Below)

/-- append of nothing. -/
theorem run_append_none {P : Program} (w : World) (t ty e : TypeId) (i : TypeInfo) (ht : P.underlying t = some (.slice e)) (hi : P.info? e = some i) (ao : Option Addr) (n c : Nat) (hnc : n ≤ c) (a2 : Option Addr) (c2 : Nat) :
    (Builtin.append_ #[t, t] ty #[.slice ao n c, .slice a2 0 c2]).run P w = .ok (.slice ao n c) w := by
  have hf : (Builtin.firstCells i.size 0 (.slice a2 0 c2)).run P w = .ok #[] w := by
    cases a2 <;> simp [Builtin.firstCells, loadCells, loadCellsFrom]
  cases ao with
  | none => simp [Builtin.append_, run_underlying ht, sizeOf, typeInfo, hi, Builtin.lenOf, hnc, hf]
  | some ad => simp [Builtin.append_, run_underlying ht, sizeOf, typeInfo, hi, Builtin.lenOf, hnc, hf, storeCells]

/-- append within the room. -/
theorem run_append_in {P : Program} (w : World) (t ty e et : TypeId) (i : TypeInfo) (ht : P.underlying t = some (.slice e)) (hi : P.info? e = some i)
    (g sLen sCap : Nat) (cur : Array Value) (hg : w.heap[g]? = some (.cells cur et (0, 0)))
    (a : Addr) (m c : Nat) (news : List Value) (hl : news.length = m * i.size) (hnews : ∀ j u, news[j]? = some u → w.cell? (a.add j) = some u) (h1 : ∀ u ∈ news, u.oneCell' = true)
    (hroom : sLen + m ≤ sCap) (hfit : sLen * i.size + news.length ≤ cur.size) :
    (Builtin.append_ #[t, t] ty #[.slice (some ⟨g, 0, none⟩) sLen sCap, .slice (some a) m c]).run P w =
      .ok (.slice (some ⟨g, 0, none⟩) (sLen + m) sCap) (w.setRow g (cur.toList.take (sLen * i.size) ++ news ++ cur.toList.drop (sLen * i.size + news.length)).toArray) := by
  have hf := run_firstCells_some (P := P) w i.size m a m c news hl hnews
  have hst := run_storeCells_at P g (sLen * i.size) et news 0 cur w hg (by simpa using hfit) h1
  simp only [Nat.add_zero] at hst
  simp [Builtin.append_, run_underlying ht, sizeOf, typeInfo, hi, Builtin.lenOf, hroom, hf, Addr.add_lit, hst]

section
variable {P : Program} {N : Nat} {F : Fr} {g : Gs} {s : St} {a : Act} {w : World} (hinv : Inv P N F g s a w) {o : Oper} (hd : dstLt N F o.dst)
include hinv

omit hinv in
theorem lookO_append_some {α : Type} : ∀ (l m : List (Nat × α)) (k : Nat), lookO (l ++ m) k = (lookO l k).or (lookO m k)
  | [], _, _ => by simp [lookO]
  | (k', v) :: l, m, k => by
    simp only [List.cons_append, lookO]
    cases Nat.beq k' k
    · simpa using lookO_append_some l m k
    · rfl

/-- The right to a slice's room is taken: what is known of its room then. -/
theorem tip_rel {x : S} {hw : List (Nat × HC)} {rd : List Nat} (ht : tipOf s x = some (hw, rd)) {e : Ty} {xs : List e.den} (hxs : asD (.slc e) x = some xs) {ao : Option Addr} {c : Nat} (hv : SRel P s.heap g w x (.slice ao xs.length c)) :
    ∃ g1 : Gs, HeapRel P (hw ++ s.heap) g1 w F ∧ Ext s.heap g (hw ++ s.heap) g1 ∧ g1.G = g.G ∧ g1.ι = g.ι ∧ (∀ T, (∀ m, lookO s.heap T = some (.tok m) → lookO (hw ++ s.heap) T = some (.tok m) ∨ lookO (hw ++ s.heap) T = some (.tok (m + 1))) ∧ (lookO s.heap T = none → lookO (hw ++ s.heap) T = none) ∧
        (∀ m fz u, lookO s.heap T = some (.box m fz u) → lookO (hw ++ s.heap) T = some (.box m fz u))) ∧
      (c = xs.length ∨ ∃ b cur et, ao = some ⟨b, 0, none⟩ ∧ g.G b = .room F.m (xs.length * e.size) ∧ F.B ≤ b ∧ w.heap[b]? = some (.cells cur et (0, 0)) ∧ cur.size = c * e.size ∧
        (∀ T m, lookO (hw ++ s.heap) T = some (.tok m) → roomOf (g1.ov T) ≠ some b) ∧ ∀ id n fz u, lookO (hw ++ s.heap) id = some (.box n fz u) → g1.ι id n ≠ b) := by
  have trivial1 : hw = [] → c = xs.length → _ := fun (h1 : hw = []) (h2 : c = xs.length) => by
    subst h1
    exact (⟨g, hinv.heap, Ext.refl _ _, rfl, rfl, fun T => ⟨fun m h => .inl h, fun h => h, fun m fz u h => h⟩, .inl h2⟩ : ∃ g1 : Gs, HeapRel P ([] ++ s.heap) g1 w F ∧ Ext s.heap g ([] ++ s.heap) g1 ∧ g1.G = g.G ∧ g1.ι = g.ι ∧ (∀ T, (∀ m, lookO s.heap T = some (.tok m) → lookO ([] ++ s.heap) T = some (.tok m) ∨ lookO ([] ++ s.heap) T = some (.tok (m + 1))) ∧ (lookO s.heap T = none → lookO ([] ++ s.heap) T = none) ∧
        (∀ m fz u, lookO s.heap T = some (.box m fz u) → lookO ([] ++ s.heap) T = some (.box m fz u))) ∧
      (c = xs.length ∨ ∃ b cur et, ao = some ⟨b, 0, none⟩ ∧ g.G b = .room F.m (xs.length * e.size) ∧ F.B ≤ b ∧ w.heap[b]? = some (.cells cur et (0, 0)) ∧ cur.size = c * e.size ∧
        (∀ T m, lookO ([] ++ s.heap) T = some (.tok m) → roomOf (g1.ov T) ≠ some b) ∧ ∀ id n fz u, lookO ([] ++ s.heap) id = some (.box n fz u) → g1.ι id n ≠ b))
  unfold tipOf at ht
  split at ht
  · cases ht
    have hv' : (Value.slice ao xs.length c) = .slice none 0 0 := hv
    injection hv' with q1 q2 q3
    exact trivial1 rfl (by omega)
  · cases ht
    obtain ⟨_, ao', n, hv'⟩ := hv
    injection hv' with q1 q2 q3
    exact trivial1 rfl (by omega)
  · rename_i T n e' xs'
    cases castD_some (σ := .slc e') hxs
    obtain ⟨hrep, m, hl, hle, hov⟩ := hv
    split at ht
    · rename_i m' hl'
      cases hb : Nat.beq m' n with
      | false => rw [hb] at ht; cases ht
      | true =>
        rw [hb] at ht
        cases ht
        obtain rfl := Nat.eq_of_beq_eq_true hb
        rw [hl'] at hl
        cases hl
        have hov := hov rfl
        have hn : nextTok s T = some (m + 1) := by simp [nextTok, hl']
        let g1 : Gs := ⟨g.G, g.ι, fun T' => if T' = T then (.slice none 0 0, 0) else g.ov T', g.yl⟩
        have hx : Ext s.heap g ((T, .tok (m + 1)) :: s.heap) g1 := ext_tok rfl hn g.G (.slice none 0 0, 0)
        have h1 : HeapRel P ((T, .tok (m + 1)) :: s.heap) g1 w F :=
          hinv.heap.addTok none (fun b _ _ => ⟨rfl, rfl⟩) rfl (fun T' hne => by simp only [g1]; rw [if_neg hne]) ⟨none, 0, 0, by simp [g1], Nat.le_refl _, .inl rfl⟩
            (fun k hk => by simp [g1, roomOf] at hk) (fun _ _ _ _ _ => by simp) (fun _ _ _ _ _ _ => by simp) hx (Adv.refl _ _)
        refine ⟨g1, h1, hx, rfl, rfl, fun T' => ⟨fun k hk => ?_, fun hk => ?_, fun k fz u hk => ?_⟩, ?_⟩
        · by_cases e1 : T = T'
          · subst e1
            rw [hl'] at hk
            cases hk
            exact .inr (by rw [List.cons_append, lookO_cons, if_pos rfl])
          · exact .inl (by rw [List.cons_append, lookO_cons, if_neg e1]; exact hk)
        · rw [List.cons_append, lookO_cons, if_neg (fun e1 => by rw [e1, hk] at hl'; cases hl')]; exact hk
        · rw [List.cons_append, lookO_cons, if_neg (fun e1 => by rw [e1, hk] at hl'; cases hl')]; exact hk
        · obtain ⟨ao2, k, cp, q1, q2, q3⟩ := hinv.heap.tok T m hl'
          rw [hov] at q1 q3
          simp only at q1 q3
          cases q1
          rcases q3 with q3 | ⟨b, cur, et, q4, q5, q6, q7, q8⟩
          · exact .inl q3.symm
          · by_cases hck : c = xs.length
            · exact .inl hck
            refine .inr ⟨b, cur, et, q4, q5, q6, q7, q8, fun T' k' hk' => ?_, fun id k' fz u hk' => ?_⟩
            · rw [List.cons_append, lookO_cons] at hk'
              by_cases e1 : T = T'
              · subst e1
                simp [g1, roomOf]
              · rw [if_neg e1] at hk'
                simp only [g1]
                rw [if_neg (Ne.symm e1)]
                refine hinv.heap.rooms T m T' k' hl' hk' e1 b ?_
                rw [hov, roomOf, q4]
                simp only
                rw [if_pos (by omega)]
            · rw [List.cons_append, lookO_cons] at hk'
              by_cases e1 : T = id
              · rw [if_pos e1] at hk'; cases hk'
              · rw [if_neg e1] at hk'
                obtain ⟨cs0, et0, r1, r2, r3⟩ := hinv.heap.box id k' fz u hk'
                intro e2
                have e2' : g.ι id k' = b := e2
                rw [e2', q5] at r3
                cases fz <;> cases r3
    · cases ht
  · cases ht

omit hinv in
theorem st_room {G : Gh} {b m k j : Nat} (h : G b = .room m k) (hj : j < k) : G.st b j := by unfold Gh.st; rw [h]; exact hj

omit hinv in
/-- A slice's value out of a block's cells. -/
theorem repV_block {G : Gh} {w : World} {b : Nat} {cur : Array Value} {et : TypeId} (hb : w.heap[b]? = some (.cells cur et (0, 0))) {e : Ty} {xs : List e.den} {css : List (List Value)} (hes : Each (Rep G w e) xs css)
    (hpre : css.flatten <+: cur.toList) (hst : ∀ j, j < css.flatten.length → G.st b j) {cap : Nat} (hc : xs.length ≤ cap) : RepV G w (.slc e) xs (.slice (some ⟨b, 0, none⟩) xs.length cap) := by
  refine RepV.mk_slc hc ⟨.inl rfl, css, hes, fun j v hj => ?_⟩
  have hlt : j < css.flatten.length := (List.getElem?_eq_some_iff.1 hj).1
  obtain ⟨rest, hr⟩ := hpre
  simp only [Nat.zero_add]
  refine ⟨?_, hst j hlt⟩
  unfold Cell
  rw [cell_of_row w b j cur et (0, 0) hb]
  rw [← Array.getElem?_toList, ← hr, List.getElem?_append_left hlt]
  exact hj

include hd in
theorem shown_append {C : Ctx} (T : Types P C.tab) {x y : Operand} {t t' : TypeId} (hop : o.op = .call { callee := .builtin .append, args := #[x, y], argTypes := #[t, t'] }) {e : Eff}
    (he : (appendS C s o.dst [t, t'] [s.ev x, s.ev y]).is e) : Shown P N F s a w o e := by
  have hx := hinv.ev x
  have hy := hinv.ev y
  generalize hsx : s.ev x = sx at *
  generalize hsy : s.ev y = sy at *
  unfold appendS at he
  split at he
  · rename_i d t1 t2 x1 y1 hdst hts hxs0
    cases hts
    cases hxs0
    split at he
    · rename_i te hte
      split at he
      · rename_i ee hty
        split at he
        · rename_i hw rd xs ys n htip hxs hys hn
          cases hb : Nat.beq t t' && (Nat.ble 1 ee.size && (Nat.ble 1 te.bytes && (lookO hw (tokId d)).isNone)) with
          | false => rw [hb] at he; exact he.elim
          | true =>
            rw [hb, cond_true] at he
            obtain ⟨hpre, rfl⟩ := he
            simp only [Bool.and_eq_true] at hb
            obtain rfl := Nat.eq_of_beq_eq_true hb.1
            have hesz : 0 < ee.size := Nat.le_of_ble_eq_true hb.2.1
            have hbpos : 0 < te.bytes := Nat.le_of_ble_eq_true hb.2.2.1
            have hdn : lookO hw (tokId d) = none := by simpa using hb.2.2.2
            have hbytes : (xs.length + ys.length) * te.bytes ≤ 140737488355328 := by simpa using hpre
            have hsmall : xs.length + ys.length ≤ 140737488355328 := Nat.le_trans (Nat.le_mul_of_pos_right _ hbpos) hbytes
            rw [hdst] at hd
            obtain ⟨et, tee, i, hu, hte2, hty2, hi, hisz, hiz, hiby⟩ := T.slc hte hty
            have hzs : (valOf ee (zeroV ee)).cells.size = ee.size := by
              rw [(Rep.zero g.G w ee).cells]; simpa using Rep.size _ _ _ (Rep.zero g.G w ee)
            -- the two slices
            have hrx := hx.asD hxs
            have hry := hy.asD hys
            obtain ⟨ao, c, e1, hc, hrow⟩ := RepV.slc hrx
            obtain ⟨ao2, c2, e2, hc2, hrow2⟩ := RepV.slc hry
            rw [e1] at hx hrx
            rw [e2] at hry
            obtain ⟨g1, hh1, hx1, hG1, hι1, hlk, hroom⟩ := tip_rel hinv htip hxs hx
            -- the new right's name
            have hl1 : lookO (hw ++ s.heap) (tokId d) = lookO s.heap (tokId d) := by rw [lookO_append_some, hdn, Option.none_or]
            have hn1 : nextTok { s with heap := hw ++ s.heap } (tokId d) = some n := by
              unfold nextTok at hn ⊢
              simp only [hl1]
              exact hn
            have hex : ∀ v' w', (Builtin.append_ #[t, t] o.type #[a.eval x, a.eval y]).run P w = .ok v' w' → (execOp a.eval o).run P w = .ok (.value v') w' := by
              intro v' w' hr
              unfold execOp
              rw [hop]
              simp only [resolve, invoke, builtin, List.map_toArray, List.map_cons, List.map_nil, Sem.run_bind, Sem.run_pure, Result.andThen_ok, hr]
            have fin : ∀ (G' : Gh) (w' : World) (v' : Value) (tb : Option Nat), (Builtin.append_ #[t, t] o.type #[a.eval x, a.eval y]).run P w = .ok v' w' → Adv g.G w G' w' → RepV G' w' (.slc ee) (xs ++ ys) v' →
                (∃ ao m c, v' = .slice ao m c ∧ m ≤ c ∧ (m = c ∨ ∃ b cur et, ao = some ⟨b, 0, none⟩ ∧ G' b = .room F.m (m * ee.size) ∧ F.B ≤ b ∧ w'.heap[b]? = some (.cells cur et (0, 0)) ∧ cur.size = c * ee.size)) →
                (∀ b, b < w.heap.size → tb ≠ some b → w'.heap[b]? = w.heap[b]? ∧ G' b = g.G b) → (∀ k, roomOf (v', ee.size) = some k → tb = some k) →
                (∀ id n fz u, lookO (hw ++ s.heap) id = some (.box n fz u) → tb ≠ some (g1.ι id n)) → (∀ T m, lookO (hw ++ s.heap) T = some (.tok m) → ∀ b, roomOf (g1.ov T) = some b → tb ≠ some b) → Stp F g.G w G' w' →
                Shown P N F s a w o { val := .lst (.tip (tokId d) n) ee (xs ++ ys), hw := (tokId d, .tok n) :: hw, rd := tokId d :: rd } := by
              intro G' w' v' tb hrun hadv hrep htok hkeep hsub hfree hrooms hfwd
              let g2 : Gs := ⟨G', g1.ι, fun T' => if T' = tokId d then (v', ee.size) else g1.ov T', g1.yl⟩
              have hx2 : Ext (hw ++ s.heap) g1 ((tokId d, .tok n) :: (hw ++ s.heap)) g2 := ext_tok (s := { s with heap := hw ++ s.heap }) rfl hn1 G' (v', ee.size)
              have hadv1 : Adv g1.G w G' w' := by rw [hG1]; exact hadv
              have hh2 : HeapRel P ((tokId d, .tok n) :: (hw ++ s.heap)) g2 w' F := by
                refine hh1.addTok tb (fun b hb hne => by rw [hG1]; exact hkeep b hb hne) rfl (fun T' hne => by simp only [g2]; rw [if_neg hne]) ?_ (fun k hk => hsub k (by simpa [g2] using hk)) hfree (fun T' m hl _ b hb => hrooms T' m hl b hb) hx2 hadv1
                obtain ⟨ao', m, c', q1, q2, q3⟩ := htok
                refine ⟨ao', m, c', by simpa [g2] using q1, q2, ?_⟩
                rcases q3 with q3 | ⟨b, cur, et, q4, q5, q6, q7, q8⟩
                · exact .inl q3
                · exact .inr ⟨b, cur, et, q4, by simpa [g2] using q5, q6, q7, by simpa [g2] using q8⟩
              have hxx : Ext s.heap g ((tokId d, .tok n) :: (hw ++ s.heap)) g2 := by
                refine ⟨fun id m fz u hl => ?_, fun T' m hl => ?_, hx2.yl.trans hx1.yl⟩
                · obtain ⟨m', fz', u', r1, r2, r3⟩ := hx1.box id m fz u hl
                  obtain ⟨m'', fz'', u'', r4, r5, r6⟩ := hx2.box id m' fz' u' r1
                  exact ⟨m'', fz'', u'', r4, Nat.le_trans r2 r5, fun k hk => by rw [r6 k (by omega), r3 k hk]⟩
                · obtain ⟨m', r1, r2, r3⟩ := hx1.tok T' m hl
                  obtain ⟨m'', r4, r5, r6⟩ := hx2.tok T' m' r1
                  exact ⟨m'', r4, Nat.le_trans r2 r5, fun h => by rw [r6 (by omega), r3 (by omega)]⟩
              refine .value (hex v' w' hrun) ⟨g2, ?_⟩
              refine hinv.app (e := { val := .lst (.tip (tokId d) n) ee (xs ++ ys), hw := (tokId d, .tok n) :: hw, rd := tokId d :: rd }) (by rw [hdst]; exact hd) hxx ?_ hh2 hfwd
              exact SRel.of0 ⟨hrep, n, by simp [lookO_cons], Nat.le_refl _, fun _ => by simp [g2]⟩
            have nobox : ∀ b, g.G b = .room F.m (xs.length * ee.size) → ∀ id n fz u, lookO (hw ++ s.heap) id = some (.box n fz u) → g1.ι id n ≠ b := by
              intro b hb id n fz u hl e0
              obtain ⟨cs0, et0, r1, r2, r3⟩ := hh1.box id n fz u hl
              rw [e0, hG1, hb] at r3
              cases fz <;> cases r3
            have hlt1 := hh1.lt
            rw [e1, e2] at fin
            by_cases hm0 : ys.length = 0
            · -- nothing is appended
              have hys0 : ys = [] := List.eq_nil_of_length_eq_zero hm0
              subst hys0
              refine fin g.G w (.slice ao xs.length c) (roomOf (.slice ao xs.length c, ee.size)) (run_append_none w t o.type et i hu hi ao xs.length c hc ao2 c2) (Adv.refl _ _) (by simpa using hrx) ?_ (fun _ _ _ => ⟨rfl, rfl⟩) (fun k hk => hk) ?_ ?_ (Stp.refl _ _ _)
              · refine ⟨ao, xs.length, c, rfl, hc, ?_⟩
                rcases hroom with h | ⟨b, cur, et', q4, q5, q6, q7, q8, q9, q10⟩
                · exact .inl h.symm
                · exact .inr ⟨b, cur, et', q4, q5, q6, q7, q8⟩
              · intro id n' fz u hl e0
                obtain ⟨ad, m, c', r1, r2, r3⟩ := roomOf_lt e0
                cases r1
                rcases hroom with h | ⟨b, cur, et', q4, q5, q6, q7, q8, q9, q10⟩
                · omega
                · cases q4
                  exact q10 id n' fz u hl r3.symm
              · intro T' m' hl b' hb' e0
                obtain ⟨ad, m, c', r1, r2, r3⟩ := roomOf_lt e0
                cases r1
                rcases hroom with h | ⟨b, cur, et', q4, q5, q6, q7, q8, q9, q10⟩
                · omega
                · cases q4
                  exact q9 T' m' hl (by rw [hb']; exact congrArg some r3.symm)
            · cases ao2 with
              | none => simp only at hrow2; omega
              | some a2 =>
                obtain ⟨b2, o2, spot2⟩ := a2
                obtain ⟨hspot2, dss, hds, hdcells⟩ := hrow2
                have hspot2 : spot2 = none := hspot2.resolve_right (by omega)
                subst hspot2
                have hdl : dss.flatten.length = ys.length * ee.size := by rw [flatten_length_const ee.size dss hds.sizes, ← hds.length]
                have hdone : ∀ u ∈ dss.flatten, u.oneCell' = true := by
                  intro u hu0
                  rw [List.mem_flatten] at hu0
                  obtain ⟨cc, hcc, huu⟩ := hu0
                  exact hds.right (Q := fun c => ∀ v ∈ c, v.oneCell' = true) (fun p q hpq => Rep.one ee p q hpq) cc hcc u huu
                have hdc : ∀ j v, dss.flatten[j]? = some v → w.cell? ((⟨b2, o2, none⟩ : Addr).add j) = some v := fun j v hj => by rw [Addr.add_lit]; exact (hdcells j v hj).1
                by_cases hfit : xs.length + ys.length ≤ c
                · -- there is room
                  rcases hroom with h | ⟨b, cur, et', q4, q5, q6, q7, q8, q9, q10⟩
                  · omega
                  · subst q4
                    obtain ⟨_, css, hcs, hccells⟩ := hrow
                    have hcl : css.flatten.length = xs.length * ee.size := by rw [flatten_length_const ee.size css hcs.sizes, ← hcs.length]
                    have hle : (xs.length + ys.length) * ee.size ≤ c * ee.size := Nat.mul_le_mul_right _ hfit
                    rw [Nat.add_mul] at hle
                    have hb : b < w.heap.size := (Array.getElem?_eq_some_iff.1 q7).1
                    have hcur : cur.toList.take css.flatten.length = css.flatten := by
                      apply List.ext_getElem?
                      intro j
                      rw [List.getElem?_take]
                      by_cases hj : j < css.flatten.length
                      · rw [if_pos hj]
                        have h1 := (hccells j _ (List.getElem?_eq_getElem hj)).1
                        unfold Cell at h1
                        simp only [Nat.zero_add] at h1
                        rw [cell_of_row w b j cur et' (0, 0) q7, ← Array.getElem?_toList] at h1
                        rw [h1, List.getElem?_eq_getElem hj]
                      · rw [if_neg hj, List.getElem?_eq_none (by omega)]
                    have hrun := run_append_in (P := P) w t o.type et et' i hu hi b xs.length c cur q7 ⟨b2, o2, none⟩ ys.length c2 dss.flatten (by rw [hdl, hisz]) hdc hdone hfit (by rw [hisz, hdl, q8]; exact hle)
                    rw [hisz] at hrun
                    generalize hnew : (cur.toList.take (xs.length * ee.size) ++ dss.flatten ++ cur.toList.drop (xs.length * ee.size + dss.flatten.length)).toArray = new at hrun
                    have hnewl : new.toList = css.flatten ++ dss.flatten ++ cur.toList.drop (xs.length * ee.size + dss.flatten.length) := by rw [← hnew, ← hcl, hcur]
                    let G' : Gh := fun b' => if b' = b then .room F.m ((xs.length + ys.length) * ee.size) else g.G b'
                    have hblk : (w.setRow b new).heap[b]? = some (.cells new et' (0, 0)) := setRow_heap w b cur new et' (0, 0) q7
                    have hG'b : G' b = .room F.m ((xs.length + ys.length) * ee.size) := by simp [G']
                    have hadv : Adv g.G w G' (w.setRow b new) := ⟨fun b' o' v hcell hs => by
                      by_cases hb' : b' = b
                      · subst hb'
                        unfold Gh.st at hs
                        rw [q5] at hs
                        simp only at hs
                        refine ⟨?_, st_room hG'b (by rw [Nat.add_mul]; omega)⟩
                        unfold Cell at hcell ⊢
                        rw [cell_of_row w b' o' cur et' (0, 0) q7] at hcell
                        rw [cell_of_row _ b' o' new et' (0, 0) hblk, ← Array.getElem?_toList, hnewl, List.append_assoc, List.getElem?_append_left (by omega), ← hcur, List.getElem?_take, if_pos (by omega), Array.getElem?_toList]
                        exact hcell
                      · refine ⟨by rw [Cell.of_block (setRow_other w b b' new hb')]; exact hcell, ?_⟩
                        unfold Gh.st at *
                        simp only [G']
                        rw [if_neg hb']; exact hs⟩
                    have heach : Each (Rep G' (w.setRow b new) ee) (xs ++ ys) (css ++ dss) := (hcs.mono fun p q hpq => Rep.adv hadv ee p q hpq).append (hds.mono fun p q hpq => Rep.adv hadv ee p q hpq)
                    have hrep := repV_block hblk heach (by rw [List.flatten_append, hnewl]; exact List.prefix_append _ _)
                      (fun j hj => st_room hG'b (by rw [List.flatten_append, List.length_append, hcl, hdl] at hj; rw [Nat.add_mul]; exact hj)) (cap := c) (by rw [List.length_append]; exact hfit)
                    rw [List.length_append] at hrep
                    refine fin G' (w.setRow b new) (.slice (some ⟨b, 0, none⟩) (xs.length + ys.length) c) (some b) hrun hadv hrep ⟨_, _, _, rfl, hfit, .inr ⟨b, new, et', rfl, hG'b, q6, hblk, ?_⟩⟩ ?_ ?_ ?_ ?_ ?_
                    · have hs := congrArg List.length hnewl
                      simp only [Array.length_toList, List.length_append, List.length_drop, hcl, hdl, q8] at hs
                      omega
                    · intro b' hb' hne
                      have hne' : b' ≠ b := fun e0 => hne (by rw [e0])
                      exact ⟨setRow_other w b b' new hne', by simp only [G']; rw [if_neg hne']⟩
                    · intro k hk
                      obtain ⟨ad, m, c', r1, r2, r3⟩ := roomOf_lt hk
                      cases r1
                      exact congrArg some r3
                    · intro id n' fz u hl e0
                      exact q10 id n' fz u hl (Option.some.inj e0).symm
                    · intro T' m' hl b' hb' e0
                      exact q9 T' m' hl (by rw [hb', e0])
                    · refine ⟨⟨rfl, rfl, rfl, by simp, fun k hk hp => ?_, hadv⟩, fun hl k hk => ?_, fun k ob h5 h6 => ?_⟩
                      · have hne : k ≠ b := fun e0 => by rw [e0, q5] at hp; exact hp rfl
                        exact ⟨setRow_other w b k new hne, by simp only [G']; rw [if_neg hne]⟩
                      · simp only [G']
                        by_cases e0 : k = b
                        · rw [if_pos e0]; exact hinv.mt
                        · rw [if_neg e0]; exact hl k (by simpa using hk)
                      · by_cases e0 : k = b
                        · rw [e0, q7] at h5; cases h5; cases h6
                        · exact ⟨by rw [setRow_other w b k new e0]; exact h5, by simp only [G']; rw [if_neg e0]⟩
                · -- a new block
                  have hge := grownCap_ge w (xs.length + ys.length) c et
                  have hfits : Builtin.nextslicecap (xs.length + ys.length) c * i.bytes ≤ 281474976710656 := growslice_fits (by omega) (by rw [hiby]; exact hbytes)
                  obtain ⟨css, hcs, hcl, hrun⟩ : ∃ css : List (List Value), Each (Rep g.G w ee) xs css ∧ css.flatten.length = xs.length * ee.size ∧
                      (Builtin.append_ #[t, t] o.type #[.slice ao xs.length c, .slice (some ⟨b2, o2, none⟩) ys.length c2]).run P w =
                        .ok (.slice (some ⟨w.heap.size, 0, none⟩) (xs.length + ys.length) (grownCap w (xs.length + ys.length) c et))
                          (w.drew.alloc (.cells (css.flatten.toArray ++ dss.flatten.toArray ++ Builtin.zeroCells (valOf ee (zeroV ee)).cells (grownCap w (xs.length + ys.length) c et - (xs.length + ys.length))) et)) := by
                    cases ao with
                    | none =>
                      simp only at hrow
                      subst hrow
                      have hx0 : xs = [] := List.eq_nil_of_length_eq_zero (by omega)
                      subst hx0
                      have hr := run_append_nil (P := P) w t o.type et i _ hu hi hiz ⟨b2, o2, none⟩ ys.length c2 dss.flatten (by rw [hdl, hisz]) hdc (by omega) (by omega) (by
                        have hb2 := hbytes
                        simp only [List.length_nil, Nat.zero_add] at hb2
                        rw [hiby]; omega)
                      refine ⟨[], trivial, by simp, ?_⟩
                      simpa using hr
                    | some ad =>
                      obtain ⟨hspot, css, hcs, hccells⟩ := hrow
                      have hcl : css.flatten.length = xs.length * ee.size := by rw [flatten_length_const ee.size css hcs.sizes, ← hcs.length]
                      have hr := run_append_grow (P := P) w t o.type et i _ hu hi hiz ad xs.length c css.flatten (by rw [hcl, hisz]) (fun j v hj => by
                          have hlt : j < css.flatten.length := (List.getElem?_eq_some_iff.1 hj).1
                          have hsp : ad.spot = none := hspot.resolve_right (fun h0 => by
                            have : xs.length = 0 := by omega
                            rw [hcl, this] at hlt
                            omega)
                          obtain ⟨b1, o1, spot1⟩ := ad
                          simp only at hsp
                          subst hsp
                          rw [Addr.add_lit]; exact (hccells j v hj).1)
                        ⟨b2, o2, none⟩ ys.length c2 dss.flatten (by rw [hdl, hisz]) hdc (by omega) (by omega) hfits
                      exact ⟨css, hcs, hcl, hr⟩
                  generalize hcap : grownCap w (xs.length + ys.length) c et = cap at hrun hge
                  generalize hnew : css.flatten.toArray ++ dss.flatten.toArray ++ Builtin.zeroCells (valOf ee (zeroV ee)).cells (cap - (xs.length + ys.length)) = new at hrun
                  have hnewl : new.toList = css.flatten ++ dss.flatten ++ (Builtin.zeroCells (valOf ee (zeroV ee)).cells (cap - (xs.length + ys.length))).toList := by rw [← hnew]; simp
                  have hnsz : new.size = cap * ee.size := by
                    rw [← hnew]
                    simp only [Array.size_append, List.size_toArray, size_zeroCells, hzs, hcl, hdl, ← Nat.add_mul]
                    congr 1
                    omega
                  let G' : Gh := fun b' => if b' = w.heap.size then .room F.m ((xs.length + ys.length) * ee.size) else g.G b'
                  have hblk : (w.drew.alloc (.cells new et)).heap[w.heap.size]? = some (.cells new et (0, 0)) := heap_alloc_new w.drew _
                  have hG'b : G' w.heap.size = .room F.m ((xs.length + ys.length) * ee.size) := by simp [G']
                  have hold : ∀ b', b' < w.heap.size → (w.drew.alloc (.cells new et)).heap[b']? = w.heap[b']? ∧ G' b' = g.G b' := fun b' hb' => ⟨heap_alloc (w := w.drew) hb', by simp only [G']; rw [if_neg (by omega)]⟩
                  have hadv : Adv g.G w G' (w.drew.alloc (.cells new et)) := ⟨fun b' o' v hcell hs => by
                    have hb := Cell.lt hcell
                    refine ⟨by rw [Cell.of_block (hold b' hb).1]; exact hcell, ?_⟩
                    unfold Gh.st at *
                    rw [(hold b' hb).2]; exact hs⟩
                  have heach : Each (Rep G' (w.drew.alloc (.cells new et)) ee) (xs ++ ys) (css ++ dss) := (hcs.mono fun p q hpq => Rep.adv hadv ee p q hpq).append (hds.mono fun p q hpq => Rep.adv hadv ee p q hpq)
                  have hrep := repV_block hblk heach (by rw [List.flatten_append, hnewl]; exact List.prefix_append _ _)
                    (fun j hj => st_room hG'b (by rw [List.flatten_append, List.length_append, hcl, hdl] at hj; rw [Nat.add_mul]; exact hj)) (cap := cap) (by rw [List.length_append]; exact hge)
                  rw [List.length_append] at hrep
                  refine fin G' (w.drew.alloc (.cells new et)) (.slice (some ⟨w.heap.size, 0, none⟩) (xs.length + ys.length) cap) (some w.heap.size) hrun hadv hrep ⟨_, _, _, rfl, hge, .inr ⟨w.heap.size, new, et, rfl, hG'b, hinv.hB, hblk, hnsz⟩⟩
                    (fun b' hb' _ => hold b' hb') ?_ ?_ ?_ ?_
                  · intro k hk
                    obtain ⟨ad, m, c', r1, r2, r3⟩ := roomOf_lt hk
                    cases r1
                    exact congrArg some r3
                  · intro id n' fz u hl e0
                    have := hlt1.1 id n' fz u hl
                    have := Option.some.inj e0
                    omega
                  · intro T' m' hl b' hb' e0
                    have := hlt1.2 T' m' hl b' hb'
                    have := Option.some.inj e0
                    omega
                  · refine ⟨⟨rfl, rfl, rfl, (show w.heap.size ≤ (w.heap.push _).size by simp), fun k hk _ => hold k hk, hadv⟩, fun hl k hk => ?_, NC.of_blocks (fun k hk => (hold k hk).1) (fun k hk => (hold k hk).2)⟩
                    by_cases e0 : k = w.heap.size
                    · rw [e0, hG'b]; exact hinv.mt
                    · have hk' : k < w.heap.size := by
                        have : k < (w.heap.push (Obj.cells new et)).size := hk
                        simp at this
                        omega
                      rw [(hold k hk').2]; exact hl k hk'
        · exact he.elim
      · exact he.elim
    · exact he.elim
  · exact he.elim
end
end Go.Vi
