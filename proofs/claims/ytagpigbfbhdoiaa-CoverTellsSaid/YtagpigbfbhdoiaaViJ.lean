/- Addresses of parts, loads, parts of slices. -/
import Derived.Test.YtagpigbfbhdoiaaViI
namespace Go.Vi

section
variable {P : Program} {C : Ctx} (T : Types P C.tab) {N : Nat} {F : Fr} {g : Gs} {s : St} {a : Act} {w : World} (hinv : Inv P N F g s a w) {o : Oper} (hd : dstLt N F o.dst)

theorem Cells.part {G : Gh} {w : World} {b o : Nat} {cs : List Value} (h : ∀ j c, cs[j]? = some c → Cell w b (o + j) = some c ∧ G.st b (o + j)) (k n : Nat) :
    ∀ j c, ((cs.drop k).take n)[j]? = some c → Cell w b (o + k + j) = some c ∧ G.st b (o + k + j) := by
  intro j c hj
  rw [List.getElem?_take] at hj
  split at hj
  · rw [List.getElem?_drop] at hj
    rw [Nat.add_assoc]
    exact h (k + j) c hj
  · cases hj

/-- A part's address, where the whole's type is known. -/
theorem partPtr_rel {x : S} {v : Value} {H : Heap} (hx : SRel P H g w x v) {τ : Ty} (hp : pointee x = some τ) {st : Step} (hin : stepIn st τ) {e : Eff} (he : (partPtr st x).is e) :
    ∃ b k, v = .pointer (some ⟨b, k, none⟩) ∧ ∃ u, e = { val := u } ∧ SRel P H g w u (.pointer (some ⟨b, k + stepOff st τ, none⟩)) := by
  unfold partPtr at he
  split at he
  · rename_i id n root π
    obtain ⟨_, rfl⟩ := he
    obtain ⟨m, fz, c, h1, h2, h3, h4⟩ := hx
    simp only [pointee] at hp
    refine ⟨_, _, h4, _, rfl, ?_⟩
    refine SRel.of0 ⟨m, fz, c, h1, h2, pathIn_append π st root τ hp h3 hin, ?_⟩
    rw [pathOff_append π st root τ hp]
  · rename_i σ y
    simp only [pointee, Option.some.injEq] at hp
    subst hp
    obtain ⟨b, k, cs, h1, h2, h3⟩ := hx
    split at he
    · rename_i ρ z hz
      obtain ⟨_, rfl⟩ := he
      obtain ⟨h4, h5⟩ := stepGet_rep hz hin h2
      exact ⟨b, k, h1, _, rfl, SRel.of0 ⟨b, k + stepOff st σ, _, rfl, h4, Cells.part h3 _ _⟩⟩
    · exact he.elim
  · exact he.elim

include hinv hd T

theorem shown_fieldAddr {t : TypeId} {x : Operand} {f : Nat} (hop : o.op = .fieldAddr t x f) {e : Eff} (he : (fieldAddrS C t f (s.ev x)).is e) : Shown P N F s a w o e := by
  have hx := hinv.ev x
  generalize hsx : s.ev x = sx at *
  have hex : execOp a.eval o = (do pure (.value (← Instr.fieldAt t (a.eval x) f))) := by unfold execOp; rw [hop]
  unfold fieldAddrS at he
  split at he
  · rename_i te τ hte hp
    cases hb : te.ty.beq τ && (fldTy te.nf f te.ty).isSome with
    | false => rw [hb] at he; exact he.elim
    | true =>
      rw [hb] at he
      simp only [Bool.and_eq_true] at hb
      obtain rfl := Ty.eq_of_beq hb.1
      obtain ⟨b, k, e1, u, rfl, hu⟩ := partPtr_rel (P := P) hx hp (st := .fld te.nf f) trivial he
      obtain ⟨σ, hty⟩ := Option.isSome_iff_exists.1 hb.2
      obtain ⟨hagg, harr⟩ := fldTy_agg hty
      obtain ⟨fs, h1, h0, h2, h3⟩ := T.struct hte hagg harr
      have hlt := nf_lt _ _ _ _ hty
      obtain ⟨ff, hff⟩ : ∃ ff, fs[f]? = some ff := ⟨_, Array.getElem?_eq_getElem (by omega)⟩
      obtain ⟨_, k2, τ', tef, k3, k4, k5, k6⟩ := h3 f ff hff
      rw [hty] at k3
      cases k3
      subst k5
      obtain ⟨inf, hinf, hsz, _⟩ := T.info k4
      refine shown_val hinv hd hex (v := .pointer (some ⟨b, k + stepOff (.fld te.nf f) te.ty, none⟩)) ?_ hu
      rw [e1]
      simp only [Instr.fieldAt, Sem.run_bind, run_underlying h1, Result.andThen_ok, hff, Instr.sureAddr, Sem.run_pure, fieldPlace, sizeOf, typeInfo, run_program, hinf, hsz, Sem.run_ite, if_neg k6, k2, Addr.add_lit, stepOff]
  · exact he.elim

theorem shown_indexAddr {t : TypeId} {x i : Operand} (hop : o.op = .indexAddr t x i) {e : Eff} (he : (indexAddrS C t (s.ev x) (s.ev i)).is e) : Shown P N F s a w o e := by
  have hx := hinv.ev x
  have hi := hinv.ev i
  generalize hsx : s.ev x = sx at *
  generalize hsi : s.ev i = si at *
  have hex : execOp a.eval o = (do pure (.value (← Instr.indexAt t (a.eval x) (a.eval i)))) := by unfold execOp; rw [hop]
  unfold indexAddrS at he
  split at he
  · rename_i k n
    have e1 : a.eval i = .int k n := RepV.int hi
    split at he
    · rename_i te hte
      split at he
      · rename_i m ee hty
        split at he
        · rename_i τ hp
          cases hb : (Ty.arr m ee).beq τ && Nat.ble 2 m with
          | false => rw [hb] at he; exact he.elim
          | true =>
            rw [hb, cond_true] at he
            simp only [Bool.and_eq_true] at hb
            obtain rfl := Ty.eq_of_beq hb.1
            obtain ⟨et, tee, k1, k2, k3⟩ := T.arr hte hty
            subst k3
            obtain ⟨inf, hinf, hsz, _⟩ := T.info k2
            cases hpp : partPtr (.idx (Int.toNat n)) sx with
            | fail => rw [hpp] at he; exact he.elim
            | call rs oo mk => rw [hpp] at he; exact he.elim
            | emit es xx => rw [hpp] at he; exact he.elim
            | callO rs oo mk => rw [hpp] at he; exact he.elim
            | ok pre ee =>
              rw [hpp] at he
              obtain ⟨hpre, rfl⟩ := he
              simp only [Bool.and_eq_true] at hpre
              obtain ⟨h0, h1, h2⟩ := inRange_spec hpre.2
              have hpre2 := hpre.1
              subst hpre2
              obtain ⟨b, o', e2, u, rfl, hu⟩ := partPtr_rel (P := P) hx hp (st := .idx (Int.toNat n)) (by exact h2) (by rw [hpp]; exact ⟨rfl, rfl⟩)
              refine shown_val hinv hd hex (v := .pointer (some ⟨b, o' + stepOff (.idx (Int.toNat n)) (.arr m tee.ty), none⟩)) ?_ hu
              rw [e1, e2]
              simp only [Instr.indexAt, asIntOf, Sem.run_bind, Sem.run_pure, Result.andThen_ok, run_underlying k1, Instr.sureAddr, Sem.run_ite, if_pos (And.intro h0 h1), sizeOf, typeInfo, run_program, hinf, hsz, Addr.add_lit, stepOff]
        · exact he.elim
      · rename_i ee hty
        split at he
        · rename_i xs hxs
          obtain ⟨hp, rfl⟩ := he
          obtain ⟨h0, h1, h2⟩ := inRange_spec hp
          obtain ⟨ao, cap, e2, hcap, hrow⟩ := RepV.slc (hx.asD hxs)
          obtain ⟨et, tee, inf, k1, k2, k3, k4, k5, _⟩ := T.slc hte hty
          cases ao with
          | none => simp only at hrow; omega
          | some ad =>
            obtain ⟨b, off, spot⟩ := ad
            obtain ⟨hspot, css, hes, hcells⟩ := hrow
            have hspot : spot = none := hspot.resolve_right (by omega)
            subst hspot
            obtain ⟨hr1, hr2⟩ := hes.item n.toNat h2
            refine shown_val hinv hd hex (v := .pointer (some ⟨b, off + n.toNat * ee.size, none⟩)) ?_ (SRel.of0 ⟨b, off + n.toNat * ee.size, _, rfl, hr1, Cells.part hcells _ _⟩)
            rw [e1, e2]
            simp only [Instr.indexAt, asIntOf, Sem.run_bind, Sem.run_pure, Result.andThen_ok, run_underlying k1, Sem.run_ite, if_pos (And.intro h0 h1), sizeOf, typeInfo, run_program, k4, k5, Addr.add_lit]
        · exact he.elim
      · exact he.elim
    · exact he.elim
  · exact he.elim

omit hinv hd T in
theorem tyIs_spec {t : Nat} {τ : Ty} (h : tyIs C t τ = true) : ∃ te, lookO C.tab t = some te ∧ te.ty = τ := tabTy_spec h

omit hinv hd T in
theorem box_spec {id n : Nat} {fz : Bool} {c : S} (h : s.box id n = some (fz, c)) : lookO s.heap id = some (.box n fz c) := by
  unfold St.box at h
  split at h
  · rename_i m fz' c' hl
    cases hb : Nat.beq m n with
    | true =>
      rw [hb] at h
      cases h
      rw [← Nat.eq_of_beq_eq_true hb]; exact hl
    | false => rw [hb] at h; cases h
  · cases h

omit hd T in
theorem box_cells {id n : Nat} {fz : Bool} {c : S} (h : s.box id n = some (fz, c)) : ∃ cs et, w.heap[g.ι id n]? = some (.cells cs et (0, 0)) ∧ ConRel P s.heap g w c cs.toList ∧
    g.G (g.ι id n) = (if fz = true then Own.stays else Own.mine F.m) ∧ True ∧ ∀ j c, cs.toList[j]? = some c → Cell w (g.ι id n) j = some c := by
  obtain ⟨cs, et, h1, h2, h3⟩ := hinv.heap.box id n fz c (box_spec h)
  refine ⟨cs, et, h1, h2, h3, trivial, fun j c hj => ?_⟩
  unfold Cell
  rw [cell_of_row w _ j cs et (0, 0) h1]
  simpa using hj

theorem shown_load (hF : ftsOk P C.fts = true) (hP : ptsOk P C.pts = true) {t : TypeId} {x : Operand} (hop : o.op = .load t x) {e : Eff} (he : (loadS C s t (s.ev x)).is e) : Shown P N F s a w o e := by
  have hx := hinv.ev x
  generalize hsx : s.ev x = sx at *
  have hex : execOp a.eval o = (do pure (.value (← Instr.loadAt t (a.eval x)))) := by unfold execOp; rw [hop]
  unfold loadS at he
  split at he
  · rename_i id n root π
    obtain ⟨m, fz0, c0, h1, h2, h3, e1⟩ := hx
    split at he
    · rename_i fz σ y hbox
      obtain ⟨cs, et, k1, k2, k3, k4, k5⟩ := box_cells hinv hbox
      split at he
      · rename_i τ z hg
        cases hb : tyIs C t τ && σ.beq root with
        | false => rw [hb] at he; exact he.elim
        | true =>
          rw [hb] at he
          obtain ⟨_, rfl⟩ := he
          simp only [Bool.and_eq_true] at hb
          obtain rfl := Ty.eq_of_beq hb.2
          obtain ⟨te, hte, rfl⟩ := tyIs_spec hb.1
          obtain ⟨hr, _⟩ := pathGet_rep (G := g.G) (w := w) π ⟨σ, y⟩ _ hg h3 _ k2
          refine shown_val hinv hd hex (v := valOf te.ty ((cs.toList.drop (pathOff π σ)).take te.ty.size)) ?_ (SRel.dat ⟨_, hr, rfl⟩)
          rw [e1]
          simp only [Instr.loadAt, Instr.sureAddr, Sem.run_bind, Sem.run_pure, Result.andThen_ok]
          refine run_loadVar T hte hr (fun j c hj => ?_)
          rw [List.getElem?_take] at hj
          split at hj
          · rw [List.getElem?_drop] at hj
            exact k5 _ _ hj
          · cases hj
      · exact he.elim
    · rename_i fz k ee y hbox
      obtain ⟨cs, et, k1, ⟨v, k2, k2'⟩, k3, k4, k5⟩ := box_cells hinv hbox
      split at he
      · cases hb : tyIs C t (.slc ee) with
        | false => rw [hb] at he; exact he.elim
        | true =>
          rw [hb] at he
          obtain ⟨_, rfl⟩ := he
          obtain ⟨te, hte, hty⟩ := tyIs_spec hb
          obtain ⟨et', tee, inf, q1, _⟩ := T.slc hte hty
          refine shown_val hinv hd hex (v := v) ?_ (SRel.of0 k2')
          rw [e1]
          have hc : w.cell? ⟨g.ι id n, 0, none⟩ = some v := k5 0 v (by rw [k2]; rfl)
          simp [Instr.loadAt, Instr.sureAddr, pathOff, loadVar, isAgg, run_underlying q1, hc]
      · exact he.elim
    · rename_i fz ps rs f hbox
      obtain ⟨cs, et, k1, ⟨v, k2, k2'⟩, k3, k4, k5⟩ := box_cells hinv hbox
      split at he
      · cases hb : mem t C.fts with
        | false => rw [hb] at he; exact he.elim
        | true =>
          rw [hb] at he
          obtain ⟨_, rfl⟩ := he
          obtain ⟨ps', rs', vv, q1⟩ := ftsOk_spec hF hb
          refine shown_val hinv hd hex (v := v) ?_ (SRel.of0 k2')
          rw [e1]
          have hc : w.cell? ⟨g.ι id n, 0, none⟩ = some v := k5 0 v (by rw [k2]; rfl)
          simp [Instr.loadAt, Instr.sureAddr, pathOff, loadVar, isAgg, run_underlying q1, hc]
      · exact he.elim
    · rename_i fz id' n' root' π' hbox
      obtain ⟨cs, et, k1, ⟨v, k2, k2'⟩, k3, k4, k5⟩ := box_cells hinv hbox
      split at he
      · cases hb : mem t C.pts with
        | false => rw [hb] at he; exact he.elim
        | true =>
          rw [hb] at he
          obtain ⟨_, rfl⟩ := he
          obtain ⟨pe, q1⟩ := ptsOk_spec hP hb
          refine shown_val hinv hd hex (v := v) ?_ (SRel.of0 k2')
          rw [e1]
          have hc : w.cell? ⟨g.ι id n, 0, none⟩ = some v := k5 0 v (by rw [k2]; rfl)
          simp [Instr.loadAt, Instr.sureAddr, pathOff, loadVar, isAgg, run_underlying q1, hc]
      · exact he.elim
    · rename_i fz es xs hbox
      obtain ⟨cs, et, k1, ⟨v, k2, k2'⟩, k3, k4, k5⟩ := box_cells hinv hbox
      split at he
      · cases hb : mem t C.fts with
        | false => rw [hb] at he; exact he.elim
        | true =>
          rw [hb] at he
          obtain ⟨_, rfl⟩ := he
          obtain ⟨ps', rs', vv, q1⟩ := ftsOk_spec hF hb
          refine shown_val hinv hd hex (v := v) ?_ (SRel.of0 k2')
          rw [e1]
          have hc : w.cell? ⟨g.ι id n, 0, none⟩ = some v := k5 0 v (by rw [k2]; rfl)
          simp [Instr.loadAt, Instr.sureAddr, pathOff, loadVar, isAgg, run_underlying q1, hc]
      · exact he.elim
    · rename_i fz es hbox
      obtain ⟨cs, et, k1, ⟨v, k2, k2'⟩, k3, k4, k5⟩ := box_cells hinv hbox
      split at he
      · cases hb : mem t C.fts with
        | false => rw [hb] at he; exact he.elim
        | true =>
          rw [hb] at he
          obtain ⟨_, rfl⟩ := he
          obtain ⟨ps', rs', vv, q1⟩ := ftsOk_spec hF hb
          refine shown_val hinv hd hex (v := v) ?_ (SRel.of0 k2')
          rw [e1]
          have hc : w.cell? ⟨g.ι id n, 0, none⟩ = some v := k5 0 v (by rw [k2]; rfl)
          simp [Instr.loadAt, Instr.sureAddr, pathOff, loadVar, isAgg, run_underlying q1, hc]
      · exact he.elim
    · exact he.elim
  · rename_i τ y
    obtain ⟨b, k, cs, e1, h2, h3⟩ := hx
    cases hb : tyIs C t τ with
    | false => rw [hb] at he; exact he.elim
    | true =>
      rw [hb] at he
      obtain ⟨_, rfl⟩ := he
      obtain ⟨te, hte, rfl⟩ := tyIs_spec hb
      refine shown_val hinv hd hex (v := valOf te.ty cs) ?_ (SRel.dat ⟨_, h2, rfl⟩)
      rw [e1]
      simp only [Instr.loadAt, Instr.sureAddr, Sem.run_bind, Sem.run_pure, Result.andThen_ok]
      exact run_loadVar T hte h2 (fun j c hj => (h3 j c hj).1)
  · exact he.elim
end
end Go.Vi
