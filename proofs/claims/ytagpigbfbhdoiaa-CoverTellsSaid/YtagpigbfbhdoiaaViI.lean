/- Parts, addresses, loads, lengths. -/
import Derived.Test.YtagpigbfbhdoiaaViH
import Derived.Laws.BytesString
namespace Go.Vi

theorem nf_lt : ∀ (nf i : Nat) (τ σ : Ty), fldTy nf i τ = some σ → i < nf := by
  intro nf i τ
  fun_induction fldTy nf i τ <;> intro σ h
  · omega
  · omega
  · omega
  · omega
  · rename_i ih; have := ih σ h; omega
  · cases h
theorem fldTy_agg {nf i : Nat} {τ σ : Ty} (h : fldTy nf i τ = some σ) : τ.agg = true ∧ ∀ n e, τ ≠ .arr n e := by
  revert h
  fun_cases fldTy nf i τ <;> intro h <;> first | exact ⟨rfl, fun _ _ => by simp⟩ | (simp at h)

theorem pathTy_append : ∀ (π : List Step) (st : Step) (τ σ : Ty), pathTy π τ = some σ → pathTy (π ++ [st]) τ = stepTy st σ
  | [], st, τ, σ, h => by cases h; simp [pathTy]
  | s :: π, st, τ, σ, h => by
    simp only [pathTy, List.cons_append] at h ⊢
    rw [Option.bind_eq_some_iff] at h
    obtain ⟨ρ, h1, h2⟩ := h
    rw [h1, Option.bind_some]
    exact pathTy_append π st ρ σ h2
theorem pathOff_append : ∀ (π : List Step) (st : Step) (τ σ : Ty), pathTy π τ = some σ → pathOff (π ++ [st]) τ = pathOff π τ + stepOff st σ
  | [], st, τ, σ, h => by
    cases h
    simp only [List.nil_append, pathOff, Nat.zero_add]
    split <;> rfl
  | s :: π, st, τ, σ, h => by
    simp only [pathTy] at h
    rw [Option.bind_eq_some_iff] at h
    obtain ⟨ρ, h1, h2⟩ := h
    simp only [List.cons_append, pathOff, h1]
    rw [pathOff_append π st ρ σ h2]; omega
theorem pathIn_append : ∀ (π : List Step) (st : Step) (τ σ : Ty), pathTy π τ = some σ → pathIn π τ → stepIn st σ → pathIn (π ++ [st]) τ
  | [], st, τ, σ, h, _, hs => by cases h; exact ⟨hs, fun _ _ => trivial⟩
  | s :: π, st, τ, σ, h, hp, hs => by
    simp only [pathTy] at h
    rw [Option.bind_eq_some_iff] at h
    obtain ⟨ρ, h1, h2⟩ := h
    exact ⟨hp.1, fun ρ' h' => by
      rw [h1] at h'; cases h'
      exact pathIn_append π st ρ σ h2 (hp.2 ρ h1) hs⟩

section
variable {P : Program} {tab : List (Nat × TE)} (T : Types P tab)
include T
theorem run_loadVar {G : Gh} {wr : World} {t : Nat} {te : TE} (hl : lookO tab t = some te) {y : te.ty.den} {cs : List Value} (hr : Rep G wr te.ty y cs) {b o : Nat} {w : World}
    (hc : ∀ j c, cs[j]? = some c → Cell w b (o + j) = some c) : (loadVar t ⟨b, o, none⟩).run P w = .ok (valOf te.ty cs) w := by
  obtain ⟨d, hd, hagg⟩ := T.agg hl
  obtain ⟨i, hi, hsz, _⟩ := T.info hl
  have hlen := Rep.size _ _ _ hr
  unfold loadVar isAgg
  by_cases ha : te.ty.agg = true
  · have hv : valOf te.ty cs = .agg cs.toArray := by simp [valOf, ha]
    have hcells := run_loadCells_list (P := P) w ⟨b, o, none⟩ cs (fun j v hj => by rw [Addr.add_lit]; exact hc j v hj)
    rw [hv]
    rcases hagg.1 ha with ⟨fs, rfl⟩ | ⟨n, e, rfl⟩ <;> simp [run_underlying hd, sizeOf, typeInfo, hi, hsz, ← hlen, hcells]
  · obtain ⟨u, hu, _⟩ := hr.leaf (by simpa using ha)
    have hv : valOf te.ty cs = u := by rw [hu]; simp [valOf, ha]
    rw [hv]
    have hcell : w.cell? ⟨b, o, none⟩ = some u := by have := hc 0 u (by rw [hu]; rfl); simpa [Cell] using this
    have hd' : ∀ fs, d ≠ .struct fs := fun fs h => ha (hagg.2 (.inl ⟨fs, h⟩))
    have hd'' : ∀ n e, d ≠ .array n e := fun n e h => ha (hagg.2 (.inr ⟨n, e, h⟩))
    cases d <;> first | exact absurd rfl (hd' _) | exact absurd rfl (hd'' _ _) | simp [run_underlying hd, hcell]
end

section
variable {P : Program} {C : Ctx} (T : Types P C.tab) {N : Nat} {F : Fr} {g : Gs} {s : St} {a : Act} {w : World} (hinv : Inv P N F g s a w) {o : Oper} (hd : dstLt N F o.dst)
include hinv hd T

theorem shown_convert {src dst : TypeId} {x : Operand} (hop : o.op = .convert src dst x) {e : Eff} (he : (convS C src dst (s.ev x)).is e) : Shown P N F s a w o e := by
  have hx := hinv.ev x
  generalize hsx : s.ev x = sx at *
  unfold convS at he
  split at he
  · rename_i k n
    have e1 : a.eval x = .int k n := RepV.int hx
    split at he
    · rename_i te te' h1 h2
      split at he
      · rename_i k' hk
        obtain ⟨_, rfl⟩ := he
        obtain ⟨d1, hu1, _⟩ := T.under h1
        obtain ⟨d2, hu2, hdesc⟩ := T.under h2
        have hd2 : d2 = .int k' := by
          cases d2 <;> simp [descOk, hk, Ty.beq] at hdesc
          rw [kindEq_eq hdesc]
        subst hd2
        have hex : execOp a.eval o = (do pure (.value (← convert src dst (a.eval x)))) := by unfold execOp; rw [hop]
        refine shown_val hinv hd hex (v := .int k' (k'.wrap n)) ?_ (SRel.dat (RepV.mk_int _ _))
        rw [e1]
        unfold convert
        simp only [Sem.run_bind, run_underlying hu1, run_underlying hu2, Result.andThen_ok]
        cases d1 <;> rfl
      · exact he.elim
    · exact he.elim
  · split at he
    · rename_i xs te te' hxs h1 h2
      cases hb : te.ty.beq (.slc (.int .u8)) && te'.ty.beq .str with
      | false => rw [hb] at he; exact he.elim
      | true =>
        rw [hb] at he
        obtain ⟨_, rfl⟩ := he
        simp only [Bool.and_eq_true] at hb
        have hrep := hx.asD hxs
        obtain ⟨et, tee, inf, q1, q2, q3, _⟩ := T.slc h1 (Ty.eq_of_beq hb.1)
        obtain ⟨d1, hu1, hd1⟩ := T.under q2
        have hd1' : d1 = .int .u8 := by
          cases d1 <;> simp [descOk, q3, Ty.beq] at hd1
          rw [kindEq_eq hd1]
        subst hd1'
        obtain ⟨d2, hu2, hd2⟩ := T.under h2
        have hd2' : d2 = .string := by
          cases d2 <;> simp [descOk, Ty.eq_of_beq hb.2, Ty.beq] at hd2
          rfl
        subst hd2'
        have hex : execOp a.eval o = (do pure (.value (← convert src dst (a.eval x)))) := by unfold execOp; rw [hop]
        obtain ⟨ao, cap, ev, hle, hrest⟩ := RepV.slc hrep
        refine shown_val hinv hd hex (v := .string (bytesOf xs)) ?_ (SRel.dat (RepV.mk_str _))
        rw [ev, run_convert_bytes_string w src dst et ao _ _ q1 hu1 hu2]
        cases ao with
        | none =>
          have : xs = [] := List.length_eq_zero_iff.1 (by have : cap = 0 := hrest; omega)
          subst this
          rfl
        | some ad =>
          obtain ⟨hsp, css, hes, hcl⟩ := hrest
          have key : ∀ (xs : List Int) (css : List (List Value)), Each (Rep g.G w (.int .u8)) xs css → css.flatten = xs.map (Value.int .u8) := by
            intro xs
            induction xs with
            | nil => intro css h; cases css with
              | nil => rfl
              | cons _ _ => exact h.elim
            | cons x xs ih => intro css h; cases css with
              | nil => exact h.elim
              | cons c css =>
                have h1 : c = [.int .u8 x] := h.1
                rw [List.flatten_cons, ih css h.2, h1]; rfl
          have hfl := key xs css hes
          have hload : (loadCells ad xs.length).run P w = .ok (xs.map (Value.int .u8)).toArray w := by
            have hl : xs.length = (xs.map (Value.int .u8)).length := by simp
            rw [hl]
            rcases hsp with hsp | hcap
            · refine run_loadCells_list w ad _ fun j v hj => ?_
              rw [← hfl] at hj
              have := (hcl j v hj).1
              obtain ⟨bb, oo, ss⟩ := ad
              simp only at hsp
              subst hsp
              rw [Addr.add_lit]
              exact this
            · have : xs = [] := List.length_eq_zero_iff.1 (by omega)
              subst this
              exact run_loadCells_list w ad [] fun j v hj => by cases hj
          exact run_bytesToString w ad _ _ xs hload
    · exact he.elim

theorem shown_field {t : TypeId} {x : Operand} {f : Nat} (hop : o.op = .field t x f) {e : Eff} (he : (fieldS C t f (s.ev x)).is e) : Shown P N F s a w o e := by
  have hx := hinv.ev x
  generalize hsx : s.ev x = sx at *
  unfold fieldS at he
  split at he
  · rename_i σ y
    split at he
    · rename_i te hte
      split at he
      · rename_i y' hc
        cases castD_some hc
        unfold Out.opt at he
        split at he
        · rename_i u hu
          obtain ⟨_, rfl⟩ := he
          rw [Option.map_eq_some_iff] at hu
          obtain ⟨⟨τ, z⟩, hg, rfl⟩ := hu
          have hty := fldGet_ty _ _ _ _ _ _ hg
          obtain ⟨hagg, harr⟩ := fldTy_agg hty
          obtain ⟨fs, h1, h0, h2, h3⟩ := T.struct hte hagg harr
          have hlt := nf_lt _ _ _ _ hty
          obtain ⟨ff, hff⟩ : ∃ ff, fs[f]? = some ff := ⟨_, Array.getElem?_eq_getElem (by omega)⟩
          obtain ⟨_, k2, τ', tef, k3, k4, k5, _⟩ := h3 f ff hff
          rw [hty] at k3
          cases k3
          subst k5
          obtain ⟨cs, hr, ev⟩ := hx
          obtain ⟨hr1, hr2⟩ := fldGet_rep (G := g.G) (w := w) _ _ _ _ _ _ hg cs hr
          have hav : a.eval x = .agg cs.toArray := by rw [ev]; simp [valOf, hagg]
          have hp := run_part T (g := g) (w := w) (cs := cs.toArray) k4 (o := fldOff te.nf f te.ty) hr1 w
          have hex : execOp a.eval o = (do pure (.value (← Instr.field t (a.eval x) f))) := by unfold execOp; rw [hop]
          refine shown_val hinv hd hex (v := valOf tef.ty ((cs.drop (fldOff te.nf f te.ty)).take tef.ty.size)) ?_ (SRel.dat ⟨_, hr1, rfl⟩)
          rw [hav]
          simp only [Instr.field, Sem.run_bind, run_underlying h1, Result.andThen_ok, hff, asAgg, Sem.run_pure, k2]
          exact hp
        · exact he.elim
      · exact he.elim
    · exact he.elim
  · exact he.elim

omit T hinv hd in
theorem inRange_spec {i : Int} {n : Nat} (h : inRange i n = true) : 0 ≤ i ∧ i < n ∧ i.toNat < n := by
  simp only [inRange, Bool.and_eq_true, decide_eq_true_eq] at h
  omega

theorem shown_index {t : TypeId} {x i : Operand} (hop : o.op = .index t x i) {e : Eff} (he : (indexS C t (s.ev x) (s.ev i)).is e) : Shown P N F s a w o e := by
  have hx := hinv.ev x
  have hi := hinv.ev i
  generalize hsx : s.ev x = sx at *
  generalize hsi : s.ev i = si at *
  have hex : execOp a.eval o = (do pure (.value (← Instr.index t (a.eval x) (a.eval i)))) := by unfold execOp; rw [hop]
  unfold indexS at he
  split at he
  · rename_i k n σ y te hte
    have e1 : a.eval i = .int k n := RepV.int hi
    split at he
    · rename_i m ee hty
      split at he
      · rename_i xs hc
        cases castD_some hc
        obtain ⟨hp, rfl⟩ := he
        obtain ⟨h0, h1, h2⟩ := inRange_spec hp
        obtain ⟨et, tee, k1, k2, k3⟩ := T.arr hte hty
        subst k3
        obtain ⟨inf, hinf, hsz, _⟩ := T.info k2
        obtain ⟨cs, hr, ev⟩ := hx
        have hav : a.eval x = .agg cs.toArray := by rw [ev]; simp [valOf, Ty.agg]
        obtain ⟨hn, css, rfl, hes⟩ := hr
        obtain ⟨hr1, _⟩ := hes.item n.toNat (by rw [hn]; exact h2)
        have hpart := run_part T (g := g) (w := w) (cs := css.flatten.toArray) k2 (o := n.toNat * tee.ty.size) hr1 w
        refine shown_val hinv hd hex (v := valOf tee.ty ((css.flatten.drop (n.toNat * tee.ty.size)).take tee.ty.size)) ?_ (SRel.dat ⟨_, hr1, rfl⟩)
        rw [hav, e1]
        simp only [Instr.index, asIntOf, Sem.run_bind, Sem.run_pure, Result.andThen_ok, run_underlying k1, if_pos (And.intro h0 h1), sizeOf, typeInfo, run_program, hinf, hsz]
        exact hpart
      · exact he.elim
    · rename_i hty
      split at he
      · rename_i b hc
        cases castD_some hc
        obtain ⟨hp, rfl⟩ := he
        obtain ⟨h0, h1, h2⟩ := inRange_spec hp
        obtain ⟨dd, hu, hdesc⟩ := T.under hte
        have hdd : dd = .string := by
          cases dd <;> simp [descOk, hty, Ty.beq] at hdesc
          rfl
        subst hdd
        have e2 : a.eval x = .string b := RepV.str hx
        refine shown_val hinv hd hex (v := .int .u8 ((ByteArray.data b).getD n.toNat 0).toNat) ?_ (SRel.dat (RepV.mk_int _ _))
        rw [e1, e2]
        have hg : b[n.toNat]? = some ((ByteArray.data b).getD n.toNat 0) := by
          have h3 : n.toNat < b.data.size := h2
          rw [getElem?_pos b n.toNat h2, Array.getD_eq_getD_getElem?, Array.getElem?_eq_getElem h3]
          rfl
        simp only [Instr.index, asIntOf, Sem.run_bind, Sem.run_pure, Result.andThen_ok, run_underlying hu, if_pos h0, hg]
      · exact he.elim
    · exact he.elim
  · exact he.elim

theorem shown_len {args : Array Operand} {t : TypeId} {x : Operand} (hop : o.op = .call { callee := .builtin .len, args, argTypes := #[t] }) (ha : args.toList = [x]) {e : Eff} (he : (lenS C t (s.ev x)).is e) : Shown P N F s a w o e := by
  have hx := hinv.ev x
  generalize hsx : s.ev x = sx at *
  have hargs : args = #[x] := by rw [← ha]
  subst hargs
  have hex : execOp a.eval o = (do pure (.value (← Builtin.len_ #[t] o.type #[a.eval x]))) := by
    unfold execOp; rw [hop]
    simp only [resolve, invoke, builtin, List.map_toArray, List.map_cons, List.map_nil]
    rfl
  unfold lenS at he
  split at he
  · rename_i te hte
    split at he
    · rename_i ee hty
      split at he
      · rename_i xs hxs
        obtain ⟨_, rfl⟩ := he
        obtain ⟨ao, cap, e1, _, _⟩ := RepV.slc (hx.asD hxs)
        obtain ⟨et, tee, i, k1, _⟩ := T.slc hte hty
        refine shown_val hinv hd hex (v := .int .i64 (List.length xs : Int)) ?_ (SRel.dat (RepV.mk_int _ _))
        rw [e1]
        simp [Builtin.len_, run_underlying k1, goInt]
      · exact he.elim
    · rename_i hty
      split at he
      · rename_i b hb
        obtain ⟨_, rfl⟩ := he
        have e1 := RepV.str (hx.asD hb)
        obtain ⟨dd, hu, hdesc⟩ := T.under hte
        have hdd : dd = .string := by
          cases dd <;> simp [descOk, hty, Ty.beq] at hdesc
          rfl
        subst hdd
        refine shown_val hinv hd hex (v := .int .i64 (ByteArray.size b : Int)) ?_ (SRel.dat (RepV.mk_int _ _))
        rw [e1]
        simp [Builtin.len_, run_underlying hu, goInt]
      · exact he.elim
    · rename_i n ee hty
      obtain ⟨_, rfl⟩ := he
      obtain ⟨et, tee, k1, _⟩ := T.arr hte hty
      refine shown_val hinv hd hex (v := .int .i64 (n : Int)) ?_ (SRel.dat (RepV.mk_int _ _))
      simp [Builtin.len_, run_underlying k1, goInt]
    · exact he.elim
  · exact he.elim

omit T in
theorem shown_minmax (b : Builtin) (f : Int → Int → Int) (m2 : Value → Value → Sem Value) (hb : ∀ (ts : Array TypeId) (t : TypeId) (cs : Array Bool) (vs : Array Value) (v : Value) (r : List Value), vs.toList = v :: r → builtin b ts t cs vs = (do pure (.value (← r.foldlM m2 v))))
    (hf : ∀ k l p q, m2 (.int k p) (.int l q) = pure (.int k (f p q))) {args : Array Operand} {ts : Array TypeId} (hop : o.op = .call { callee := .builtin b, args, argTypes := ts }) {e : Eff}
    (he : (minmaxS f (args.toList.map s.ev)).is e) : Shown P N F s a w o e := by
  have fold : ∀ (r : List Operand) (k : IntKind) (p n : Int), foldI f k p (r.map s.ev) = some n → ((r.map a.eval).foldlM m2 (.int k p) : Sem Value).run P w = .ok (.int k n) w := by
    intro r
    induction r with
    | nil => intro k p n h; cases h; rfl
    | cons y r ih =>
      intro k p n h
      have hy := hinv.ev y
      simp only [List.map_cons] at h ⊢
      generalize s.ev y = sy at *
      unfold foldI at h
      split at h
      · simp_all
      · rename_i heq
        cases heq
        rename_i l q
        have e1 : a.eval y = .int l q := RepV.int hy
        cases hk : kindEq k l with
        | false => rw [hk] at h; cases h
        | true =>
          rw [hk] at h
          rw [List.foldlM_cons, e1, hf]
          simp only [Sem.run_bind, Sem.run_pure, Result.andThen_ok]
          exact ih k _ n h
      · cases h
  cases hargs : args.toList with
  | nil => rw [hargs] at he; exact he.elim
  | cons y r =>
    have hy := hinv.ev y
    rw [hargs, List.map_cons] at he
    generalize hsy : s.ev y = sy at *
    unfold minmaxS at he
    split at he
    · rename_i k p r' heq
      cases heq
      unfold Out.opt at he
      split at he
      · rename_i u hu
        obtain ⟨_, rfl⟩ := he
        rw [Option.map_eq_some_iff] at hu
        obtain ⟨n, hn, rfl⟩ := hu
        have e1 : a.eval y = .int k p := RepV.int hy
        have hrun := fold r k p n hn
        have hvs : (args.map a.eval).toList = .int k p :: r.map a.eval := by rw [Array.toList_map, hargs, List.map_cons, e1]
        have hex : execOp a.eval o = (do pure (.value (← (r.map a.eval).foldlM m2 (.int k p)))) := by
          unfold execOp; rw [hop]
          simp only [resolve, invoke]
          exact hb _ _ _ _ _ _ hvs
        exact shown_val hinv hd hex hrun (SRel.dat (RepV.mk_int _ _))
      · exact he.elim
    · exact he.elim
end
end Go.Vi
