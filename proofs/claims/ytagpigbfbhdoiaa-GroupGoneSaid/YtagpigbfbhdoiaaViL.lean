/- More operations that leave memory alone. -/
import Derived.Test.YtagpigbfbhdoiaaViG
import Derived.Laws.BytesString
import Derived.Laws.MakeOwn
namespace Go.Vi

theorem run_equalIn_func {P : Program} (w : World) (d : Nat) {t : TypeId} {ps rs : Array TypeId} {v : Bool} (hu : P.underlying t = some (.func ps rs v)) (f : Fn) (c1 c2 : Array Value) :
    (Op.equalIn (d + 1) t (.func f c1 c2) .nilFunc).run P w = .ok false w := by
  simp [Op.equalIn, run_underlying hu]
theorem run_eql_func {P : Program} (w : World) (t : TypeId) {ps rs : Array TypeId} {v : Bool} (hu : P.underlying t = some (.func ps rs v)) (f : Fn) (c1 c2 : Array Value) :
    (binOp .eql t (.func f c1 c2) .nilFunc).run P w = .ok (.bool false) w := by
  have h := run_equalIn_func w 9999 hu f c1 c2
  simp only [binOp]
  simp only [Op.equal, Op.maxDepth, Sem.run_bind, h, Result.andThen_ok, Sem.run_pure]
theorem run_neq_func {P : Program} (w : World) (t : TypeId) {ps rs : Array TypeId} {v : Bool} (hu : P.underlying t = some (.func ps rs v)) (f : Fn) (c1 c2 : Array Value) :
    (binOp .neq t (.func f c1 c2) .nilFunc).run P w = .ok (.bool true) w := by
  have h := run_equalIn_func w 9999 hu f c1 c2
  simp only [binOp]
  simp only [Op.equal, Op.maxDepth, Sem.run_bind, h, Result.andThen_ok, Sem.run_pure, Bool.not_false]

theorem run_equalIn_slice {P : Program} (w : World) (d : Nat) {t e : TypeId} (hu : P.underlying t = some (.slice e)) (ao : Option Addr) (n c : Nat) :
    (Op.equalIn (d + 1) t (.slice ao n c) (.slice none 0 0)).run P w = .ok ao.isNone w := by
  cases ao <;> simp [Op.equalIn, run_underlying hu]
theorem run_eql_slice {P : Program} (w : World) (t : TypeId) {e : TypeId} (hu : P.underlying t = some (.slice e)) (ao : Option Addr) (n c : Nat) :
    (binOp .eql t (.slice ao n c) (.slice none 0 0)).run P w = .ok (.bool ao.isNone) w := by
  have h := run_equalIn_slice w 9999 hu ao n c
  simp only [binOp]
  simp only [Op.equal, Op.maxDepth, Sem.run_bind, h, Result.andThen_ok, Sem.run_pure]
theorem run_neq_slice {P : Program} (w : World) (t : TypeId) {e : TypeId} (hu : P.underlying t = some (.slice e)) (ao : Option Addr) (n c : Nat) :
    (binOp .neq t (.slice ao n c) (.slice none 0 0)).run P w = .ok (.bool !ao.isNone) w := by
  have h := run_equalIn_slice w 9999 hu ao n c
  simp only [binOp]
  simp only [Op.equal, Op.maxDepth, Sem.run_bind, h, Result.andThen_ok, Sem.run_pure]

section
variable {P : Program} {C : Ctx} (T : Types P C.tab) {N : Nat} {F : Fr} {g : Gs} {s : St} {a : Act} {w : World} (hinv : Inv P N F g s a w) {o : Oper} (hd : dstLt N F o.dst)
include hinv hd

/-- What is to be shown of an operation. -/
def Shown (P : Program) (N : Nat) (F : Fr) (s : St) (a : Act) (w : World) (o : Oper) (e : Eff) : Prop :=
  OpOk P o a w fun v w' => ∃ g', Inv P N F g' (s.app o.dst e) (a.put o.dst v) w'

theorem shown_val {m : Sem Value} (hx : execOp a.eval o = (do pure (.value (← m)))) {v : Value} (hrun : m.run P w = .ok v w) {u : S} {rd : List Nat} (hv : SRel P s.heap g w u v) :
    Shown P N F s a w o { val := u, rd := rd } :=
  ok_val hinv hd (by rw [hx]; simp [hrun]) hv

theorem shown_move {x : Operand} (hop : o.op = .move x ∨ o.op = .assign x) : Shown P N F s a w o { val := moveS C o.type x (s.ev x) } := by
  refine ok_val hinv hd (v := a.eval x) (by rcases hop with h | h <;> simp [execOp, h]) ?_
  have h := hinv.ev x
  unfold moveS
  split
  · rename_i hn
    rw [hn] at h
    split
    · split
      · have hv : a.eval _ = .slice none 0 0 := h
        rw [hv]
        cases C.plain with
        | true => exact SRel.dat (RepV.mk_slc (xs := []) (Nat.le_refl 0) rfl)
        | false => exact SRel.of0 ⟨RepV.mk_slc (xs := []) (Nat.le_refl 0) rfl, none, 0, rfl⟩
      · exact h
    · exact h
  · exact h

theorem shown_pick {c x y : Operand} (hop : o.op = .pick c x y) {e : Eff} (he : (pickS (s.ev c) (s.ev x) (s.ev y)).is e) : Shown P N F s a w o e := by
  have hc := hinv.ev c
  have hx := hinv.ev x
  have hy := hinv.ev y
  unfold pickS at he
  split at he
  · rename_i b hcb
    rw [hcb] at hc
    have hcv : a.eval c = .bool b := RepV.bool hc
    have hrun : (execOp a.eval o).run P w = .ok (.value (if b = true then a.eval x else a.eval y)) w := by
      simp [execOp, hop, hcv, asBool]
    split at he
    · rename_i σ x' τ y' hx' hy'
      rw [hx'] at hx
      rw [hy'] at hy
      split at he
      · rename_i y'' hcast
        have := castD_some hcast
        cases this
        obtain ⟨_, rfl⟩ := he
        refine ok_val hinv hd hrun ?_
        cases b
        · exact hy
        · exact hx
      · exact he.elim
    · split at he
      · obtain ⟨_, rfl⟩ := he
        exact ok_val hinv hd hrun (by simpa using hx)
      · obtain ⟨_, rfl⟩ := he
        exact ok_val hinv hd hrun (by simpa using hy)
  · exact he.elim

theorem shown_un {op : UnOp} {t : TypeId} {x : Operand} (hop : o.op = .unOp op t x) {e : Eff} (he : (unS op (s.ev x)).is e) : Shown P N F s a w o e := by
  have hx := hinv.ev x
  have hex : execOp a.eval o = (do pure (.value (← Op.unary op (a.eval x)))) := by simp [execOp, hop]
  unfold unS at he
  split at he
  · rename_i b hb
    rw [hb] at hx
    have hv : a.eval x = .bool b := RepV.bool hx
    rw [hv] at hex
    split at he
    · obtain ⟨_, rfl⟩ := he
      exact shown_val hinv hd hex (v := .bool (!b)) (by simp [Op.unary]) (SRel.dat (RepV.mk_bool _))
    · exact he.elim
  · rename_i k n hb
    rw [hb] at hx
    have hv : a.eval x = .int k n := RepV.int hx
    rw [hv] at hex
    split at he
    · obtain ⟨_, rfl⟩ := he
      exact shown_val hinv hd hex (v := .int k (k.wrap (0 - n))) (by simp [Op.unary, Op.intArith]) (SRel.dat (RepV.mk_int _ _))
    · obtain ⟨_, rfl⟩ := he
      exact shown_val hinv hd hex (v := .int k (bitsI .xor k (if k.signed then -1 else k.max) n)) (by simp [Op.unary, Op.intBits, bitsI]) (SRel.dat (RepV.mk_int _ _))
    · exact he.elim
  · exact he.elim

theorem shown_nilCheck {x : Operand} (hop : o.op = .nilCheck x) {e : Eff} (he : (match s.ev x with
    | .ptr id n root π => Out.val (.ptr id n root π)
    | .cptr τ x => .val (.cptr τ x)
    | .eptr id n e i π => .val (.eptr id n e i π)
    | .fn ps rs g => .val (.fn ps rs g)
    | .seq es xs => .val (.seq es xs)
    | _ => .fail).is e) : Shown P N F s a w o e := by
  have hx := hinv.ev x
  split at he
  · rename_i h
    obtain ⟨_, rfl⟩ := he
    rw [h] at hx
    have hv := hx
    obtain ⟨m, fz, c, h1, h2, h3, h4⟩ := hv
    exact ok_val hinv hd (v := a.eval x) (by simp [execOp, hop, h4]) hx
  · rename_i h
    obtain ⟨_, rfl⟩ := he
    rw [h] at hx
    have hv := hx
    obtain ⟨b, o', cs, h1, h2⟩ := hv
    exact ok_val hinv hd (v := a.eval x) (by simp [execOp, hop, h1]) hx
  · rename_i h
    obtain ⟨_, rfl⟩ := he
    rw [h] at hx
    have hv := hx
    obtain ⟨m, fz, c, h1, h2, h3, h4, _⟩ := hv
    exact ok_val hinv hd (v := a.eval x) (by simp [execOp, hop, h4]) hx
  · rename_i h
    obtain ⟨_, rfl⟩ := he
    rw [h] at hx
    have hv := hx
    obtain ⟨f, caps, h1, h2⟩ := hv
    exact ok_val hinv hd (v := a.eval x) (by simp [execOp, hop, h1]) hx
  · rename_i h
    obtain ⟨_, rfl⟩ := he
    rw [h] at hx
    have hv := hx
    obtain ⟨f, first, caps, h1, h2⟩ := hv
    exact ok_val hinv hd (v := a.eval x) (by simp [execOp, hop, h1]) hx
  · exact he.elim

theorem shown_extract {x : Operand} {i : Nat} (hop : o.op = .extract x i) {e : Eff} (he : (match s.ev x with
    | .tup l => match l[i]? with
      | some v => Out.val v
      | none => .fail
    | _ => .fail).is e) : Shown P N F s a w o e := by
  have hx := hinv.ev x
  split at he
  · rename_i l h
    rw [h] at hx
    obtain ⟨vs, h1, h2⟩ := hx
    split at he
    · rename_i u hu
      obtain ⟨_, rfl⟩ := he
      have hlt : i < l.length := (List.getElem?_eq_some_iff.1 hu).1
      have hr := h2.getD .poison undef i hlt
      have e1 : l.getD i .poison = u := by rw [List.getD_eq_getElem?_getD, hu]; rfl
      rw [e1] at hr
      have hi : i < vs.length := by rw [← h2.length]; exact hlt
      have e2 : vs[i]? = some (vs.getD i undef) := by
        rw [List.getD_eq_getElem?_getD, List.getElem?_eq_getElem hi]; rfl
      refine ok_val hinv hd (v := vs.getD i undef) ?_ (SRel.of0 hr)
      have e3 : vs.toArray[i]? = some (vs.getD i undef) := by simpa using e2
      unfold execOp
      rw [hop]
      simp only [h1, Instr.extract, e3, Sem.run_bind, Sem.run_pure, Result.andThen_ok]
    · exact he.elim
  · exact he.elim

include T
theorem shown_bin (hF : ftsOk P C.fts = true) {op : BinOp} {t yt : TypeId} {x y : Operand} (hop : o.op = .binOp op t x y yt) {e : Eff} (he : (binS C op t (s.ev x) (s.ev y)).is e) : Shown P N F s a w o e := by
  have hx := hinv.ev x
  have hy := hinv.ev y
  have hex : execOp a.eval o = (do pure (.value (← (do eqGuard op t x y (a.eval x) (a.eval y); binOp op t (a.eval x) (a.eval y) : Sem Value)))) := by
    unfold execOp; rw [hop]
  have bools : ∀ (p q : Bool) (m : Sem Value), m = (do eqGuard op t x y (a.eval x) (a.eval y); binOp op t (a.eval x) (a.eval y) : Sem Value) → (op = .eql → m.run P w = .ok (.bool p) w) → (op = .neq → m.run P w = .ok (.bool q) w) →
      (eqS op p q).is e → Shown P N F s a w o e := by
    intro p q m hm h1 h2 he
    rw [← hm] at hex
    cases op <;> simp only [eqS, Out.is, Out.val] at he
    case eql =>
      obtain ⟨_, rfl⟩ := he
      exact shown_val hinv hd hex (h1 rfl) (SRel.dat (RepV.mk_bool _))
    case neq =>
      obtain ⟨_, rfl⟩ := he
      exact shown_val hinv hd hex (h2 rfl) (SRel.dat (RepV.mk_bool _))
  generalize hsx : s.ev x = sx at *
  generalize hsy : s.ev y = sy at *
  unfold binS at he
  split at he
  · rename_i k m l n
    have e1 : a.eval x = .int k m := RepV.int hx
    have e2 : a.eval y = .int l n := RepV.int hy
    rw [e1, e2] at hex
    cases hs : isShift op with
    | true =>
      rw [hs] at he
      obtain ⟨v, hv, u, rfl, hu⟩ := bin_shift (P := P) (w := w) op t x y k l m n e he
      exact shown_val hinv hd hex hv (hu _ _)
    | false =>
      rw [hs] at he
      cases hk : kindEq k l with
      | true =>
        rw [hk] at he
        obtain rfl := kindEq_eq hk
        obtain ⟨v, hv, u, rfl, hu⟩ := bin_int (P := P) (w := w) op t x y k m n e he hs
        exact shown_val hinv hd hex hv (hu _ _)
      | false => rw [hk] at he; exact he.elim
  · rename_i b c
    have e1 : a.eval x = .bool b := RepV.bool hx
    have e2 : a.eval y = .bool c := RepV.bool hy
    have hu : ∀ te, C.te t = some te → te.ty.beq .bool = true → P.underlying t = some .bool := fun te hte hb => by
      obtain ⟨dd, hu, hdesc⟩ := T.under hte
      obtain ⟨ty, nf, bytes⟩ := te
      obtain rfl := Ty.eq_of_beq hb
      cases dd <;> simp [descOk, Ty.beq] at hdesc
      exact hu
    cases hte : C.te t with
    | none => rw [hte] at he; exact he.elim
    | some te =>
      rw [hte] at he
      cases hb : te.ty.beq .bool with
      | false => simp only [hb] at he; exact he.elim
      | true =>
        simp only [hb] at he
        have hu' := hu te hte hb
        refine bools _ _ _ rfl ?_ ?_ he
        · rintro rfl
          simp [e1, e2, eqGuard_at_bool, binOp, Op.equal, Op.maxDepth, run_equalIn_bool' w 9999 t b c hu']
        · rintro rfl
          simp [e1, e2, eqGuard_at_bool, binOp, Op.equal, Op.maxDepth, run_equalIn_bool' w 9999 t b c hu']
  · rename_i b c
    have e1 : a.eval x = .string b := RepV.str hx
    have e2 : a.eval y = .string c := RepV.str hy
    refine bools _ _ _ rfl ?_ ?_ he
    · rintro rfl
      simp [e1, e2, eqGuard_at_string, binOp, Op.stringOp, beq_toListBytes b c]
    · rintro rfl
      simp [e1, e2, eqGuard_at_string, binOp, Op.stringOp, beq_toListBytes b c]
  · rename_i σ u τ v _ _ _
    split at he
    · rename_i te hte
      split at he
      · rename_i u' v' hu hv
        have c1 := castD_some hu
        have c2 := castD_some hv
        cases c1
        cases c2
        cases hb : te.ty.agg && (te.ty.eqs && Nat.blt te.ty.depth 9999) with
        | false => rw [hb] at he; exact he.elim
        | true =>
          rw [hb] at he
          simp only [Bool.and_eq_true] at hb
          obtain ⟨hagg, heqs, hdep⟩ := hb
          have hdep' : te.ty.depth < 9999 := by simpa using hdep
          obtain ⟨cx, hcx, ex⟩ := hx
          obtain ⟨cy, hcy, ey⟩ := hy
          have hrun := eqAt T (G := g.G) (wr := w) 10000 t te hte heqs (by omega) _ _ cx cy hcx hcy w
          have ex' : a.eval x = .agg cx.toArray := by rw [ex]; simp [valOf, hagg]
          have ey' : a.eval y = .agg cy.toArray := by rw [ey]; simp [valOf, hagg]
          rw [← ex, ← ey, ex', ey'] at hrun
          have hg := run_eqGuard_agg (P := P) w op t x y cx.toArray cy.toArray (T.guard hte)
          refine bools _ _ _ rfl ?_ ?_ he
          · rintro rfl
            simp [ex', ey', hg, run_eql_struct, hrun]
          · rintro rfl
            simp [ex', ey', hg, run_neq_struct, hrun]
      · exact he.elim
    · exact he.elim
  · rename_i ps rs f
    obtain ⟨fi, caps, e1, _⟩ := hx
    have e2 : a.eval y = .nilFunc := hy
    cases hm : mem t C.fts with
    | false => rw [hm] at he; exact he.elim
    | true =>
      rw [hm] at he
      obtain ⟨ps', rs', vv, hu⟩ := ftsOk_spec hF hm
      refine bools _ _ _ rfl ?_ ?_ he
      · rintro rfl
        rw [e1, e2, eqGuard_at_func]
        simp only [Sem.run_bind, Sem.run_pure, Result.andThen_ok, run_eql_func w t hu]
      · rintro rfl
        rw [e1, e2, eqGuard_at_func]
        simp only [Sem.run_bind, Sem.run_pure, Result.andThen_ok, run_neq_func w t hu]
  · rename_i es xs
    obtain ⟨fi, first, caps, e1, _⟩ := hx
    have e2 : a.eval y = .nilFunc := hy
    cases hm : mem t C.fts with
    | false => rw [hm] at he; exact he.elim
    | true =>
      rw [hm] at he
      obtain ⟨ps', rs', vv, hu⟩ := ftsOk_spec hF hm
      refine bools _ _ _ rfl ?_ ?_ he
      · rintro rfl
        rw [e1, e2, eqGuard_at_func]
        simp only [Sem.run_bind, Sem.run_pure, Result.andThen_ok, run_eql_func w t hu]
      · rintro rfl
        rw [e1, e2, eqGuard_at_func]
        simp only [Sem.run_bind, Sem.run_pure, Result.andThen_ok, run_neq_func w t hu]
  · rename_i f
    have e1 : a.eval x = .func (.func f) #[] #[] := hx
    have e2 : a.eval y = .nilFunc := hy
    cases hm : mem t C.fts with
    | false => rw [hm] at he; exact he.elim
    | true =>
      rw [hm] at he
      obtain ⟨ps', rs', vv, hu⟩ := ftsOk_spec hF hm
      refine bools _ _ _ rfl ?_ ?_ he
      · rintro rfl
        rw [e1, e2, eqGuard_at_func]
        simp only [Sem.run_bind, Sem.run_pure, Result.andThen_ok, run_eql_func w t hu]
      · rintro rfl
        rw [e1, e2, eqGuard_at_func]
        simp only [Sem.run_bind, Sem.run_pure, Result.andThen_ok, run_neq_func w t hu]
  · have e1 : a.eval x = .slice none 0 0 := hx
    have e2 : a.eval y = .slice none 0 0 := hy
    split at he
    · rename_i te hte
      split at he
      · rename_i e' hty
        obtain ⟨et, _, _, hu, _⟩ := T.slc hte hty
        refine bools _ _ _ rfl ?_ ?_ he
        · rintro rfl
          rw [e1, e2, eqGuard_at_slice]
          simp only [Sem.run_bind, Sem.run_pure, Result.andThen_ok, run_eql_slice w t hu, Option.isNone]
        · rintro rfl
          rw [e1, e2, eqGuard_at_slice]
          simp only [Sem.run_bind, Sem.run_pure, Result.andThen_ok, run_neq_slice w t hu, Option.isNone, Bool.not_true]
      · exact he.elim
    · exact he.elim
  · obtain ⟨_, ad, m, c, e1⟩ := hx
    have e2 : a.eval y = .slice none 0 0 := hy
    split at he
    · rename_i te hte
      split at he
      · rename_i e' hty
        obtain ⟨et, _, _, hu, _⟩ := T.slc hte hty
        refine bools _ _ _ rfl ?_ ?_ he
        · rintro rfl
          rw [e1, e2, eqGuard_at_slice]
          simp only [Sem.run_bind, Sem.run_pure, Result.andThen_ok, run_eql_slice w t hu, Option.isNone]
        · rintro rfl
          rw [e1, e2, eqGuard_at_slice]
          simp only [Sem.run_bind, Sem.run_pure, Result.andThen_ok, run_neq_slice w t hu, Option.isNone, Bool.not_false]
      · exact he.elim
    · exact he.elim
  · exact he.elim
end
end Go.Vi

/- Parts, addresses, loads, lengths. -/
namespace Go.Vi

theorem nf_lt : ∀ (nf i : Nat) (τ σ : Ty), fldTy nf i τ = some σ → i < nf := by
  intro nf i τ
  fun_induction fldTy nf i τ <;> intro σ h
  · omega
  · omega
  · omega
  · omega
  · rename_i ih; have := ih σ h; omega
  · cases h
theorem fldTy_agg {nf i : Nat} {τ σ : Ty} (h : fldTy nf i τ = some σ) : τ.agg = true ∧ ∀ n e, τ ≠ .arr n e := by
  revert h
  fun_cases fldTy nf i τ <;> intro h <;> first | exact ⟨rfl, fun _ _ => by simp⟩ | (simp at h)

theorem pathTy_append : ∀ (π : List Step) (st : Step) (τ σ : Ty), pathTy π τ = some σ → pathTy (π ++ [st]) τ = stepTy st σ
  | [], st, τ, σ, h => by cases h; simp [pathTy]
  | s :: π, st, τ, σ, h => by
    simp only [pathTy, List.cons_append] at h ⊢
    rw [Option.bind_eq_some_iff] at h
    obtain ⟨ρ, h1, h2⟩ := h
    rw [h1, Option.bind_some]
    exact pathTy_append π st ρ σ h2
theorem pathOff_append : ∀ (π : List Step) (st : Step) (τ σ : Ty), pathTy π τ = some σ → pathOff (π ++ [st]) τ = pathOff π τ + stepOff st σ
  | [], st, τ, σ, h => by
    cases h
    simp only [List.nil_append, pathOff, Nat.zero_add]
    split <;> rfl
  | s :: π, st, τ, σ, h => by
    simp only [pathTy] at h
    rw [Option.bind_eq_some_iff] at h
    obtain ⟨ρ, h1, h2⟩ := h
    simp only [List.cons_append, pathOff, h1]
    rw [pathOff_append π st ρ σ h2]; omega
theorem pathIn_append : ∀ (π : List Step) (st : Step) (τ σ : Ty), pathTy π τ = some σ → pathIn π τ → stepIn st σ → pathIn (π ++ [st]) τ
  | [], st, τ, σ, h, _, hs => by cases h; exact ⟨hs, fun _ _ => trivial⟩
  | s :: π, st, τ, σ, h, hp, hs => by
    simp only [pathTy] at h
    rw [Option.bind_eq_some_iff] at h
    obtain ⟨ρ, h1, h2⟩ := h
    exact ⟨hp.1, fun ρ' h' => by
      rw [h1] at h'; cases h'
      exact pathIn_append π st ρ σ h2 (hp.2 ρ h1) hs⟩

section
variable {P : Program} {tab : List (Nat × TE)} (T : Types P tab)
include T
theorem run_loadVar {G : Gh} {wr : World} {t : Nat} {te : TE} (hl : lookO tab t = some te) {y : te.ty.den} {cs : List Value} (hr : Rep G wr te.ty y cs) {b o : Nat} {w : World}
    (hc : ∀ j c, cs[j]? = some c → Cell w b (o + j) = some c) : (loadVar t ⟨b, o, none⟩).run P w = .ok (valOf te.ty cs) w := by
  obtain ⟨d, hd, hagg⟩ := T.agg hl
  obtain ⟨i, hi, hsz, _⟩ := T.info hl
  have hlen := Rep.size _ _ _ hr
  unfold loadVar isAgg
  by_cases ha : te.ty.agg = true
  · have hv : valOf te.ty cs = .agg cs.toArray := by simp [valOf, ha]
    have hcells := run_loadCells_list (P := P) w ⟨b, o, none⟩ cs (fun j v hj => by rw [Addr.add_lit]; exact hc j v hj)
    rw [hv]
    rcases hagg.1 ha with ⟨fs, rfl⟩ | ⟨n, e, rfl⟩ <;> simp [run_underlying hd, sizeOf, typeInfo, hi, hsz, ← hlen, hcells]
  · obtain ⟨u, hu, _⟩ := hr.leaf (by simpa using ha)
    have hv : valOf te.ty cs = u := by rw [hu]; simp [valOf, ha]
    rw [hv]
    have hcell : w.cell? ⟨b, o, none⟩ = some u := by have := hc 0 u (by rw [hu]; rfl); simpa [Cell] using this
    have hd' : ∀ fs, d ≠ .struct fs := fun fs h => ha (hagg.2 (.inl ⟨fs, h⟩))
    have hd'' : ∀ n e, d ≠ .array n e := fun n e h => ha (hagg.2 (.inr ⟨n, e, h⟩))
    cases d <;> first | exact absurd rfl (hd' _) | exact absurd rfl (hd'' _ _) | simp [run_underlying hd, hcell]
end

section
variable {P : Program} {C : Ctx} (T : Types P C.tab) {N : Nat} {F : Fr} {g : Gs} {s : St} {a : Act} {w : World} (hinv : Inv P N F g s a w) {o : Oper} (hd : dstLt N F o.dst)
include hinv hd T

theorem shown_convert {src dst : TypeId} {x : Operand} (hop : o.op = .convert src dst x) {e : Eff} (he : (convS C src dst (s.ev x)).is e) : Shown P N F s a w o e := by
  have hx := hinv.ev x
  generalize hsx : s.ev x = sx at *
  unfold convS at he
  split at he
  · rename_i k n
    have e1 : a.eval x = .int k n := RepV.int hx
    split at he
    · rename_i te te' h1 h2
      split at he
      · rename_i k' hk
        obtain ⟨_, rfl⟩ := he
        obtain ⟨d1, hu1, _⟩ := T.under h1
        obtain ⟨d2, hu2, hdesc⟩ := T.under h2
        have hd2 : d2 = .int k' := by
          cases d2 <;> simp [descOk, hk, Ty.beq] at hdesc
          rw [kindEq_eq hdesc]
        subst hd2
        have hex : execOp a.eval o = (do pure (.value (← convert src dst (a.eval x)))) := by unfold execOp; rw [hop]
        refine shown_val hinv hd hex (v := .int k' (k'.wrap n)) ?_ (SRel.dat (RepV.mk_int _ _))
        rw [e1]
        unfold convert
        simp only [Sem.run_bind, run_underlying hu1, run_underlying hu2, Result.andThen_ok]
        cases d1 <;> rfl
      · exact he.elim
    · exact he.elim
  · split at he
    · rename_i xs te te' hxs h1 h2
      cases hb : te.ty.beq (.slc (.int .u8)) && te'.ty.beq .str with
      | false => rw [hb] at he; exact he.elim
      | true =>
        rw [hb] at he
        obtain ⟨_, rfl⟩ := he
        simp only [Bool.and_eq_true] at hb
        have hrep := hx.asD hxs
        obtain ⟨et, tee, inf, q1, q2, q3, _⟩ := T.slc h1 (Ty.eq_of_beq hb.1)
        obtain ⟨d1, hu1, hd1⟩ := T.under q2
        have hd1' : d1 = .int .u8 := by
          cases d1 <;> simp [descOk, q3, Ty.beq] at hd1
          rw [kindEq_eq hd1]
        subst hd1'
        obtain ⟨d2, hu2, hd2⟩ := T.under h2
        have hd2' : d2 = .string := by
          cases d2 <;> simp [descOk, Ty.eq_of_beq hb.2, Ty.beq] at hd2
          rfl
        subst hd2'
        have hex : execOp a.eval o = (do pure (.value (← convert src dst (a.eval x)))) := by unfold execOp; rw [hop]
        obtain ⟨ao, cap, ev, hle, hrest⟩ := RepV.slc hrep
        refine shown_val hinv hd hex (v := .string (bytesOf xs)) ?_ (SRel.dat (RepV.mk_str _))
        rw [ev, run_convert_bytes_string w src dst et ao _ _ q1 hu1 hu2]
        cases ao with
        | none =>
          have : xs = [] := List.length_eq_zero_iff.1 (by have : cap = 0 := hrest; omega)
          subst this
          rfl
        | some ad =>
          obtain ⟨hsp, css, hes, hcl⟩ := hrest
          have key : ∀ (xs : List Int) (css : List (List Value)), Each (Rep g.G w (.int .u8)) xs css → css.flatten = xs.map (Value.int .u8) := by
            intro xs
            induction xs with
            | nil => intro css h; cases css with
              | nil => rfl
              | cons _ _ => exact h.elim
            | cons x xs ih => intro css h; cases css with
              | nil => exact h.elim
              | cons c css =>
                have h1 : c = [.int .u8 x] := h.1
                rw [List.flatten_cons, ih css h.2, h1]; rfl
          have hfl := key xs css hes
          have hload : (loadCells ad xs.length).run P w = .ok (xs.map (Value.int .u8)).toArray w := by
            have hl : xs.length = (xs.map (Value.int .u8)).length := by simp
            rw [hl]
            rcases hsp with hsp | hcap
            · refine run_loadCells_list w ad _ fun j v hj => ?_
              rw [← hfl] at hj
              have := (hcl j v hj).1
              obtain ⟨bb, oo, ss⟩ := ad
              simp only at hsp
              subst hsp
              rw [Addr.add_lit]
              exact this
            · have : xs = [] := List.length_eq_zero_iff.1 (by omega)
              subst this
              exact run_loadCells_list w ad [] fun j v hj => by cases hj
          exact run_bytesToString w ad _ _ xs hload
    · exact he.elim

theorem shown_field {t : TypeId} {x : Operand} {f : Nat} (hop : o.op = .field t x f) {e : Eff} (he : (fieldS C t f (s.ev x)).is e) : Shown P N F s a w o e := by
  have hx := hinv.ev x
  generalize hsx : s.ev x = sx at *
  unfold fieldS at he
  split at he
  · rename_i σ y
    split at he
    · rename_i te hte
      split at he
      · rename_i y' hc
        cases castD_some hc
        unfold Out.opt at he
        split at he
        · rename_i u hu
          obtain ⟨_, rfl⟩ := he
          rw [Option.map_eq_some_iff] at hu
          obtain ⟨⟨τ, z⟩, hg, rfl⟩ := hu
          have hty := fldGet_ty _ _ _ _ _ _ hg
          obtain ⟨hagg, harr⟩ := fldTy_agg hty
          obtain ⟨fs, h1, h0, h2, h3⟩ := T.struct hte hagg harr
          have hlt := nf_lt _ _ _ _ hty
          obtain ⟨ff, hff⟩ : ∃ ff, fs[f]? = some ff := ⟨_, Array.getElem?_eq_getElem (by omega)⟩
          obtain ⟨_, k2, τ', tef, k3, k4, k5, _⟩ := h3 f ff hff
          rw [hty] at k3
          cases k3
          subst k5
          obtain ⟨cs, hr, ev⟩ := hx
          obtain ⟨hr1, hr2⟩ := fldGet_rep (G := g.G) (w := w) _ _ _ _ _ _ hg cs hr
          have hav : a.eval x = .agg cs.toArray := by rw [ev]; simp [valOf, hagg]
          have hp := run_part T (g := g) (w := w) (cs := cs.toArray) k4 (o := fldOff te.nf f te.ty) hr1 w
          have hex : execOp a.eval o = (do pure (.value (← Instr.field t (a.eval x) f))) := by unfold execOp; rw [hop]
          refine shown_val hinv hd hex (v := valOf tef.ty ((cs.drop (fldOff te.nf f te.ty)).take tef.ty.size)) ?_ (SRel.dat ⟨_, hr1, rfl⟩)
          rw [hav]
          simp only [Instr.field, Sem.run_bind, run_underlying h1, Result.andThen_ok, hff, asAgg, Sem.run_pure, k2]
          exact hp
        · exact he.elim
      · exact he.elim
    · exact he.elim
  · exact he.elim

omit T hinv hd in
theorem inRange_spec {i : Int} {n : Nat} (h : inRange i n = true) : 0 ≤ i ∧ i < n ∧ i.toNat < n := by
  simp only [inRange, Bool.and_eq_true, decide_eq_true_eq] at h
  omega

theorem shown_index {t : TypeId} {x i : Operand} (hop : o.op = .index t x i) {e : Eff} (he : (indexS C t (s.ev x) (s.ev i)).is e) : Shown P N F s a w o e := by
  have hx := hinv.ev x
  have hi := hinv.ev i
  generalize hsx : s.ev x = sx at *
  generalize hsi : s.ev i = si at *
  have hex : execOp a.eval o = (do pure (.value (← Instr.index t (a.eval x) (a.eval i)))) := by unfold execOp; rw [hop]
  unfold indexS at he
  split at he
  · rename_i k n σ y te hte
    have e1 : a.eval i = .int k n := RepV.int hi
    split at he
    · rename_i m ee hty
      split at he
      · rename_i xs hc
        cases castD_some hc
        obtain ⟨hp, rfl⟩ := he
        obtain ⟨h0, h1, h2⟩ := inRange_spec hp
        obtain ⟨et, tee, k1, k2, k3⟩ := T.arr hte hty
        subst k3
        obtain ⟨inf, hinf, hsz, _⟩ := T.info k2
        obtain ⟨cs, hr, ev⟩ := hx
        have hav : a.eval x = .agg cs.toArray := by rw [ev]; simp [valOf, Ty.agg]
        obtain ⟨hn, css, rfl, hes⟩ := hr
        obtain ⟨hr1, _⟩ := hes.item n.toNat (by rw [hn]; exact h2)
        have hpart := run_part T (g := g) (w := w) (cs := css.flatten.toArray) k2 (o := n.toNat * tee.ty.size) hr1 w
        refine shown_val hinv hd hex (v := valOf tee.ty ((css.flatten.drop (n.toNat * tee.ty.size)).take tee.ty.size)) ?_ (SRel.dat ⟨_, hr1, rfl⟩)
        rw [hav, e1]
        simp only [Instr.index, asIntOf, Sem.run_bind, Sem.run_pure, Result.andThen_ok, run_underlying k1, if_pos (And.intro h0 h1), sizeOf, typeInfo, run_program, hinf, hsz]
        exact hpart
      · exact he.elim
    · rename_i hty
      split at he
      · rename_i b hc
        cases castD_some hc
        obtain ⟨hp, rfl⟩ := he
        obtain ⟨h0, h1, h2⟩ := inRange_spec hp
        obtain ⟨dd, hu, hdesc⟩ := T.under hte
        have hdd : dd = .string := by
          cases dd <;> simp [descOk, hty, Ty.beq] at hdesc
          rfl
        subst hdd
        have e2 : a.eval x = .string b := RepV.str hx
        refine shown_val hinv hd hex (v := .int .u8 ((ByteArray.data b).getD n.toNat 0).toNat) ?_ (SRel.dat (RepV.mk_int _ _))
        rw [e1, e2]
        have hg : b[n.toNat]? = some ((ByteArray.data b).getD n.toNat 0) := by
          have h3 : n.toNat < b.data.size := h2
          rw [getElem?_pos b n.toNat h2, Array.getD_eq_getD_getElem?, Array.getElem?_eq_getElem h3]
          rfl
        simp only [Instr.index, asIntOf, Sem.run_bind, Sem.run_pure, Result.andThen_ok, run_underlying hu, if_pos h0, hg]
      · exact he.elim
    · exact he.elim
  · exact he.elim

theorem shown_len {args : Array Operand} {t : TypeId} {x : Operand} (hop : o.op = .call { callee := .builtin .len, args, argTypes := #[t] }) (ha : args.toList = [x]) {e : Eff} (he : (lenS C t (s.ev x)).is e) : Shown P N F s a w o e := by
  have hx := hinv.ev x
  generalize hsx : s.ev x = sx at *
  have hargs : args = #[x] := by rw [← ha]
  subst hargs
  have hex : execOp a.eval o = (do pure (.value (← Builtin.len_ #[t] o.type #[a.eval x]))) := by
    unfold execOp; rw [hop]
    simp only [resolve, invoke, builtin, List.map_toArray, List.map_cons, List.map_nil]
    rfl
  unfold lenS at he
  split at he
  · rename_i te hte
    split at he
    · rename_i ee hty
      split at he
      · rename_i xs hxs
        obtain ⟨_, rfl⟩ := he
        obtain ⟨ao, cap, e1, _, _⟩ := RepV.slc (hx.asD hxs)
        obtain ⟨et, tee, i, k1, _⟩ := T.slc hte hty
        refine shown_val hinv hd hex (v := .int .i64 (List.length xs : Int)) ?_ (SRel.dat (RepV.mk_int _ _))
        rw [e1]
        simp [Builtin.len_, run_underlying k1, goInt]
      · exact he.elim
    · rename_i hty
      split at he
      · rename_i b hb
        obtain ⟨_, rfl⟩ := he
        have e1 := RepV.str (hx.asD hb)
        obtain ⟨dd, hu, hdesc⟩ := T.under hte
        have hdd : dd = .string := by
          cases dd <;> simp [descOk, hty, Ty.beq] at hdesc
          rfl
        subst hdd
        refine shown_val hinv hd hex (v := .int .i64 (ByteArray.size b : Int)) ?_ (SRel.dat (RepV.mk_int _ _))
        rw [e1]
        simp [Builtin.len_, run_underlying hu, goInt]
      · exact he.elim
    · rename_i n ee hty
      obtain ⟨_, rfl⟩ := he
      obtain ⟨et, tee, k1, _⟩ := T.arr hte hty
      refine shown_val hinv hd hex (v := .int .i64 (n : Int)) ?_ (SRel.dat (RepV.mk_int _ _))
      simp [Builtin.len_, run_underlying k1, goInt]
    · exact he.elim
  · exact he.elim

theorem shown_lenV {args : Array Operand} {t : TypeId} {x : Operand} (hop : o.op = .call { callee := .builtin .len, args, argTypes := #[t] }) (ha : args.toList = [x]) {e : Eff} (he : (lenV C s t (s.ev x)).is e) : Shown P N F s a w o e := by
  have hx := hinv.ev x
  unfold lenV at he
  split at he
  · rename_i id n ee hsx
    rw [hsx] at hx
    split at he
    · rename_i fz e' xs te hbox hte
      cases hb : te.ty.beq (.slc ee) && e'.beq ee with
      | false => rw [hb] at he; exact he.elim
      | true =>
        rw [hb, cond_true] at he
        simp only [Bool.and_eq_true] at hb
        obtain ⟨_, rfl⟩ := he
        have hl : lookO s.heap id = some (.box n fz (.row e' xs)) := by
          unfold St.box at hbox
          split at hbox
          · rename_i m fz' c' hl
            cases hb : Nat.beq m n with
            | true =>
              rw [hb] at hbox
              cases hbox
              rw [← Nat.eq_of_beq_eq_true hb]; exact hl
            | false => rw [hb] at hbox; cases hbox
          · cases hbox
        obtain ⟨m, fz0, c, h1, h2, h3⟩ := hx
        rw [hl] at h1
        cases h1
        obtain ⟨_, e2⟩ := h3 rfl
        obtain ⟨ao, Cc, hv, hle, _⟩ : OwnRel g.G w F.m F.B fz (g.ι id n) e' xs (g.ov id).1 := hinv.heap.box id n fz _ hl
        have hargs : args = #[x] := by rw [← ha]
        subst hargs
        have hex : execOp a.eval o = (do pure (.value (← Builtin.len_ #[t] o.type #[a.eval x]))) := by
          unfold execOp; rw [hop]
          simp only [resolve, invoke, builtin, List.map_toArray, List.map_cons, List.map_nil]
          rfl
        obtain ⟨et, tee, i, k1, _⟩ := T.slc hte (Ty.eq_of_beq hb.1)
        refine shown_val hinv hd hex (v := .int .i64 (List.length xs : Int)) ?_ (SRel.dat (RepV.mk_int _ _))
        rw [e2, hv]
        simp [Builtin.len_, run_underlying k1, goInt]
    · exact he.elim
  · exact shown_len T hinv hd hop ha he

omit T in
theorem shown_minmax (b : Builtin) (f : Int → Int → Int) (m2 : Value → Value → Sem Value) (hb : ∀ (ts : Array TypeId) (t : TypeId) (cs : Array Bool) (vs : Array Value) (v : Value) (r : List Value), vs.toList = v :: r → builtin b ts t cs vs = (do pure (.value (← r.foldlM m2 v))))
    (hf : ∀ k l p q, m2 (.int k p) (.int l q) = pure (.int k (f p q))) {args : Array Operand} {ts : Array TypeId} (hop : o.op = .call { callee := .builtin b, args, argTypes := ts }) {e : Eff}
    (he : (minmaxS f (args.toList.map s.ev)).is e) : Shown P N F s a w o e := by
  have fold : ∀ (r : List Operand) (k : IntKind) (p n : Int), foldI f k p (r.map s.ev) = some n → ((r.map a.eval).foldlM m2 (.int k p) : Sem Value).run P w = .ok (.int k n) w := by
    intro r
    induction r with
    | nil => intro k p n h; cases h; rfl
    | cons y r ih =>
      intro k p n h
      have hy := hinv.ev y
      simp only [List.map_cons] at h ⊢
      generalize s.ev y = sy at *
      unfold foldI at h
      split at h
      · simp_all
      · rename_i heq
        cases heq
        rename_i l q
        have e1 : a.eval y = .int l q := RepV.int hy
        cases hk : kindEq k l with
        | false => rw [hk] at h; cases h
        | true =>
          rw [hk] at h
          rw [List.foldlM_cons, e1, hf]
          simp only [Sem.run_bind, Sem.run_pure, Result.andThen_ok]
          exact ih k _ n h
      · cases h
  cases hargs : args.toList with
  | nil => rw [hargs] at he; exact he.elim
  | cons y r =>
    have hy := hinv.ev y
    rw [hargs, List.map_cons] at he
    generalize hsy : s.ev y = sy at *
    unfold minmaxS at he
    split at he
    · rename_i k p r' heq
      cases heq
      unfold Out.opt at he
      split at he
      · rename_i u hu
        obtain ⟨_, rfl⟩ := he
        rw [Option.map_eq_some_iff] at hu
        obtain ⟨n, hn, rfl⟩ := hu
        have e1 : a.eval y = .int k p := RepV.int hy
        have hrun := fold r k p n hn
        have hvs : (args.map a.eval).toList = .int k p :: r.map a.eval := by rw [Array.toList_map, hargs, List.map_cons, e1]
        have hex : execOp a.eval o = (do pure (.value (← (r.map a.eval).foldlM m2 (.int k p)))) := by
          unfold execOp; rw [hop]
          simp only [resolve, invoke]
          exact hb _ _ _ _ _ _ hvs
        exact shown_val hinv hd hex hrun (SRel.dat (RepV.mk_int _ _))
      · exact he.elim
    · exact he.elim
end
end Go.Vi

/- Addresses of parts, loads, parts of slices. -/
namespace Go.Vi

section
variable {P : Program} {C : Ctx} (T : Types P C.tab) {N : Nat} {F : Fr} {g : Gs} {s : St} {a : Act} {w : World} (hinv : Inv P N F g s a w) {o : Oper} (hd : dstLt N F o.dst)

theorem Cells.part {G : Gh} {w : World} {b o : Nat} {cs : List Value} (h : ∀ j c, cs[j]? = some c → Cell w b (o + j) = some c ∧ G.st b (o + j)) (k n : Nat) :
    ∀ j c, ((cs.drop k).take n)[j]? = some c → Cell w b (o + k + j) = some c ∧ G.st b (o + k + j) := by
  intro j c hj
  rw [List.getElem?_take] at hj
  split at hj
  · rw [List.getElem?_drop] at hj
    rw [Nat.add_assoc]
    exact h (k + j) c hj
  · cases hj

/-- A part's address, where the whole's type is known. -/
theorem partPtr_rel {x : S} {v : Value} {H : Heap} (hx : SRel P H g w x v) {τ : Ty} (hp : pointee x = some τ) {st : Step} (hin : stepIn st τ) {e : Eff} (he : (partPtr st x).is e) :
    ∃ b k, v = .pointer (some ⟨b, k, none⟩) ∧ ∃ u, e = { val := u } ∧ SRel P H g w u (.pointer (some ⟨b, k + stepOff st τ, none⟩)) := by
  unfold partPtr at he
  split at he
  · rename_i id n root π
    obtain ⟨_, rfl⟩ := he
    obtain ⟨m, fz, c, h1, h2, h3, h4⟩ := hx
    simp only [pointee] at hp
    refine ⟨_, _, h4, _, rfl, ?_⟩
    refine SRel.of0 ⟨m, fz, c, h1, h2, pathIn_append π st root τ hp h3 hin, ?_⟩
    rw [pathOff_append π st root τ hp]
  · rename_i id n ee i π
    obtain ⟨_, rfl⟩ := he
    obtain ⟨m, fz, c, h1, h2, h3, h4, h5⟩ := hx
    simp only [pointee] at hp
    refine ⟨_, _, h4, _, rfl, ?_⟩
    refine SRel.of0 ⟨m, fz, c, h1, h2, pathIn_append π st ee τ hp h3 hin, ?_, h5⟩
    rw [pathOff_append π st ee τ hp, Nat.add_assoc]
  · rename_i σ y
    simp only [pointee, Option.some.injEq] at hp
    subst hp
    obtain ⟨b, k, cs, h1, h2, h3⟩ := hx
    split at he
    · rename_i ρ z hz
      obtain ⟨_, rfl⟩ := he
      obtain ⟨h4, h5⟩ := stepGet_rep hz hin h2
      exact ⟨b, k, h1, _, rfl, SRel.of0 ⟨b, k + stepOff st σ, _, rfl, h4, Cells.part h3 _ _⟩⟩
    · exact he.elim
  · exact he.elim

include hinv hd T

theorem shown_fieldAddr {t : TypeId} {x : Operand} {f : Nat} (hop : o.op = .fieldAddr t x f) {e : Eff} (he : (fieldAddrS C t f (s.ev x)).is e) : Shown P N F s a w o e := by
  have hx := hinv.ev x
  generalize hsx : s.ev x = sx at *
  have hex : execOp a.eval o = (do pure (.value (← Instr.fieldAt t (a.eval x) f))) := by unfold execOp; rw [hop]
  unfold fieldAddrS at he
  split at he
  · rename_i te τ hte hp
    cases hb : te.ty.beq τ && (fldTy te.nf f te.ty).isSome with
    | false => rw [hb] at he; exact he.elim
    | true =>
      rw [hb] at he
      simp only [Bool.and_eq_true] at hb
      obtain rfl := Ty.eq_of_beq hb.1
      obtain ⟨b, k, e1, u, rfl, hu⟩ := partPtr_rel (P := P) hx hp (st := .fld te.nf f) trivial he
      obtain ⟨σ, hty⟩ := Option.isSome_iff_exists.1 hb.2
      obtain ⟨hagg, harr⟩ := fldTy_agg hty
      obtain ⟨fs, h1, h0, h2, h3⟩ := T.struct hte hagg harr
      have hlt := nf_lt _ _ _ _ hty
      obtain ⟨ff, hff⟩ : ∃ ff, fs[f]? = some ff := ⟨_, Array.getElem?_eq_getElem (by omega)⟩
      obtain ⟨_, k2, τ', tef, k3, k4, k5, k6⟩ := h3 f ff hff
      rw [hty] at k3
      cases k3
      subst k5
      obtain ⟨inf, hinf, hsz, _⟩ := T.info k4
      refine shown_val hinv hd hex (v := .pointer (some ⟨b, k + stepOff (.fld te.nf f) te.ty, none⟩)) ?_ hu
      rw [e1]
      simp only [Instr.fieldAt, Sem.run_bind, run_underlying h1, Result.andThen_ok, hff, Instr.sureAddr, Sem.run_pure, fieldPlace, sizeOf, typeInfo, run_program, hinf, hsz, Sem.run_ite, if_neg k6, k2, Addr.add_lit, stepOff]
  · exact he.elim

theorem shown_indexAddr {t : TypeId} {x i : Operand} (hop : o.op = .indexAddr t x i) {e : Eff} (he : (indexAddrS C t (s.ev x) (s.ev i)).is e) : Shown P N F s a w o e := by
  have hx := hinv.ev x
  have hi := hinv.ev i
  generalize hsx : s.ev x = sx at *
  generalize hsi : s.ev i = si at *
  have hex : execOp a.eval o = (do pure (.value (← Instr.indexAt t (a.eval x) (a.eval i)))) := by unfold execOp; rw [hop]
  unfold indexAddrS at he
  split at he
  · rename_i k n
    have e1 : a.eval i = .int k n := RepV.int hi
    split at he
    · rename_i te hte
      split at he
      · rename_i m ee hty
        split at he
        · rename_i τ hp
          cases hb : (Ty.arr m ee).beq τ && Nat.ble 2 m with
          | false => rw [hb] at he; exact he.elim
          | true =>
            rw [hb, cond_true] at he
            simp only [Bool.and_eq_true] at hb
            obtain rfl := Ty.eq_of_beq hb.1
            obtain ⟨et, tee, k1, k2, k3⟩ := T.arr hte hty
            subst k3
            obtain ⟨inf, hinf, hsz, _⟩ := T.info k2
            cases hpp : partPtr (.idx (Int.toNat n)) sx with
            | fail => rw [hpp] at he; exact he.elim
            | call rs oo mk => rw [hpp] at he; exact he.elim
            | emit es xx => rw [hpp] at he; exact he.elim
            | callO rs oo mk => rw [hpp] at he; exact he.elim
            | ok pre ee =>
              rw [hpp] at he
              obtain ⟨hpre, rfl⟩ := he
              simp only [Bool.and_eq_true] at hpre
              obtain ⟨h0, h1, h2⟩ := inRange_spec hpre.2
              have hpre2 := hpre.1
              subst hpre2
              obtain ⟨b, o', e2, u, rfl, hu⟩ := partPtr_rel (P := P) hx hp (st := .idx (Int.toNat n)) (by exact h2) (by rw [hpp]; exact ⟨rfl, rfl⟩)
              refine shown_val hinv hd hex (v := .pointer (some ⟨b, o' + stepOff (.idx (Int.toNat n)) (.arr m tee.ty), none⟩)) ?_ hu
              rw [e1, e2]
              simp only [Instr.indexAt, asIntOf, Sem.run_bind, Sem.run_pure, Result.andThen_ok, run_underlying k1, Instr.sureAddr, Sem.run_ite, if_pos (And.intro h0 h1), sizeOf, typeInfo, run_program, hinf, hsz, Addr.add_lit, stepOff]
        · exact he.elim
      · rename_i ee hty
        split at he
        · rename_i xs hxs
          obtain ⟨hp, rfl⟩ := he
          obtain ⟨h0, h1, h2⟩ := inRange_spec hp
          obtain ⟨ao, cap, e2, hcap, hrow⟩ := RepV.slc (hx.asD hxs)
          obtain ⟨et, tee, inf, k1, k2, k3, k4, k5, _⟩ := T.slc hte hty
          cases ao with
          | none => simp only at hrow; omega
          | some ad =>
            obtain ⟨b, off, spot⟩ := ad
            obtain ⟨hspot, css, hes, hcells⟩ := hrow
            have hspot : spot = none := hspot.resolve_right (by omega)
            subst hspot
            obtain ⟨hr1, hr2⟩ := hes.item n.toNat h2
            refine shown_val hinv hd hex (v := .pointer (some ⟨b, off + n.toNat * ee.size, none⟩)) ?_ (SRel.of0 ⟨b, off + n.toNat * ee.size, _, rfl, hr1, Cells.part hcells _ _⟩)
            rw [e1, e2]
            simp only [Instr.indexAt, asIntOf, Sem.run_bind, Sem.run_pure, Result.andThen_ok, run_underlying k1, Sem.run_ite, if_pos (And.intro h0 h1), sizeOf, typeInfo, run_program, k4, k5, Addr.add_lit]
        · exact he.elim
      · exact he.elim
    · exact he.elim
  · exact he.elim

omit hinv hd T in
theorem box_spec {id n : Nat} {fz : Bool} {c : S} (h : s.box id n = some (fz, c)) : lookO s.heap id = some (.box n fz c) := by
  unfold St.box at h
  split at h
  · rename_i m fz' c' hl
    cases hb : Nat.beq m n with
    | true =>
      rw [hb] at h
      cases h
      rw [← Nat.eq_of_beq_eq_true hb]; exact hl
    | false => rw [hb] at h; cases h
  · cases h

omit hd T in
/-- A slice of the run's own. -/
theorem row_rel {id n : Nat} {fz : Bool} {e' : Ty} {xs : List e'.den} (h : s.box id n = some (fz, .row e' xs)) : OwnRel g.G w F.m F.B fz (g.ι id n) e' xs (g.ov id).1 :=
  hinv.heap.box id n fz _ (box_spec h)
omit hd T in
theorem vec_rel {id n : Nat} {e : Ty} {v : Value} (hx : SRel P s.heap g w (.vec id n e) v) {fz : Bool} {e' : Ty} {xs : List e'.den} (h : s.box id n = some (fz, .row e' xs)) : v = (g.ov id).1 ∧ e' = e ∧ OwnRel g.G w F.m F.B fz (g.ι id n) e' xs v := by
  obtain ⟨m, fz0, c, h1, h2, h3⟩ := hx
  rw [box_spec h] at h1
  cases h1
  obtain ⟨⟨k, hk⟩, rfl⟩ := h3 rfl
  cases hk
  exact ⟨rfl, rfl, row_rel hinv h⟩

theorem shown_indexAddrV {t : TypeId} {x i : Operand} (hop : o.op = .indexAddr t x i) {e : Eff} (he : (indexAddrV C s t (s.ev x) (s.ev i)).is e) : Shown P N F s a w o e := by
  have hx := hinv.ev x
  have hi := hinv.ev i
  unfold indexAddrV at he
  split at he
  · rename_i id n ee hsx
    rw [hsx] at hx
    split at he
    · rename_i k nn hsi
      rw [hsi] at hi
      have e1 : a.eval i = .int k nn := RepV.int hi
      split at he
      · rename_i fz e' xs te hbox hte
        cases hb : te.ty.beq (.slc ee) && e'.beq ee with
        | false => rw [hb] at he; exact he.elim
        | true =>
          rw [hb, cond_true] at he
          simp only [Bool.and_eq_true] at hb
          obtain ⟨hp, rfl⟩ := he
          obtain ⟨h0, h1, h2⟩ := inRange_spec hp
          obtain ⟨e2, rfl, hown⟩ := vec_rel hinv hx hbox
          obtain ⟨ao, Cc, hv, hle, hrow⟩ := hown
          obtain ⟨et, tee, inf, k1, k2, k3, k4, k5, _⟩ := T.slc hte (Ty.eq_of_beq hb.1)
          rcases hrow with hrow | ⟨rfl, _⟩
          · omega
          have hex : execOp a.eval o = (do pure (.value (← Instr.indexAt t (a.eval x) (a.eval i)))) := by unfold execOp; rw [hop]
          refine shown_val hinv hd hex (v := .pointer (some ⟨g.ι id n, 0 + nn.toNat * e'.size, none⟩)) ?_ (SRel.of0 ⟨n, fz, _, box_spec hbox, Nat.le_refl _, trivial, ?_, fun _ => ⟨_, rfl, h2⟩⟩)
          · rw [e1, hv]
            simp only [Instr.indexAt, asIntOf, Sem.run_bind, Sem.run_pure, Result.andThen_ok, run_underlying k1, Sem.run_ite, if_pos (And.intro h0 h1), sizeOf, typeInfo, run_program, k4, k5, Addr.add_lit]
          · simp [pathOff]
      · exact he.elim
    · exact he.elim
  · exact shown_indexAddr T hinv hd hop he

omit hinv hd T in
theorem tyIs_spec {t : Nat} {τ : Ty} (h : tyIs C t τ = true) : ∃ te, lookO C.tab t = some te ∧ te.ty = τ := tabTy_spec h

omit hd T in
theorem box_cells {id n : Nat} {fz : Bool} {c : S} (h : s.box id n = some (fz, c)) (hc : conC c = true := by rfl) : ∃ cs et, w.heap[g.ι id n]? = some (.cells cs et (0, 0)) ∧ ConRel P s.heap g w c cs.toList ∧
    g.G (g.ι id n) = (if fz = true then Own.stays else Own.mine F.m) ∧ True ∧ ∀ j c, cs.toList[j]? = some c → Cell w (g.ι id n) j = some c := by
  obtain ⟨cs, et, h1, h2, h3⟩ := (hinv.heap.box id n fz c (box_spec h)).con hc
  refine ⟨cs, et, h1, h2, h3, trivial, fun j c hj => ?_⟩
  unfold Cell
  rw [cell_of_row w _ j cs et (0, 0) h1]
  simpa using hj

theorem shown_load (hF : ftsOk P C.fts = true) (hP : ptsOk P C.pts = true) {t : TypeId} {x : Operand} (hop : o.op = .load t x) {e : Eff} (he : (loadS C s t (s.ev x)).is e) : Shown P N F s a w o e := by
  have hx := hinv.ev x
  generalize hsx : s.ev x = sx at *
  have hex : execOp a.eval o = (do pure (.value (← Instr.loadAt t (a.eval x)))) := by unfold execOp; rw [hop]
  unfold loadS at he
  split at he
  · rename_i id n root π
    obtain ⟨m, fz0, c0, h1, h2, h3, e1⟩ := hx
    have hdat : ∀ (σ : Ty) (y : σ.den) (cs : Array Value) (τ : Ty) (z : τ.den), Rep g.G w σ y cs.toList → (∀ j c, cs.toList[j]? = some c → Cell w (g.ι id n) j = some c) → pathGet π ⟨σ, y⟩ = some ⟨τ, z⟩ →
        (bif tyIs C t τ && σ.beq root then Out.ok true { val := .dat τ z, rd := [id] } else .fail).is e → Shown P N F s a w o e := by
      intro σ y cs τ z k2 k5 hg he
      cases hb : tyIs C t τ && σ.beq root with
      | false => rw [hb] at he; exact he.elim
      | true =>
        rw [hb] at he
        obtain ⟨_, rfl⟩ := he
        simp only [Bool.and_eq_true] at hb
        obtain rfl := Ty.eq_of_beq hb.2
        obtain ⟨te, hte, rfl⟩ := tyIs_spec hb.1
        obtain ⟨hr, _⟩ := pathGet_rep (G := g.G) (w := w) π ⟨σ, y⟩ _ hg h3 _ k2
        refine shown_val hinv hd hex (v := valOf te.ty ((cs.toList.drop (pathOff π σ)).take te.ty.size)) ?_ (SRel.dat ⟨_, hr, rfl⟩)
        rw [e1]
        simp only [Instr.loadAt, Instr.sureAddr, Sem.run_bind, Sem.run_pure, Result.andThen_ok]
        refine run_loadVar T hte hr (fun j c hj => ?_)
        rw [List.getElem?_take] at hj
        split at hj
        · rw [List.getElem?_drop] at hj
          exact k5 _ _ hj
        · cases hj
    split at he
    · rename_i fz σ y π0 k ee ys hbox
      obtain ⟨cs, et, k1, ⟨k2, kin, kget, v, kv, krel⟩, k3, k4, k5⟩ := box_cells hinv hbox
      cases hpb : pathBeq π π0 with
      | true =>
        rw [hpb, cond_true] at he
        obtain rfl := pathBeq_eq hpb
        cases hb : tyIs C t (.slc ee) && σ.beq root with
        | false => rw [hb] at he; exact he.elim
        | true =>
          rw [hb] at he
          obtain ⟨_, rfl⟩ := he
          simp only [Bool.and_eq_true] at hb
          obtain rfl := Ty.eq_of_beq hb.2
          obtain ⟨te, hte, hty⟩ := tyIs_spec hb.1
          obtain ⟨et', tee, inf, q1, _⟩ := T.slc hte hty
          refine shown_val hinv hd hex (v := v) ?_ (SRel.of0 krel)
          rw [e1]
          have hc : w.cell? ⟨g.ι id n, pathOff π σ, none⟩ = some v := k5 _ v kv
          simp [Instr.loadAt, Instr.sureAddr, loadVar, isAgg, run_underlying q1, hc]
      | false =>
        rw [hpb, cond_false] at he
        split at he
        · rename_i τ z hg
          exact hdat σ y cs τ z k2 k5 hg he
        · exact he.elim
    · rename_i fz σ y hbox
      obtain ⟨cs, et, k1, k2, k3, k4, k5⟩ := box_cells hinv hbox
      split at he
      · rename_i τ z hg
        cases hb : tyIs C t τ && σ.beq root with
        | false => rw [hb] at he; exact he.elim
        | true =>
          rw [hb] at he
          obtain ⟨_, rfl⟩ := he
          simp only [Bool.and_eq_true] at hb
          obtain rfl := Ty.eq_of_beq hb.2
          obtain ⟨te, hte, rfl⟩ := tyIs_spec hb.1
          obtain ⟨hr, _⟩ := pathGet_rep (G := g.G) (w := w) π ⟨σ, y⟩ _ hg h3 _ k2
          refine shown_val hinv hd hex (v := valOf te.ty ((cs.toList.drop (pathOff π σ)).take te.ty.size)) ?_ (SRel.dat ⟨_, hr, rfl⟩)
          rw [e1]
          simp only [Instr.loadAt, Instr.sureAddr, Sem.run_bind, Sem.run_pure, Result.andThen_ok]
          refine run_loadVar T hte hr (fun j c hj => ?_)
          rw [List.getElem?_take] at hj
          split at hj
          · rw [List.getElem?_drop] at hj
            exact k5 _ _ hj
          · cases hj
      · exact he.elim
    · rename_i fz k ee y hbox
      obtain ⟨cs, et, k1, ⟨v, k2, k2'⟩, k3, k4, k5⟩ := box_cells hinv hbox
      split at he
      · cases hb : tyIs C t (.slc ee) with
        | false => rw [hb] at he; exact he.elim
        | true =>
          rw [hb] at he
          obtain ⟨_, rfl⟩ := he
          obtain ⟨te, hte, hty⟩ := tyIs_spec hb
          obtain ⟨et', tee, inf, q1, _⟩ := T.slc hte hty
          refine shown_val hinv hd hex (v := v) ?_ (SRel.of0 k2')
          rw [e1]
          have hc : w.cell? ⟨g.ι id n, 0, none⟩ = some v := k5 0 v (by rw [k2]; rfl)
          simp [Instr.loadAt, Instr.sureAddr, pathOff, loadVar, isAgg, run_underlying q1, hc]
      · exact he.elim
    · rename_i fz ps rs f hbox
      obtain ⟨cs, et, k1, ⟨v, k2, k2'⟩, k3, k4, k5⟩ := box_cells hinv hbox
      split at he
      · cases hb : mem t C.fts with
        | false => rw [hb] at he; exact he.elim
        | true =>
          rw [hb] at he
          obtain ⟨_, rfl⟩ := he
          obtain ⟨ps', rs', vv, q1⟩ := ftsOk_spec hF hb
          refine shown_val hinv hd hex (v := v) ?_ (SRel.of0 k2')
          rw [e1]
          have hc : w.cell? ⟨g.ι id n, 0, none⟩ = some v := k5 0 v (by rw [k2]; rfl)
          simp [Instr.loadAt, Instr.sureAddr, pathOff, loadVar, isAgg, run_underlying q1, hc]
      · exact he.elim
    · rename_i fz id' n' root' π' hbox
      obtain ⟨cs, et, k1, ⟨v, k2, k2'⟩, k3, k4, k5⟩ := box_cells hinv hbox
      split at he
      · cases hb : mem t C.pts with
        | false => rw [hb] at he; exact he.elim
        | true =>
          rw [hb] at he
          obtain ⟨_, rfl⟩ := he
          obtain ⟨pe, q1⟩ := ptsOk_spec hP hb
          refine shown_val hinv hd hex (v := v) ?_ (SRel.of0 k2')
          rw [e1]
          have hc : w.cell? ⟨g.ι id n, 0, none⟩ = some v := k5 0 v (by rw [k2]; rfl)
          simp [Instr.loadAt, Instr.sureAddr, pathOff, loadVar, isAgg, run_underlying q1, hc]
      · exact he.elim
    · rename_i fz es xs hbox
      obtain ⟨cs, et, k1, ⟨v, k2, k2'⟩, k3, k4, k5⟩ := box_cells hinv hbox
      split at he
      · cases hb : mem t C.fts with
        | false => rw [hb] at he; exact he.elim
        | true =>
          rw [hb] at he
          obtain ⟨_, rfl⟩ := he
          obtain ⟨ps', rs', vv, q1⟩ := ftsOk_spec hF hb
          refine shown_val hinv hd hex (v := v) ?_ (SRel.of0 k2')
          rw [e1]
          have hc : w.cell? ⟨g.ι id n, 0, none⟩ = some v := k5 0 v (by rw [k2]; rfl)
          simp [Instr.loadAt, Instr.sureAddr, pathOff, loadVar, isAgg, run_underlying q1, hc]
      · exact he.elim
    · rename_i fz es hbox
      obtain ⟨cs, et, k1, ⟨v, k2, k2'⟩, k3, k4, k5⟩ := box_cells hinv hbox
      split at he
      · cases hb : mem t C.fts with
        | false => rw [hb] at he; exact he.elim
        | true =>
          rw [hb] at he
          obtain ⟨_, rfl⟩ := he
          obtain ⟨ps', rs', vv, q1⟩ := ftsOk_spec hF hb
          refine shown_val hinv hd hex (v := v) ?_ (SRel.of0 k2')
          rw [e1]
          have hc : w.cell? ⟨g.ι id n, 0, none⟩ = some v := k5 0 v (by rw [k2]; rfl)
          simp [Instr.loadAt, Instr.sureAddr, pathOff, loadVar, isAgg, run_underlying q1, hc]
      · exact he.elim
    · exact he.elim
  · rename_i τ y
    obtain ⟨b, k, cs, e1, h2, h3⟩ := hx
    cases hb : tyIs C t τ with
    | false => rw [hb] at he; exact he.elim
    | true =>
      rw [hb] at he
      obtain ⟨_, rfl⟩ := he
      obtain ⟨te, hte, rfl⟩ := tyIs_spec hb
      refine shown_val hinv hd hex (v := valOf te.ty cs) ?_ (SRel.dat ⟨_, h2, rfl⟩)
      rw [e1]
      simp only [Instr.loadAt, Instr.sureAddr, Sem.run_bind, Sem.run_pure, Result.andThen_ok]
      exact run_loadVar T hte h2 (fun j c hj => (h3 j c hj).1)
  · rename_i id n ee i π
    obtain ⟨m, fz0, c0, h1, h2, h3, e1, h4⟩ := hx
    split at he
    · rename_i fz e' xs hbox
      split at he
      · rename_i τ z hg
        cases hb : tyIs C t τ && e'.beq ee with
        | false => rw [hb] at he; exact he.elim
        | true =>
          rw [hb] at he
          obtain ⟨_, rfl⟩ := he
          simp only [Bool.and_eq_true] at hb
          obtain rfl := Ty.eq_of_beq hb.2
          obtain ⟨te, hte, rfl⟩ := tyIs_spec hb.1
          rw [box_spec hbox] at h1
          cases h1
          obtain ⟨k, hk, hik⟩ := h4 rfl
          cases hk
          obtain ⟨ao, Cc, hv, hle, hrow⟩ := row_rel hinv hbox
          rcases hrow with hrow | ⟨_, _, cs, et, css, rest, q1, q2, q3, q4, q5⟩
          · omega
          obtain ⟨r1, r2⟩ := q3.item i hik
          obtain ⟨hr, hr2⟩ := pathGet_rep (G := g.G) (w := w) π ⟨e', _⟩ _ hg h3 _ r1
          refine shown_val hinv hd hex (v := valOf te.ty ((((css.flatten.drop (i * e'.size)).take e'.size).drop (pathOff π e')).take te.ty.size)) ?_ (SRel.dat ⟨_, hr, rfl⟩)
          rw [e1]
          simp only [Instr.loadAt, Instr.sureAddr, Sem.run_bind, Sem.run_pure, Result.andThen_ok]
          refine run_loadVar T hte hr (fun j c hj => ?_)
          have hj' : css.flatten[i * e'.size + pathOff π e' + j]? = some c := by
            rw [List.getElem?_take] at hj
            split at hj
            · rw [List.getElem?_drop, List.getElem?_take] at hj
              split at hj
              · rw [List.getElem?_drop] at hj
                rw [Nat.add_assoc]; exact hj
              · cases hj
            · cases hj
          unfold Cell
          rw [cell_of_row w _ _ cs et (0, 0) q1, ← Array.getElem?_toList, q2, List.getElem?_append_left (List.getElem?_eq_some_iff.1 hj').1]
          exact hj'
      · exact he.elim
    · exact he.elim
  · exact he.elim
end
end Go.Vi

/- Parts of slices and of strings. -/
namespace Go.Vi

def OptRel (v : Option Value) (i : Option Int) : Prop := match i with
  | none => v = none
  | some n => ∃ k, v = some (.int k n)

theorem run_bounds {P : Program} {w : World} (isS : Bool) (len cap : Nat) {lo hi mx : Option Value} {lo' hi' mx' : Option Int} (hlo : OptRel lo lo') (hhi : OptRel hi hi') (hmx : OptRel mx mx')
    (hnone : hi' = none → mx' = none) (h0 : 0 ≤ lo'.getD 0) (h1 : lo'.getD 0 ≤ hi'.getD len) (h2 : hi'.getD len ≤ mx'.getD cap) (h3 : mx'.getD cap ≤ cap) :
    (Instr.sliceBounds isS len cap lo hi mx).run P w = .ok ((lo'.getD 0).toNat, (hi'.getD len).toNat, (mx'.getD cap).toNat) w := by
  unfold Instr.sliceBounds
  cases mx' with
  | some m =>
    obtain ⟨km, rfl⟩ := hmx
    cases hi' with
    | none => exact absurd (hnone rfl) (by simp)
    | some h =>
      obtain ⟨kh, rfl⟩ := hhi
      simp only [Option.getD_some] at h1 h2 h3
      cases lo' with
      | none =>
        simp only [OptRel] at hlo
        subst hlo
        simp only [Option.getD_none] at h0 h1
        simp [run_sliceBound w km m cap _ (by omega) h3, run_sliceBound w kh h m.toNat _ h1 (by omega)]
      | some l =>
        obtain ⟨kl, rfl⟩ := hlo
        simp only [Option.getD_some] at h0 h1
        simp [run_sliceBound w km m cap _ (by omega) h3, run_sliceBound w kh h m.toNat _ (by omega) (by omega), run_sliceBound w kl l h.toNat _ h0 (by omega)]
  | none =>
    simp only [OptRel] at hmx
    subst hmx
    simp only [Option.getD_none] at h2 h3
    cases hi' with
    | none =>
      simp only [OptRel] at hhi
      subst hhi
      simp only [Option.getD_none] at h1 h2
      cases lo' with
      | none => simp only [OptRel] at hlo; subst hlo; simp
      | some l =>
        obtain ⟨kl, rfl⟩ := hlo
        simp only [Option.getD_some] at h0 h1
        simp [run_sliceBound w kl l len _ h0 h1]
    | some h =>
      obtain ⟨kh, rfl⟩ := hhi
      simp only [Option.getD_some] at h1 h2
      cases lo' with
      | none =>
        simp only [OptRel] at hlo
        subst hlo
        simp only [Option.getD_none] at h0 h1
        simp [run_sliceBound w kh h cap _ h1 h2]
      | some l =>
        obtain ⟨kl, rfl⟩ := hlo
        simp only [Option.getD_some] at h0 h1
        simp [run_sliceBound w kh h cap _ (by omega) h2, run_sliceBound w kl l h.toNat _ h0 (by omega)]

theorem flatten_drop {n : Nat} : ∀ {css : List (List Value)}, (∀ c ∈ css, c.length = n) → ∀ l, (css.drop l).flatten = css.flatten.drop (l * n)
  | _, _, 0 => by simp
  | [], _, l + 1 => by simp
  | c :: css, h, l + 1 => by
    have hc := h c (by simp)
    rw [List.drop_succ_cons, flatten_drop (fun d hd => h d (by simp [hd])) l, List.flatten_cons, Nat.succ_mul, Nat.add_comm, ← hc, List.drop_append, List.drop_of_length_le (Nat.le_add_right _ _), List.nil_append, Nat.add_sub_cancel_left]
theorem flatten_take {n : Nat} : ∀ {css : List (List Value)}, (∀ c ∈ css, c.length = n) → ∀ l, (css.take l).flatten = css.flatten.take (l * n)
  | _, _, 0 => by simp
  | [], _, l + 1 => by simp
  | c :: css, h, l + 1 => by
    have hc := h c (by simp)
    rw [List.take_succ_cons, List.flatten_cons, flatten_take (fun d hd => h d (by simp [hd])) l, List.flatten_cons, Nat.succ_mul, Nat.add_comm, ← hc, List.take_append, List.take_of_length_le (Nat.le_add_right _ _), Nat.add_sub_cancel_left]

/-- A part of a slice, as a value. -/
theorem RepV.sub {G : Gh} {w : World} {e : Ty} {xs : List e.den} {ao : Option Addr} {cap : Nat} (h : RepV G w (.slc e) xs (.slice ao xs.length cap)) {l k m : Nat} (h1 : l ≤ k) (h2 : k ≤ xs.length) (h3 : k ≤ m) (h4 : m ≤ cap) :
    RepV G w (.slc e) (Vi.sub xs l k) (.slice (if m = l then ao else ao.map (·.add (l * e.size))) (k - l) (m - l)) := by
  have hlen : (Vi.sub xs l k).length = k - l := by simp [Vi.sub]; omega
  obtain ⟨ao', cap', he, hcap, hrow⟩ := RepV.slc h
  cases he
  rw [← hlen]
  by_cases hm : m = l
  · rw [if_pos hm]
    have hnil : Vi.sub xs l k = [] := List.eq_nil_of_length_eq_zero (by omega)
    rw [hnil]
    refine RepV.mk_slc (by simp) ?_
    cases ao with
    | none => show m - l = 0; omega
    | some a => exact ⟨.inr (by omega), [], trivial, fun j v hj => by simp at hj⟩
  · rw [if_neg hm]
    cases ao with
    | none => simp only at hrow; omega
    | some a =>
      obtain ⟨b, off, spot⟩ := a
      obtain ⟨hspot, css, hes, hcells⟩ := hrow
      have hspot : spot = none := hspot.resolve_right (by omega)
      subst hspot
      rw [Option.map_some, Addr.add_lit]
      refine RepV.mk_slc (by omega) ⟨.inl rfl, (css.take k).drop l, (hes.take k).drop l, fun j v hj => ?_⟩
      have hs := hes.sizes
      rw [flatten_drop (fun c hc => hs c (List.mem_of_mem_take hc)), flatten_take hs, List.getElem?_drop, List.getElem?_take] at hj
      split at hj
      · have := hcells _ v hj
        rw [Nat.add_assoc]
        exact this
      · cases hj

section
variable {P : Program} {C : Ctx} (T : Types P C.tab) {N : Nat} {F : Fr} {g : Gs} {s : St} {a : Act} {w : World} (hinv : Inv P N F g s a w) {o : Oper} (hd : dstLt N F o.dst)
include hinv

theorem boundS_rel {x : Option Operand} {i : Option Int} (h : boundS s x = some i) : OptRel (x.map a.eval) i := by
  cases x with
  | none => cases h; rfl
  | some x =>
    have hx := hinv.ev x
    simp only [boundS] at h
    split at h
    · rename_i k n heq
      rw [heq] at hx
      cases h
      exact ⟨k, by rw [Option.map_some, RepV.int hx]⟩
    · cases h

omit hinv in
/-- What a part of a list is, and its bounds. -/
theorem sliceList_spec {H : Heap} {e : Ty} {xs : List e.den} {whole : Bool} {lo hi mx : Option Int} {ao : Option Addr} {cap : Nat} (hr : RepV g.G w (.slc e) xs (.slice ao xs.length cap))
    (hw : whole = true → cap = xs.length) {ef : Eff} (he : (sliceList e xs whole lo hi mx).is ef) :
    (hi = none → mx = none) ∧ 0 ≤ lo.getD 0 ∧ lo.getD 0 ≤ hi.getD (xs.length : Nat) ∧ hi.getD (xs.length : Nat) ≤ mx.getD (cap : Nat) ∧ mx.getD (cap : Nat) ≤ cap ∧
      ∃ u, ef = { val := u } ∧ SRel P H g w u (.slice (if (mx.getD (cap : Nat)).toNat = (lo.getD 0).toNat then ao else ao.map (·.add ((lo.getD 0).toNat * e.size))) ((hi.getD (xs.length : Nat)).toNat - (lo.getD 0).toNat) ((mx.getD (cap : Nat)).toNat - (lo.getD 0).toNat)) := by
  have hcap : xs.length ≤ cap := by obtain ⟨ao', cap', he, hcap, _⟩ := RepV.slc hr; cases he; exact hcap
  unfold sliceList at he
  split at he
  · obtain ⟨hp, rfl⟩ := he
    simp only [Bool.and_eq_true, decide_eq_true_eq] at hp
    simp only [Option.getD_none]
    refine ⟨by simp, hp.1, hp.2, by omega, Int.le_refl _, _, rfl, ?_⟩
    have hs := RepV.sub hr (l := (lo.getD 0).toNat) (k := xs.length) (m := cap) (by omega) (Nat.le_refl _) hcap (Nat.le_refl _)
    have hsub : Vi.sub xs (lo.getD 0).toNat xs.length = xs.drop (lo.getD 0).toNat := by simp [Vi.sub]
    rw [hsub] at hs
    simp only [Int.toNat_natCast]
    cases whole with
    | true =>
      have := hw rfl
      subst this
      exact SRel.of0 ⟨hs, _, _, rfl⟩
    | false => exact SRel.of0 hs
  · rename_i h
    obtain ⟨hp, rfl⟩ := he
    simp only [Bool.and_eq_true, decide_eq_true_eq] at hp
    simp only [Option.getD_none, Option.getD_some]
    refine ⟨fun hh => (by cases hh), hp.1, hp.2.1, by omega, Int.le_refl _, _, rfl, ?_⟩
    have hs := RepV.sub hr (l := (lo.getD 0).toNat) (k := h.toNat) (m := cap) (by omega) (by omega) (by omega) (Nat.le_refl _)
    simp only [Int.toNat_natCast]
    exact SRel.of0 hs
  · rename_i h m
    obtain ⟨hp, rfl⟩ := he
    simp only [Bool.and_eq_true, decide_eq_true_eq] at hp
    obtain ⟨p1, p2, p3, p4⟩ := hp
    subst p3
    simp only [Option.getD_some]
    refine ⟨fun hh => (by cases hh), p1, p2, Int.le_refl _, by omega, _, rfl, ?_⟩
    have hs := RepV.sub hr (l := (lo.getD 0).toNat) (k := h.toNat) (m := h.toNat) (by omega) (by omega) (by omega) (by omega)
    exact SRel.of0 ⟨hs, _, _, rfl⟩
  · exact he.elim

include hd T
theorem shown_slice_list {t : TypeId} {x : Operand} {lo hi mx : Option Operand} (hop : o.op = .slice t x lo hi mx) {te : TE} (hte : C.te t = some te) {e : Ty} (hty : te.ty = .slc e) {lo' hi' mx' : Option Int}
    (h1 : boundS s lo = some lo') (h2 : boundS s hi = some hi') (h3 : boundS s mx = some mx') {sx : S} (hx : SRel P s.heap g w sx (a.eval x)) {xs : List e.den} (hxs : asD (.slc e) sx = some xs) {ef : Eff}
    (he : (sliceList e xs (isClip sx) lo' hi' mx').is ef) : Shown P N F s a w o ef := by
  have hr := hx.asD hxs
  obtain ⟨ao, cap, e1, hcap, hrow⟩ := RepV.slc hr
  rw [e1] at hr
  have hwhole : (isClip sx) = true → cap = xs.length := by
    intro hw
    unfold isClip at hw
    split at hw
    · obtain ⟨_, ao', n, hv⟩ := hx
      rw [e1] at hv
      cases hv; rfl
    · have hv : a.eval x = .slice none 0 0 := hx
      rw [e1] at hv
      injection hv with q1 q2 q3
      omega
    · cases hw
  obtain ⟨hn, b0, b1, b2, b3, u, rfl, hu⟩ := sliceList_spec (P := P) (H := s.heap) hr hwhole he
  obtain ⟨et, tee, inf, k1, k2, k3, k4, k5, _⟩ := T.slc hte hty
  have hb := run_bounds (P := P) (w := w) true xs.length cap (boundS_rel hinv h1) (boundS_rel hinv h2) (boundS_rel hinv h3) hn b0 b1 b2 b3
  have hex : execOp a.eval o = (do pure (.value (← Instr.sliceAt t (a.eval x) (lo.map a.eval) (hi.map a.eval) (mx.map a.eval)))) := by unfold execOp; rw [hop]
  refine shown_val hinv hd hex ?_ hu
  rw [e1]
  simp only [Instr.sliceAt, Instr.slice, Sem.run_bind, run_underlying k1, Result.andThen_ok, hb, sizeOf, typeInfo, run_program, k4, Sem.run_pure, k5]

theorem shown_slice_str {t : TypeId} {x : Operand} {lo hi mx : Option Operand} (hop : o.op = .slice t x lo hi mx) {te : TE} (hte : C.te t = some te) (hty : te.ty = .str) {lo' hi' : Option Int}
    (h1 : boundS s lo = some lo') (h2 : boundS s hi = some hi') (h3 : boundS s mx = some none) {sx : S} (hx : SRel P s.heap g w sx (a.eval x)) {b : ByteArray} (hb : asD .str sx = some b)
    (hpre : (decide (0 ≤ lo'.getD 0) && (decide (lo'.getD 0 ≤ hi'.getD (ByteArray.size b)) && decide (hi'.getD (ByteArray.size b) ≤ (ByteArray.size b : Int)))) = true) :
    Shown P N F s a w o { val := .dat .str (ByteArray.extract b (lo'.getD 0).toNat (hi'.getD (ByteArray.size b)).toNat) } := by
  have e1 := RepV.str (hx.asD hb)
  simp only [Bool.and_eq_true, decide_eq_true_eq] at hpre
  obtain ⟨p0, p1, p2⟩ := hpre
  have hmx : mx = none := by
    cases mx with
    | none => rfl
    | some m =>
      simp only [boundS] at h3
      split at h3 <;> cases h3
  subst hmx
  have hbd := run_bounds (P := P) (w := w) false b.size b.size (boundS_rel hinv h1) (boundS_rel hinv h2) (mx := none) (mx' := none) rfl (fun _ => rfl) p0 p1 (by simpa using p2) (by simp)
  obtain ⟨dd, hu, hdesc⟩ := T.under hte
  have hdd : dd = .string := by
    cases dd <;> simp [descOk, hty, Ty.beq] at hdesc
    rfl
  subst hdd
  have hex : execOp a.eval o = (do pure (.value (← Instr.sliceAt t (a.eval x) (lo.map a.eval) (hi.map a.eval) none))) := by unfold execOp; rw [hop]; rfl
  refine shown_val hinv hd hex (v := .string (b.extract (lo'.getD 0).toNat (hi'.getD b.size).toNat)) ?_ (SRel.dat (RepV.mk_str _))
  rw [e1]
  simp only [Instr.sliceAt, Instr.slice, Sem.run_bind, run_underlying hu, Result.andThen_ok, hbd, Sem.run_pure, Option.isSome_none, Bool.false_eq_true, if_false]
end
end Go.Vi

/- Operations that make or write memory of the run's own. -/
namespace Go.Vi
open Go.RowKit (Below)

/-- A draw. -/
theorem Kp.drew {p : Own → Prop} {G : Gh} {w : World} : Kp p G w G w.drew := ⟨rfl, rfl, rfl, Nat.le_refl _, fun _ _ _ => ⟨rfl, rfl⟩, ⟨fun _ _ _ hc hs => ⟨hc, hs⟩⟩⟩
theorem Inv.drew {P : Program} {N : Nat} {F : Fr} {g : Gs} {s : St} {a : Act} {w : World} (h : Inv P N F g s a w) : Inv P N F g s a { w with drawn := w.drawn + 1 } := by
  have ha : Adv g.G w g.G w.drew := ⟨fun _ _ _ hc hs => ⟨hc, hs⟩⟩
  exact ⟨fun t => (h.slots t).ext (Ext.refl _ _) ha, h.size, h.defers, h.heap.mono (w' := w.drew) (fun _ _ => rfl) g (fun _ _ => rfl) rfl rfl rfl, h.stp.trans Kp.drew, h.lv, h.mt, h.hB, h.objs, h.pin, h.yl, h.hp, h.hrd, h.lv0⟩

theorem replicate_flatten_get {α : Type} (z : List α) : ∀ (n j : Nat), (List.replicate n z).flatten[j]? = if j < n * z.length then z[j % z.length]? else none
  | 0, j => by simp
  | n + 1, j => by
    rw [List.replicate_succ, List.flatten_cons, List.getElem?_append, Nat.succ_mul]
    by_cases h : j < z.length
    · rw [if_pos h, if_pos (by omega), Nat.mod_eq_of_lt h]
    · rw [if_neg h, replicate_flatten_get z n (j - z.length)]
      by_cases h2 : j - z.length < n * z.length
      · rw [if_pos h2, if_pos (by omega), ← Nat.mod_eq_sub_mod (by omega)]
      · rw [if_neg h2, if_neg (by omega)]

theorem range_zero (z : Array Value) (n : Nat) (hz : 0 < z.size) : ((Array.range (n * z.size)).map (z[· % z.size]!)).toList = (List.replicate n z.toList).flatten := by
  apply List.ext_getElem?
  intro j
  rw [replicate_flatten_get]
  simp only [Array.toList_map, Array.toList_range, List.getElem?_map, Array.length_toList]
  by_cases h : j < n * z.size
  · rw [if_pos h, List.getElem?_range h]
    have hm : j % z.size < z.size := Nat.mod_lt _ hz
    simp [hm]
  · rw [if_neg h, List.getElem?_eq_none (by simpa using h)]; rfl

/-- A row of the heap is laid over the others: one block alone may have changed. -/
theorem HeapRel.addBox {P : Program} {H : Heap} {g g' : Gs} {w w' : World} {F : Fr} (h : HeapRel P H g w F) {id n : Nat} {fz : Bool} {c : S} (tb : Option Nat)
    (hw : ∀ b, b < w.heap.size → tb ≠ some b → w'.heap[b]? = w.heap[b]? ∧ g'.G b = g.G b) (hov : ∀ id', id' ≠ id → g'.ov id' = g.ov id') (hι : ∀ id' n', id' ≠ id → g'.ι id' n' = g.ι id' n')
    (hbox : BoxRel P ((id, .box n fz c) :: H) g' w' F id n fz c) (hfree : ∀ id' n' fz' c', lookO H id' = some (.box n' fz' c') → id' ≠ id → Real g id' c' → tb ≠ some (g.ι id' n') ∧ (Real g' id c → g.ι id' n' ≠ g'.ι id n))
    (hroom : ∀ T m, lookO H T = some (.tok m) → ∀ b, roomOf (g.ov T) = some b → tb ≠ some b)
    (hx : Ext H g ((id, .box n fz c) :: H) g') (ha : Adv g.G w g'.G w') : HeapRel P ((id, .box n fz c) :: H) g' w' F := by
  refine ⟨fun id' n' fz' c' hl => ?_, fun T m hl => ?_, fun id1 n1 fz1 c1 id2 n2 fz2 c2 h1 h2 hne r1 r2 => ?_, fun T1 n1 T2 n2 h1 h2 hne b hb => ?_⟩
  · rw [lookO_cons] at hl
    by_cases hid : id = id'
    · rw [if_pos hid] at hl
      cases hl
      subst hid
      exact hbox
    · rw [if_neg hid] at hl
      exact (h.box id' n' fz' c' hl).step hx ha (hι id' n' (Ne.symm hid)) (hov id' (Ne.symm hid)) fun hr hlt => hw _ hlt (hfree id' n' fz' c' hl (Ne.symm hid) hr).1
  · rw [lookO_cons] at hl
    by_cases hid : id = T
    · rw [if_pos hid] at hl; cases hl
    · rw [if_neg hid] at hl
      obtain ⟨ao, k, cp, h1, h2, h3⟩ := h.tok T m hl
      have hov' := hov T (Ne.symm hid)
      refine ⟨ao, k, cp, by rw [hov']; exact h1, h2, ?_⟩
      by_cases hkc : k = cp
      · exact .inl hkc
      · rcases h3 with h3 | ⟨b, o1, cur, et, h4, h5, h6, h7, h8⟩
        · exact absurd h3 hkc
        · have hlt : b < w.heap.size := (Array.getElem?_eq_some_iff.1 h7).1
          have hne : tb ≠ some b := by
            refine hroom T m hl b ?_
            rw [roomOf, h1, h4]
            simp only
            rw [if_pos (by omega)]
          obtain ⟨q1, q2⟩ := hw b hlt hne
          exact .inr ⟨b, o1, cur, et, h4, by rw [q2, hov']; exact h5, h6, by rw [q1]; exact h7, by rw [hov']; exact h8⟩
  · rw [lookO_cons] at h1 h2
    by_cases e1 : id = id1
    · rw [if_pos e1] at h1
      cases h1
      have e2 : id ≠ id2 := by rw [e1]; exact hne
      rw [if_neg e2] at h2
      have := (hfree id2 n2 fz2 c2 h2 (Ne.symm e2) (r2.of (hov id2 (Ne.symm e2)))).2 (by rw [e1]; exact r1)
      rw [hι id2 n2 (Ne.symm e2), ← e1]
      exact Ne.symm this
    · rw [if_neg e1] at h1
      by_cases e2 : id = id2
      · rw [if_pos e2] at h2
        cases h2
        have := (hfree id1 n1 fz1 c1 h1 (Ne.symm e1) (r1.of (hov id1 (Ne.symm e1)))).2 (by rw [e2]; exact r2)
        rw [hι id1 n1 (Ne.symm e1), ← e2]
        exact this
      · rw [if_neg e2] at h2
        rw [hι id1 n1 (Ne.symm e1), hι id2 n2 (Ne.symm e2)]
        exact h.apart _ _ _ _ _ _ _ _ h1 h2 hne (r1.of (hov id1 (Ne.symm e1))) (r2.of (hov id2 (Ne.symm e2)))
  · rw [lookO_cons] at h1 h2
    by_cases e1 : id = T1
    · rw [if_pos e1] at h1; cases h1
    · rw [if_neg e1] at h1
      by_cases e2 : id = T2
      · rw [if_pos e2] at h2; cases h2
      · rw [if_neg e2] at h2
        rw [hov T1 (Ne.symm e1)] at hb
        rw [hov T2 (Ne.symm e2)]
        exact h.rooms _ _ _ _ h1 h2 hne b hb

/-- A right's row is laid over the others: one block alone may have changed. -/
theorem HeapRel.addTok {P : Program} {H : Heap} {g g' : Gs} {w w' : World} {F : Fr} (h : HeapRel P H g w F) {T n : Nat} (tb : Option Nat)
    (hw : ∀ b, b < w.heap.size → tb ≠ some b → w'.heap[b]? = w.heap[b]? ∧ g'.G b = g.G b) (hι : g'.ι = g.ι) (hov : ∀ T', T' ≠ T → g'.ov T' = g.ov T')
    (htok : TokRel g' w' F T) (hsub : ∀ k, roomOf (g'.ov T) = some k → tb = some k) (hfree : ∀ id n fz c, lookO H id = some (.box n fz c) → Real g id c → tb ≠ some (g.ι id n))
    (hroom : ∀ T' m, lookO H T' = some (.tok m) → T' ≠ T → ∀ b, roomOf (g.ov T') = some b → tb ≠ some b)
    (hx : Ext H g ((T, .tok n) :: H) g') (ha : Adv g.G w g'.G w') : HeapRel P ((T, .tok n) :: H) g' w' F := by
  refine ⟨fun id n' fz c hl => ?_, fun T' m hl => ?_, fun id1 n1 fz1 c1 id2 n2 fz2 c2 h1 h2 hne r1 r2 => ?_, fun T1 n1 T2 n2 h1 h2 hne b hb => ?_⟩
  · rw [lookO_cons] at hl
    by_cases hid : T = id
    · rw [if_pos hid] at hl; cases hl
    · rw [if_neg hid] at hl
      exact (h.box id n' fz c hl).step hx ha (by rw [hι]) (hov id (Ne.symm hid)) fun hr hlt => hw _ hlt (hfree id n' fz c hl hr)
  · rw [lookO_cons] at hl
    by_cases hid : T = T'
    · subst hid; exact htok
    · rw [if_neg hid] at hl
      obtain ⟨ao, k, cp, h1, h2, h3⟩ := h.tok T' m hl
      have hov' := hov T' (Ne.symm hid)
      refine ⟨ao, k, cp, by rw [hov']; exact h1, h2, ?_⟩
      by_cases hkc : k = cp
      · exact .inl hkc
      · rcases h3 with h3 | ⟨b, o1, cur, et, h4, h5, h6, h7, h8⟩
        · exact absurd h3 hkc
        · have hlt : b < w.heap.size := (Array.getElem?_eq_some_iff.1 h7).1
          have hrm : roomOf (g.ov T') = some b := by
            rw [roomOf, h1, h4]
            simp only
            rw [if_pos (by omega)]
          obtain ⟨q1, q2⟩ := hw b hlt (hroom T' m hl (Ne.symm hid) b hrm)
          exact .inr ⟨b, o1, cur, et, h4, by rw [q2, hov']; exact h5, h6, by rw [q1]; exact h7, by rw [hov']; exact h8⟩
  · rw [lookO_cons] at h1 h2
    by_cases e1 : T = id1
    · rw [if_pos e1] at h1; cases h1
    · rw [if_neg e1] at h1
      by_cases e2 : T = id2
      · rw [if_pos e2] at h2; cases h2
      · rw [if_neg e2] at h2
        rw [hι]
        exact h.apart _ _ _ _ _ _ _ _ h1 h2 hne (r1.of (hov id1 (Ne.symm e1))) (r2.of (hov id2 (Ne.symm e2)))
  · rw [lookO_cons] at h1 h2
    by_cases e1 : T = T1
    · subst e1
      have e2 : T ≠ T2 := hne
      rw [if_neg e2] at h2
      rw [hov T2 (Ne.symm e2)]
      intro hb2
      exact hroom T2 n2 h2 (Ne.symm e2) b hb2 (hsub b hb)
    · rw [if_neg e1] at h1
      rw [hov T1 (Ne.symm e1)] at hb
      by_cases e2 : T = T2
      · subst e2
        intro hb2
        exact hroom T1 n1 h1 (Ne.symm e1) b hb (hsub b hb2)
      · rw [if_neg e2] at h2
        rw [hov T2 (Ne.symm e2)]
        exact h.rooms _ _ _ _ h1 h2 hne b hb

/-- What is behind the heap's end is free. -/
theorem HeapRel.lt {P : Program} {H : Heap} {g : Gs} {w : World} {F : Fr} (h : HeapRel P H g w F) : (∀ id n fz c, lookO H id = some (.box n fz c) → Real g id c → g.ι id n < w.heap.size) ∧
    ∀ T m, lookO H T = some (.tok m) → ∀ b, roomOf (g.ov T) = some b → b < w.heap.size := by
  refine ⟨fun id n fz c hl hr => ?_, fun T m hl b hb => ?_⟩
  · obtain ⟨cs, et, h1, _⟩ := (h.box id n fz c hl).block hr
    exact (Array.getElem?_eq_some_iff.1 h1).1
  · obtain ⟨ao, k, cp, h1, h2, h3⟩ := h.tok T m hl
    rw [roomOf, h1] at hb
    cases ao with
    | none => cases hb
    | some ad =>
      simp only at hb
      split at hb
      · cases hb
        rcases h3 with h3 | ⟨b', o1, cur, et, h4, h5, h6, h7, h8⟩
        · omega
        · cases h4
          exact (Array.getElem?_eq_some_iff.1 h7).1
      · cases hb

theorem heap_alloc {w : World} {ob : Obj} {b : Nat} (h : b < w.heap.size) : (w.alloc ob).heap[b]? = w.heap[b]? := Below.heap_alloc w ob b h

/-- A new block is a step. -/
theorem Stp.alloc {F : Fr} {G G' : Gh} {w : World} (ob : Obj) (hG : ∀ b, b < w.heap.size → G' b = G b) (hn : (G' w.heap.size).upto F.t) : Stp F G w G' (w.alloc ob) := by
  have hb : ∀ b : Nat, b < w.heap.size → (w.alloc ob).heap[b]? = w.heap[b]? := fun b hb => heap_alloc hb
  refine ⟨⟨rfl, rfl, rfl, by simp, fun b h _ => ⟨hb b h, hG b h⟩, ⟨fun b o' v hcell hs => ?_⟩⟩, fun hl b h => ?_, NC.of_blocks hb hG⟩
  · have h := Cell.lt hcell
    refine ⟨by rw [Cell.of_block (hb b h)]; exact hcell, ?_⟩
    unfold Gh.st at *
    rw [hG b h]; exact hs
  · simp only [World.size_alloc] at h
    by_cases e : b = w.heap.size
    · rw [e]; exact hn
    · rw [hG b (by omega)]; exact hl b (by omega)

/-- A new row of the heap. -/
theorem Inv.newBox {P : Program} {fz0 : Bool} {N : Nat} {F : Fr} {g : Gs} {s : St} {a : Act} {w : World} (hinv : Inv P N F g s a w) {d n : Nat} (hd : dstLt N F (some d)) (hn : nextBox s d = some n) {c : S} {cs : Array Value} {et : TypeId} {u : S} {v ov : Value}
    (hc : ∀ g' : Gs, g'.ι d n = w.heap.size → (g'.ov d).1 = ov → g'.G w.heap.size = (if fz0 = true then Own.stays else Own.mine F.m) → Adv g.G w g'.G (w.alloc (.cells cs et)) → Ext s.heap g ((d, .box n fz0 c) :: s.heap) g' →
      BoxRel P ((d, .box n fz0 c) :: s.heap) g' (w.alloc (.cells cs et)) F d n fz0 c ∧ SRel P ((d, .box n fz0 c) :: s.heap) g' (w.alloc (.cells cs et)) u v) {rd : List Nat} :
    ∃ g', Inv P N F g' (s.app (some d) { val := u, hw := [(d, .box n fz0 c)], rd := rd }) (a.put (some d) v) (w.alloc (.cells cs et)) := by
  obtain ⟨g', hg'⟩ : ∃ g' : Gs, g' = ⟨fun b => if b = w.heap.size then (if fz0 = true then Own.stays else Own.mine F.m) else g.G b, fun id' n' => if id' = d ∧ n' = n then w.heap.size else g.ι id' n', fun T => if T = d then (ov, 0) else g.ov T, g.yl⟩ := ⟨_, rfl⟩
  have hι : g'.ι d n = w.heap.size := by simp [hg']
  have hov : (g'.ov d).1 = ov := by simp [hg']
  have hGn : g'.G w.heap.size = (if fz0 = true then Own.stays else Own.mine F.m) := by simp [hg']
  have hG : ∀ b, b < w.heap.size → g'.G b = g.G b := fun b hb => by rw [hg']; exact if_neg (by omega)
  have hιo : ∀ id' n', ¬ (id' = d ∧ n' = n) → g'.ι id' n' = g.ι id' n' := fun id' n' h => by rw [hg']; exact if_neg h
  have hovo : ∀ T, T ≠ d → g'.ov T = g.ov T := fun T h => by rw [hg']; exact if_neg h
  have hyl : g'.yl = g.yl := by rw [hg']
  clear hg'
  have ha : Adv g.G w g'.G (w.alloc (.cells cs et)) := ⟨fun b o' v hcell hs => by
    have hb := Cell.lt hcell
    refine ⟨by rw [Cell.of_block (heap_alloc hb)]; exact hcell, ?_⟩
    unfold Gh.st at *
    rw [hG b hb]; exact hs⟩
  have hnt : ∀ m, lookO s.heap d ≠ some (.tok m) := fun m hl => by simp [nextBox, hl] at hn
  have hx : Ext s.heap g ((d, .box n fz0 c) :: s.heap) g' := by
    refine ⟨fun id m fz c' hl => ?_, fun T m hl => ⟨m, ?_, Nat.le_refl _, fun _ => hovo T (fun h => hnt m (by rw [← h]; exact hl))⟩, hyl⟩
    · by_cases hid : d = id
      · subst hid
        have hnm : n = m + 1 := by simp [nextBox, hl] at hn; omega
        refine ⟨n, fz0, c, by rw [lookO_cons, if_pos rfl], by omega, fun k hk => hιo _ _ (by omega), fun h => by omega⟩
      · refine ⟨m, fz, c', by rw [lookO_cons, if_neg hid]; exact hl, Nat.le_refl _, fun k hk => hιo _ _ (fun h => hid h.1.symm), fun _ => ⟨hovo id (Ne.symm hid), rfl⟩⟩
    · rw [lookO_cons, if_neg (fun h => hnt m (by rw [h]; exact hl))]; exact hl
  have hlt := hinv.heap.lt
  obtain ⟨hb, hs⟩ := hc g' hι hov hGn ha hx
  refine ⟨g', hinv.app (d := some d) (e := { val := u, hw := [(d, .box n fz0 c)], rd := rd }) hd hx hs ?_ (Stp.alloc _ hG (by rw [hGn]; cases fz0 <;> first | trivial | exact hinv.mt))⟩
  refine hinv.heap.addBox (g' := g') (id := d) (n := n) (fz := fz0) (c := c) none (fun b hb _ => ⟨heap_alloc hb, hG b hb⟩) (fun id' h => hovo id' h) (fun id' n' hne => hιo _ _ (fun h => hne h.1)) hb ?_ (fun _ _ _ _ _ h => by cases h) hx ha
  intro id' n' fz' c' hl _ hr
  refine ⟨fun h => (by cases h), fun _ => ?_⟩
  rw [hι]
  have := hlt.1 id' n' fz' c' hl hr
  omega

/-- A new variable. -/
theorem Inv.alloc {P : Program} {fz0 : Bool} {N : Nat} {F : Fr} {g : Gs} {s : St} {a : Act} {w : World} (hinv : Inv P N F g s a w) {d n : Nat} (hd : dstLt N F (some d)) (hn : nextBox s d = some n) {c : S} {cs : Array Value} {et : TypeId}
    (hc : ConRel P s.heap g w c cs.toList) {rd : List Nat} (root : Ty) :
    ∃ g', Inv P N F g' (s.app (some d) { val := .ptr d n root [], hw := [(d, .box n fz0 c)], rd := rd }) (a.put (some d) (.pointer (some ⟨w.heap.size, 0, none⟩))) (w.alloc (.cells cs et)) := by
  refine hinv.newBox (fz0 := fz0) (u := .ptr d n root []) (ov := undef) hd hn fun g' h1 _ h3 ha hx => ⟨BoxRel.of_con ⟨cs, et, by rw [h1]; exact heap_alloc_new w _, hc.ext hx ha, by rw [h1, h3]⟩, SRel.of0 (s := .ptr d n root []) ⟨n, fz0, c, by simp [lookO_cons], Nat.le_refl _, trivial, by rw [h1]; rfl⟩⟩

section
variable {P : Program} {C : Ctx} (T : Types P C.tab) {N : Nat} {F : Fr} {g : Gs} {s : St} {a : Act} {w : World} (hinv : Inv P N F g s a w) {o : Oper} (hd : dstLt N F o.dst)
include hinv hd T

theorem shown_alloc {t : TypeId} (hop : o.op = .alloc t) {d n : Nat} (hdst : o.dst = some d) {te : TE} (hte : C.te t = some te) (hn : nextBox s d = some n) :
    Shown P N F s a w o { val := .ptr d n te.ty [], hw := [(d, .box n false (zeroC te.ty))], rd := [d] } := by
  obtain ⟨i, hi, hsz, hz⟩ := T.info hte
  have hcells : (valOf te.ty (zeroV te.ty)).cells = (zeroV te.ty).toArray := (Rep.zero g.G w te.ty).cells
  have hrun : (execOp a.eval o).run P w = .ok (.value (.pointer (some ⟨w.heap.size, 0, none⟩))) (w.alloc (.cells (zeroV te.ty).toArray t)) := by
    unfold execOp
    rw [hop]
    simp only [Instr.alloc, zeroValue, typeInfo, Sem.run_bind, run_program, hi, Sem.run_pure, Result.andThen_ok, hz, newVar, newRow, hcells, run_newObj, World.alloc_eq]
  have hc : ConRel P s.heap g w (zeroC te.ty) (zeroV te.ty).toArray.toList := by
    unfold zeroC
    split
    · rename_i e hty
      refine ⟨.slice none 0 0, by rw [hty]; rfl, RepV.mk_slc (xs := []) (Nat.le_refl 0) rfl, none, 0, rfl⟩
    · exact Rep.zero g.G w te.ty
  rw [hdst] at hd
  obtain ⟨g', hg'⟩ := hinv.alloc (fz0 := false) (et := t) hd hn hc (rd := [d]) te.ty
  exact .value hrun ⟨g', by rw [hdst]; exact hg'⟩

omit T hd hinv in
theorem RepV.cells {τ : Ty} {x : τ.den} {v : Value} {G : Gh} (h : RepV G w τ x v) : Rep G w τ x v.cells.toList := by
  obtain ⟨cs, h1, rfl⟩ := h
  rw [h1.cells]; exact h1

omit T hd hinv in
/-- What a slot's value is as a variable's content. -/
theorem SRel.content {H : Heap} {τ : Ty} {u c : S} {v : Value} (h : SRel P H g w u v) (hc : contentOf τ u = some c) : ConRel P H g w c v.cells.toList := by
  unfold contentOf at hc
  split at hc
  · rename_i k e x
    cases hb : (Ty.slc e).beq τ with
    | false => rw [hb] at hc; cases hc
    | true =>
      rw [hb] at hc
      cases hc
      have hrep : RepV g.G w (.slc e) x v := by cases k <;> exact h.1
      obtain ⟨ao, cap, e1, _⟩ := RepV.slc hrep
      exact ⟨v, by rw [e1]; rfl, h⟩
  · split at hc
    · cases hc
      have hv : v = .slice none 0 0 := h
      subst hv
      exact ⟨_, rfl, RepV.mk_slc (xs := []) (Nat.le_refl 0) rfl, none, 0, rfl⟩
    · cases hc
  · rw [Option.map_eq_some_iff] at hc
    obtain ⟨x, hx, rfl⟩ := hc
    exact (h.asD hx).cells

omit T in
theorem shown_box {t : TypeId} {x : Operand} (hop : o.op = .box t x) {e : Eff} (he : (match o.dst with
    | some d => match nextBox s d with
      | some n => match C.te t with
        | some te => match contentOf te.ty (s.ev x) with
          | some c => Out.ok true { val := .ptr d n te.ty [], hw := [(d, .box n (mem d C.cold) c)], rd := [d] }
          | none => .fail
        | none => match s.ev x with
          | .fn ps rs g => .ok true { val := .ptr d n .unit [], hw := [(d, .box n false (.fn ps rs g))], rd := [d] }
          | .seq es xs => .ok true { val := .ptr d n .unit [], hw := [(d, .box n false (.seq es xs))], rd := [d] }
          | .ptr id' n' root' π' => .ok true { val := .ptr d n .unit [], hw := [(d, .box n false (.ptr id' n' root' π'))], rd := [d] }
          | .yld es => .ok true { val := .ptr d n .unit [], hw := [(d, .box n false (.yld es))], rd := [d] }
          | _ => .fail
      | none => .fail
    | none => .fail).is e) : Shown P N F s a w o e := by
  have hx := hinv.ev x
  have hrun : (execOp a.eval o).run P w = .ok (.value (.pointer (some ⟨w.heap.size, 0, none⟩))) (w.alloc (.cells (a.eval x).cells t)) := by
    unfold execOp
    rw [hop]
    simp only [Instr.box, Sem.run_bind, Sem.run_pure, Result.andThen_ok, newVar, newRow, run_newObj, World.alloc_eq]
  split at he
  · rename_i d hdst
    rw [hdst] at hd
    split at he
    · rename_i n hn
      split at he
      · rename_i te hte
        split at he
        · rename_i c hc
          obtain ⟨_, rfl⟩ := he
          obtain ⟨g', hg'⟩ := hinv.alloc (fz0 := mem d C.cold) (et := t) hd hn (hx.content hc) (rd := [d]) te.ty
          exact .value hrun ⟨g', by rw [hdst]; exact hg'⟩
        · exact he.elim
      · split at he
        · rename_i ps rs f heq
          obtain ⟨_, rfl⟩ := he
          rw [heq] at hx
          have hx' := hx
          obtain ⟨fi, caps, e1, _⟩ := hx'
          have hc : ConRel P s.heap g w (.fn ps rs f) (a.eval x).cells.toList := ⟨a.eval x, by rw [e1]; rfl, hx⟩
          obtain ⟨g', hg'⟩ := hinv.alloc (fz0 := false) (et := t) hd hn hc (rd := [d]) .unit
          exact .value hrun ⟨g', by rw [hdst]; exact hg'⟩
        · rename_i es xs heq
          obtain ⟨_, rfl⟩ := he
          rw [heq] at hx
          have hx' := hx
          obtain ⟨fi, first, caps, e1, _⟩ := hx'
          have hc : ConRel P s.heap g w (.seq es xs) (a.eval x).cells.toList := ⟨a.eval x, by rw [e1]; rfl, hx⟩
          obtain ⟨g', hg'⟩ := hinv.alloc (fz0 := false) (et := t) hd hn hc (rd := [d]) .unit
          exact .value hrun ⟨g', by rw [hdst]; exact hg'⟩
        · rename_i id' n' root' π' heq
          obtain ⟨_, rfl⟩ := he
          rw [heq] at hx
          have hx' := hx
          obtain ⟨m', fz', c', p1, p2, p3, e1⟩ := hx'
          have hc : ConRel P s.heap g w (.ptr id' n' root' π') (a.eval x).cells.toList := ⟨a.eval x, by rw [e1]; rfl, hx⟩
          obtain ⟨g', hg'⟩ := hinv.alloc (fz0 := false) (et := t) hd hn hc (rd := [d]) .unit
          exact .value hrun ⟨g', by rw [hdst]; exact hg'⟩
        · rename_i es heq
          obtain ⟨_, rfl⟩ := he
          rw [heq] at hx
          have e1 : a.eval x = .func (.yield g.yl) #[] #[] := hx
          have hc : ConRel P s.heap g w (.yld es) (a.eval x).cells.toList := ⟨a.eval x, by rw [e1]; rfl, hx⟩
          obtain ⟨g', hg'⟩ := hinv.alloc (fz0 := false) (et := t) hd hn hc (rd := [d]) .unit
          exact .value hrun ⟨g', by rw [hdst]; exact hg'⟩
        · exact he.elim
    · exact he.elim
  · exact he.elim
theorem shown_makeSliceI {t : TypeId} {x y : Operand} (hop : o.op = .makeSlice t x y) {kl kc : IntKind} {l c : Int} (e1 : a.eval x = .int kl l) (e2 : a.eval y = .int kc c) {e : Eff} (he : (makeSliceI C s o.dst t l c).is e) : Shown P N F s a w o e := by
  unfold makeSliceI at he
  split at he
  · rename_i d te hdst hte
    rw [hdst] at hd
    split at he
    · rename_i ee n hty hn
      cases hb : Nat.ble 1 ee.size && Nat.ble 1 te.bytes with
      | false => rw [hb] at he; exact he.elim
      | true =>
        rw [hb, cond_true] at he
        simp only [Bool.and_eq_true] at hb
        obtain ⟨hp, rfl⟩ := he
        simp only [Bool.and_eq_true, decide_eq_true_eq] at hp
        obtain ⟨p1, p2, p3⟩ := hp
        have hes : 1 ≤ ee.size := Nat.le_of_ble_eq_true hb.1
        have hbs : 1 ≤ te.bytes := Nat.le_of_ble_eq_true hb.2
        obtain ⟨et, tee, i, k1, k2, k3, k4, k5, k6, k7⟩ := T.slc hte hty
        have hcb : c ≤ c * te.bytes := by
          have : c * 1 ≤ c * te.bytes := Int.mul_le_mul_of_nonneg_left (by omega) (by omega)
          omega
        have hrun := run_make (P := P) w t et i _ k1 k4 k6 kl kc l c p1 p2 (by rw [k7, Int.mul_comm]; exact p3) (by omega)
        have hzc : (valOf ee (zeroV ee)).cells = (zeroV ee).toArray := (Rep.zero g.G w ee).cells
        have hzs : (zeroV ee).length = ee.size := Rep.size _ _ _ (Rep.zero g.G w ee)
        have hmade : (madeCells (valOf ee (zeroV ee)).cells (c.toNat * i.size)).toList = (List.replicate l.toNat (zeroV ee)).flatten ++ (List.replicate (c.toNat - l.toNat) (zeroV ee)).flatten := by
          rw [← List.flatten_append, List.replicate_append_replicate, show l.toNat + (c.toNat - l.toNat) = c.toNat by omega, hzc, k5]
          have := range_zero (zeroV ee).toArray c.toNat (by simp only [List.size_toArray, hzs]; omega)
          simpa [madeCells, hzs] using this
        have hsz : (madeCells (valOf ee (zeroV ee)).cells (c.toNat * i.size)).size = c.toNat * ee.size := by rw [size_madeCells, k5]
        generalize madeCells (valOf ee (zeroV ee)).cells (c.toNat * i.size) = cells at hrun hmade hsz
        have hex0 : execOp a.eval o = (do pure (.value (← Instr.makeSlice t (a.eval x) (a.eval y)))) := by unfold execOp; rw [hop]
        have hex : (execOp a.eval o).run P w = .ok (.value (.slice (some ⟨w.heap.size, 0, none⟩) l.toNat c.toNat)) (w.alloc (.cells cells et)) := by
          rw [hex0, e1, e2]
          simp only [Sem.run_bind, hrun, Result.andThen_ok, Sem.run_pure]
        obtain ⟨g', hg'⟩ := hinv.newBox (fz0 := false) (et := et) (cs := cells) (c := .row ee (List.replicate l.toNat ee.zero)) (u := .vec d n ee) (v := .slice (some ⟨w.heap.size, 0, none⟩) l.toNat c.toNat) (ov := .slice (some ⟨w.heap.size, 0, none⟩) l.toNat c.toNat) (rd := [d]) hd hn fun g' h1 h2 h3 ha hx => by
          refine ⟨?_, SRel.of0 (s := .vec d n ee) ⟨n, false, .row ee (List.replicate l.toNat ee.zero), by simp [lookO_cons], Nat.le_refl _, fun _ => ⟨⟨_, rfl⟩, h2.symm⟩⟩⟩
          show OwnRel g'.G _ F.m F.B false (g'.ι d n) ee (List.replicate l.toNat ee.zero) (g'.ov d).1
          rw [h1, h2]
          have hl : (List.replicate l.toNat ee.zero).length = l.toNat := List.length_replicate
          unfold OwnRel
          rw [hl]
          exact ⟨some ⟨w.heap.size, 0, none⟩, c.toNat, rfl, by omega, .inr ⟨rfl, hinv.hB, cells, et, List.replicate l.toNat (zeroV ee), _, heap_alloc_new w _, hmade, Each.replicate (Rep.zero _ _ ee) _, hsz, h3⟩⟩
        exact .value hex ⟨g', by rw [hdst]; exact hg'⟩
    · exact he.elim
  · exact he.elim
theorem shown_makeSlice {t : TypeId} {x y : Operand} (hop : o.op = .makeSlice t x y) {e : Eff} (he : (makeSliceS C s o.dst t (s.ev x) (s.ev y)).is e) : Shown P N F s a w o e := by
  have hx := hinv.ev x
  have hy := hinv.ev y
  generalize hsx : s.ev x = sx at *
  generalize hsy : s.ev y = sy at *
  unfold makeSliceS at he
  split at he
  · exact shown_makeSliceI T hinv hd hop (RepV.int hx) (RepV.int hy) he
  · exact he.elim
end
end Go.Vi
