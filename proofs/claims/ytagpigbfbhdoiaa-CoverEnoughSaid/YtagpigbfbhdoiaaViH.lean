/- More operations that leave memory alone. -/
import Derived.Test.YtagpigbfbhdoiaaViG
namespace Go.Vi

theorem run_equalIn_func {P : Program} (w : World) (d : Nat) {t : TypeId} {ps rs : Array TypeId} {v : Bool} (hu : P.underlying t = some (.func ps rs v)) (f : Fn) (c1 c2 : Array Value) :
    (Op.equalIn (d + 1) t (.func f c1 c2) .nilFunc).run P w = .ok false w := by
  simp [Op.equalIn, run_underlying hu]
theorem run_eql_func {P : Program} (w : World) (t : TypeId) {ps rs : Array TypeId} {v : Bool} (hu : P.underlying t = some (.func ps rs v)) (f : Fn) (c1 c2 : Array Value) :
    (binOp .eql t (.func f c1 c2) .nilFunc).run P w = .ok (.bool false) w := by
  have h := run_equalIn_func w 9999 hu f c1 c2
  simp only [binOp]
  simp only [Op.equal, Op.maxDepth, Sem.run_bind, h, Result.andThen_ok, Sem.run_pure]
theorem run_neq_func {P : Program} (w : World) (t : TypeId) {ps rs : Array TypeId} {v : Bool} (hu : P.underlying t = some (.func ps rs v)) (f : Fn) (c1 c2 : Array Value) :
    (binOp .neq t (.func f c1 c2) .nilFunc).run P w = .ok (.bool true) w := by
  have h := run_equalIn_func w 9999 hu f c1 c2
  simp only [binOp]
  simp only [Op.equal, Op.maxDepth, Sem.run_bind, h, Result.andThen_ok, Sem.run_pure, Bool.not_false]

theorem run_equalIn_slice {P : Program} (w : World) (d : Nat) {t e : TypeId} (hu : P.underlying t = some (.slice e)) (ao : Option Addr) (n c : Nat) :
    (Op.equalIn (d + 1) t (.slice ao n c) (.slice none 0 0)).run P w = .ok ao.isNone w := by
  cases ao <;> simp [Op.equalIn, run_underlying hu]
theorem run_eql_slice {P : Program} (w : World) (t : TypeId) {e : TypeId} (hu : P.underlying t = some (.slice e)) (ao : Option Addr) (n c : Nat) :
    (binOp .eql t (.slice ao n c) (.slice none 0 0)).run P w = .ok (.bool ao.isNone) w := by
  have h := run_equalIn_slice w 9999 hu ao n c
  simp only [binOp]
  simp only [Op.equal, Op.maxDepth, Sem.run_bind, h, Result.andThen_ok, Sem.run_pure]
theorem run_neq_slice {P : Program} (w : World) (t : TypeId) {e : TypeId} (hu : P.underlying t = some (.slice e)) (ao : Option Addr) (n c : Nat) :
    (binOp .neq t (.slice ao n c) (.slice none 0 0)).run P w = .ok (.bool !ao.isNone) w := by
  have h := run_equalIn_slice w 9999 hu ao n c
  simp only [binOp]
  simp only [Op.equal, Op.maxDepth, Sem.run_bind, h, Result.andThen_ok, Sem.run_pure]

section
variable {P : Program} {C : Ctx} (T : Types P C.tab) {N : Nat} {F : Fr} {g : Gs} {s : St} {a : Act} {w : World} (hinv : Inv P N F g s a w) {o : Oper} (hd : dstLt N F o.dst)
include hinv hd

/-- What is to be shown of an operation. -/
def Shown (P : Program) (N : Nat) (F : Fr) (s : St) (a : Act) (w : World) (o : Oper) (e : Eff) : Prop :=
  OpOk P o a w fun v w' => ∃ g', Inv P N F g' (s.app o.dst e) (a.put o.dst v) w'

theorem shown_val {m : Sem Value} (hx : execOp a.eval o = (do pure (.value (← m)))) {v : Value} (hrun : m.run P w = .ok v w) {u : S} {rd : List Nat} (hv : SRel P s.heap g w u v) :
    Shown P N F s a w o { val := u, rd := rd } :=
  ok_val hinv hd (by rw [hx]; simp [hrun]) hv

theorem shown_move {x : Operand} (hop : o.op = .move x ∨ o.op = .assign x) : Shown P N F s a w o { val := moveS C o.type x (s.ev x) } := by
  refine ok_val hinv hd (v := a.eval x) (by rcases hop with h | h <;> simp [execOp, h]) ?_
  have h := hinv.ev x
  unfold moveS
  split
  · rename_i hn
    rw [hn] at h
    split
    · split
      · have hv : a.eval _ = .slice none 0 0 := h
        rw [hv]
        exact SRel.of0 ⟨RepV.mk_slc (xs := []) (Nat.le_refl 0) rfl, none, 0, rfl⟩
      · exact h
    · exact h
  · exact h

theorem shown_pick {c x y : Operand} (hop : o.op = .pick c x y) {e : Eff} (he : (pickS (s.ev c) (s.ev x) (s.ev y)).is e) : Shown P N F s a w o e := by
  have hc := hinv.ev c
  have hx := hinv.ev x
  have hy := hinv.ev y
  unfold pickS at he
  split at he
  · rename_i b hcb
    rw [hcb] at hc
    have hcv : a.eval c = .bool b := RepV.bool hc
    have hrun : (execOp a.eval o).run P w = .ok (.value (if b = true then a.eval x else a.eval y)) w := by
      simp [execOp, hop, hcv, asBool]
    split at he
    · rename_i σ x' τ y' hx' hy'
      rw [hx'] at hx
      rw [hy'] at hy
      split at he
      · rename_i y'' hcast
        have := castD_some hcast
        cases this
        obtain ⟨_, rfl⟩ := he
        refine ok_val hinv hd hrun ?_
        cases b
        · exact hy
        · exact hx
      · exact he.elim
    · split at he
      · obtain ⟨_, rfl⟩ := he
        exact ok_val hinv hd hrun (by simpa using hx)
      · obtain ⟨_, rfl⟩ := he
        exact ok_val hinv hd hrun (by simpa using hy)
  · exact he.elim

theorem shown_un {op : UnOp} {t : TypeId} {x : Operand} (hop : o.op = .unOp op t x) {e : Eff} (he : (unS op (s.ev x)).is e) : Shown P N F s a w o e := by
  have hx := hinv.ev x
  have hex : execOp a.eval o = (do pure (.value (← Op.unary op (a.eval x)))) := by simp [execOp, hop]
  unfold unS at he
  split at he
  · rename_i b hb
    rw [hb] at hx
    have hv : a.eval x = .bool b := RepV.bool hx
    rw [hv] at hex
    split at he
    · obtain ⟨_, rfl⟩ := he
      exact shown_val hinv hd hex (v := .bool (!b)) (by simp [Op.unary]) (SRel.dat (RepV.mk_bool _))
    · exact he.elim
  · rename_i k n hb
    rw [hb] at hx
    have hv : a.eval x = .int k n := RepV.int hx
    rw [hv] at hex
    split at he
    · obtain ⟨_, rfl⟩ := he
      exact shown_val hinv hd hex (v := .int k (k.wrap (0 - n))) (by simp [Op.unary, Op.intArith]) (SRel.dat (RepV.mk_int _ _))
    · obtain ⟨_, rfl⟩ := he
      exact shown_val hinv hd hex (v := .int k (bitsI .xor k (if k.signed then -1 else k.max) n)) (by simp [Op.unary, Op.intBits, bitsI]) (SRel.dat (RepV.mk_int _ _))
    · exact he.elim
  · exact he.elim

theorem shown_nilCheck {x : Operand} (hop : o.op = .nilCheck x) {e : Eff} (he : (match s.ev x with
    | .ptr id n root π => Out.val (.ptr id n root π)
    | .cptr τ x => .val (.cptr τ x)
    | .fn ps rs g => .val (.fn ps rs g)
    | .seq es xs => .val (.seq es xs)
    | _ => .fail).is e) : Shown P N F s a w o e := by
  have hx := hinv.ev x
  split at he
  · rename_i h
    obtain ⟨_, rfl⟩ := he
    rw [h] at hx
    have hv := hx
    obtain ⟨m, fz, c, h1, h2, h3, h4⟩ := hv
    exact ok_val hinv hd (v := a.eval x) (by simp [execOp, hop, h4]) hx
  · rename_i h
    obtain ⟨_, rfl⟩ := he
    rw [h] at hx
    have hv := hx
    obtain ⟨b, o', cs, h1, h2⟩ := hv
    exact ok_val hinv hd (v := a.eval x) (by simp [execOp, hop, h1]) hx
  · rename_i h
    obtain ⟨_, rfl⟩ := he
    rw [h] at hx
    have hv := hx
    obtain ⟨f, caps, h1, h2⟩ := hv
    exact ok_val hinv hd (v := a.eval x) (by simp [execOp, hop, h1]) hx
  · rename_i h
    obtain ⟨_, rfl⟩ := he
    rw [h] at hx
    have hv := hx
    obtain ⟨f, first, caps, h1, h2⟩ := hv
    exact ok_val hinv hd (v := a.eval x) (by simp [execOp, hop, h1]) hx
  · exact he.elim

theorem shown_extract {x : Operand} {i : Nat} (hop : o.op = .extract x i) {e : Eff} (he : (match s.ev x with
    | .tup l => match l[i]? with
      | some v => Out.val v
      | none => .fail
    | _ => .fail).is e) : Shown P N F s a w o e := by
  have hx := hinv.ev x
  split at he
  · rename_i l h
    rw [h] at hx
    obtain ⟨vs, h1, h2⟩ := hx
    split at he
    · rename_i u hu
      obtain ⟨_, rfl⟩ := he
      have hlt : i < l.length := (List.getElem?_eq_some_iff.1 hu).1
      have hr := h2.getD .poison undef i hlt
      have e1 : l.getD i .poison = u := by rw [List.getD_eq_getElem?_getD, hu]; rfl
      rw [e1] at hr
      have hi : i < vs.length := by rw [← h2.length]; exact hlt
      have e2 : vs[i]? = some (vs.getD i undef) := by
        rw [List.getD_eq_getElem?_getD, List.getElem?_eq_getElem hi]; rfl
      refine ok_val hinv hd (v := vs.getD i undef) ?_ (SRel.of0 hr)
      have e3 : vs.toArray[i]? = some (vs.getD i undef) := by simpa using e2
      unfold execOp
      rw [hop]
      simp only [h1, Instr.extract, e3, Sem.run_bind, Sem.run_pure, Result.andThen_ok]
    · exact he.elim
  · exact he.elim

include T
theorem shown_bin (hF : ftsOk P C.fts = true) {op : BinOp} {t yt : TypeId} {x y : Operand} (hop : o.op = .binOp op t x y yt) {e : Eff} (he : (binS C op t (s.ev x) (s.ev y)).is e) : Shown P N F s a w o e := by
  have hx := hinv.ev x
  have hy := hinv.ev y
  have hex : execOp a.eval o = (do pure (.value (← (do eqGuard op t x y (a.eval x) (a.eval y); binOp op t (a.eval x) (a.eval y) : Sem Value)))) := by
    unfold execOp; rw [hop]
  have bools : ∀ (p q : Bool) (m : Sem Value), m = (do eqGuard op t x y (a.eval x) (a.eval y); binOp op t (a.eval x) (a.eval y) : Sem Value) → (op = .eql → m.run P w = .ok (.bool p) w) → (op = .neq → m.run P w = .ok (.bool q) w) →
      (eqS op p q).is e → Shown P N F s a w o e := by
    intro p q m hm h1 h2 he
    rw [← hm] at hex
    cases op <;> simp only [eqS, Out.is, Out.val] at he
    case eql =>
      obtain ⟨_, rfl⟩ := he
      exact shown_val hinv hd hex (h1 rfl) (SRel.dat (RepV.mk_bool _))
    case neq =>
      obtain ⟨_, rfl⟩ := he
      exact shown_val hinv hd hex (h2 rfl) (SRel.dat (RepV.mk_bool _))
  generalize hsx : s.ev x = sx at *
  generalize hsy : s.ev y = sy at *
  unfold binS at he
  split at he
  · rename_i k m l n
    have e1 : a.eval x = .int k m := RepV.int hx
    have e2 : a.eval y = .int l n := RepV.int hy
    rw [e1, e2] at hex
    cases hs : isShift op with
    | true =>
      rw [hs] at he
      obtain ⟨v, hv, u, rfl, hu⟩ := bin_shift (P := P) (w := w) op t x y k l m n e he
      exact shown_val hinv hd hex hv (hu _ _)
    | false =>
      rw [hs] at he
      cases hk : kindEq k l with
      | true =>
        rw [hk] at he
        obtain rfl := kindEq_eq hk
        obtain ⟨v, hv, u, rfl, hu⟩ := bin_int (P := P) (w := w) op t x y k m n e he hs
        exact shown_val hinv hd hex hv (hu _ _)
      | false => rw [hk] at he; exact he.elim
  · rename_i b c
    have e1 : a.eval x = .bool b := RepV.bool hx
    have e2 : a.eval y = .bool c := RepV.bool hy
    have hu : ∀ te, C.te t = some te → te.ty.beq .bool = true → P.underlying t = some .bool := fun te hte hb => by
      obtain ⟨dd, hu, hdesc⟩ := T.under hte
      obtain ⟨ty, nf, bytes⟩ := te
      obtain rfl := Ty.eq_of_beq hb
      cases dd <;> simp [descOk, Ty.beq] at hdesc
      exact hu
    cases hte : C.te t with
    | none => rw [hte] at he; exact he.elim
    | some te =>
      rw [hte] at he
      cases hb : te.ty.beq .bool with
      | false => simp only [hb] at he; exact he.elim
      | true =>
        simp only [hb] at he
        have hu' := hu te hte hb
        refine bools _ _ _ rfl ?_ ?_ he
        · rintro rfl
          simp [e1, e2, eqGuard_at_bool, binOp, Op.equal, Op.maxDepth, run_equalIn_bool' w 9999 t b c hu']
        · rintro rfl
          simp [e1, e2, eqGuard_at_bool, binOp, Op.equal, Op.maxDepth, run_equalIn_bool' w 9999 t b c hu']
  · rename_i b c
    have e1 : a.eval x = .string b := RepV.str hx
    have e2 : a.eval y = .string c := RepV.str hy
    refine bools _ _ _ rfl ?_ ?_ he
    · rintro rfl
      simp [e1, e2, eqGuard_at_string, binOp, Op.stringOp, beq_toListBytes b c]
    · rintro rfl
      simp [e1, e2, eqGuard_at_string, binOp, Op.stringOp, beq_toListBytes b c]
  · rename_i σ u τ v _ _ _
    split at he
    · rename_i te hte
      split at he
      · rename_i u' v' hu hv
        have c1 := castD_some hu
        have c2 := castD_some hv
        cases c1
        cases c2
        cases hb : te.ty.agg && (te.ty.eqs && Nat.blt te.ty.depth 9999) with
        | false => rw [hb] at he; exact he.elim
        | true =>
          rw [hb] at he
          simp only [Bool.and_eq_true] at hb
          obtain ⟨hagg, heqs, hdep⟩ := hb
          have hdep' : te.ty.depth < 9999 := by simpa using hdep
          obtain ⟨cx, hcx, ex⟩ := hx
          obtain ⟨cy, hcy, ey⟩ := hy
          have hrun := eqAt T (G := g.G) (wr := w) 10000 t te hte heqs (by omega) _ _ cx cy hcx hcy w
          have ex' : a.eval x = .agg cx.toArray := by rw [ex]; simp [valOf, hagg]
          have ey' : a.eval y = .agg cy.toArray := by rw [ey]; simp [valOf, hagg]
          rw [← ex, ← ey, ex', ey'] at hrun
          have hg := run_eqGuard_agg (P := P) w op t x y cx.toArray cy.toArray (T.guard hte)
          refine bools _ _ _ rfl ?_ ?_ he
          · rintro rfl
            simp [ex', ey', hg, run_eql_struct, hrun]
          · rintro rfl
            simp [ex', ey', hg, run_neq_struct, hrun]
      · exact he.elim
    · exact he.elim
  · rename_i ps rs f
    obtain ⟨fi, caps, e1, _⟩ := hx
    have e2 : a.eval y = .nilFunc := hy
    cases hm : mem t C.fts with
    | false => rw [hm] at he; exact he.elim
    | true =>
      rw [hm] at he
      obtain ⟨ps', rs', vv, hu⟩ := ftsOk_spec hF hm
      refine bools _ _ _ rfl ?_ ?_ he
      · rintro rfl
        rw [e1, e2, eqGuard_at_func]
        simp only [Sem.run_bind, Sem.run_pure, Result.andThen_ok, run_eql_func w t hu]
      · rintro rfl
        rw [e1, e2, eqGuard_at_func]
        simp only [Sem.run_bind, Sem.run_pure, Result.andThen_ok, run_neq_func w t hu]
  · rename_i es xs
    obtain ⟨fi, first, caps, e1, _⟩ := hx
    have e2 : a.eval y = .nilFunc := hy
    cases hm : mem t C.fts with
    | false => rw [hm] at he; exact he.elim
    | true =>
      rw [hm] at he
      obtain ⟨ps', rs', vv, hu⟩ := ftsOk_spec hF hm
      refine bools _ _ _ rfl ?_ ?_ he
      · rintro rfl
        rw [e1, e2, eqGuard_at_func]
        simp only [Sem.run_bind, Sem.run_pure, Result.andThen_ok, run_eql_func w t hu]
      · rintro rfl
        rw [e1, e2, eqGuard_at_func]
        simp only [Sem.run_bind, Sem.run_pure, Result.andThen_ok, run_neq_func w t hu]
  · rename_i f
    have e1 : a.eval x = .func (.func f) #[] #[] := hx
    have e2 : a.eval y = .nilFunc := hy
    cases hm : mem t C.fts with
    | false => rw [hm] at he; exact he.elim
    | true =>
      rw [hm] at he
      obtain ⟨ps', rs', vv, hu⟩ := ftsOk_spec hF hm
      refine bools _ _ _ rfl ?_ ?_ he
      · rintro rfl
        rw [e1, e2, eqGuard_at_func]
        simp only [Sem.run_bind, Sem.run_pure, Result.andThen_ok, run_eql_func w t hu]
      · rintro rfl
        rw [e1, e2, eqGuard_at_func]
        simp only [Sem.run_bind, Sem.run_pure, Result.andThen_ok, run_neq_func w t hu]
  · have e1 : a.eval x = .slice none 0 0 := hx
    have e2 : a.eval y = .slice none 0 0 := hy
    split at he
    · rename_i te hte
      split at he
      · rename_i e' hty
        obtain ⟨et, _, _, hu, _⟩ := T.slc hte hty
        refine bools _ _ _ rfl ?_ ?_ he
        · rintro rfl
          rw [e1, e2, eqGuard_at_slice]
          simp only [Sem.run_bind, Sem.run_pure, Result.andThen_ok, run_eql_slice w t hu, Option.isNone]
        · rintro rfl
          rw [e1, e2, eqGuard_at_slice]
          simp only [Sem.run_bind, Sem.run_pure, Result.andThen_ok, run_neq_slice w t hu, Option.isNone, Bool.not_true]
      · exact he.elim
    · exact he.elim
  · obtain ⟨_, ad, m, c, e1⟩ := hx
    have e2 : a.eval y = .slice none 0 0 := hy
    split at he
    · rename_i te hte
      split at he
      · rename_i e' hty
        obtain ⟨et, _, _, hu, _⟩ := T.slc hte hty
        refine bools _ _ _ rfl ?_ ?_ he
        · rintro rfl
          rw [e1, e2, eqGuard_at_slice]
          simp only [Sem.run_bind, Sem.run_pure, Result.andThen_ok, run_eql_slice w t hu, Option.isNone]
        · rintro rfl
          rw [e1, e2, eqGuard_at_slice]
          simp only [Sem.run_bind, Sem.run_pure, Result.andThen_ok, run_neq_slice w t hu, Option.isNone, Bool.not_false]
      · exact he.elim
    · exact he.elim
  · exact he.elim
end
end Go.Vi
