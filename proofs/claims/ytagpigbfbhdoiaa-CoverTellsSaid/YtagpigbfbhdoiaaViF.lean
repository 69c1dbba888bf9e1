/- Operations that leave memory alone: what the interpreter says they come to is what they come to. -/
import Derived.Test.YtagpigbfbhdoiaaViE
import Derived.Laws.Append
import Derived.Laws.AppendOwn
import Derived.Laws.Entries
import Derived.Laws.StructEq
import Derived.Laws.Slices
import Derived.Laws.Cells
import Derived.Laws.CopyRow
namespace Go.Vi
open Go.RowKit (Below)

def Out.is : Out → Eff → Prop
  | .fail, _ => False
  | .ok pre e', e => pre = true ∧ e = e'
  | .call _ o mk, e => ∃ r, o = some r ∧ e = mk r
  | .callO _ o mk, e => ∃ r, o = some r ∧ mk r = some e
  | .emit _ _, _ => False

theorem Out.run_some {R : Type} {em : EmR R} {o : Out} {K : Eff → Option R} {r : R} (h : o.run em K = some r) : (∃ e, o.is e ∧ K e = some r) ∨
    ∃ es x r1 r2, o = .emit es x ∧ K { val := .dat .bool false } = some r1 ∧ em.nil r1 = true ∧ K { val := .dat .bool true } = some r2 ∧ em.cons es x r2 = some r := by
  cases o with
  | fail => simp [Out.run] at h
  | ok pre e =>
    simp only [Out.run] at h
    cases pre with
    | true => exact .inl ⟨e, ⟨rfl, rfl⟩, h⟩
    | false => simp at h
  | call rs o mk =>
    simp only [Out.run] at h
    cases o with
    | none => simp [obind] at h
    | some x => exact .inl ⟨mk x, ⟨x, rfl, rfl⟩, h⟩
  | callO rs o mk =>
    simp only [Out.run] at h
    cases o with
    | none => simp [obind] at h
    | some x =>
      rw [obind_some] at h
      cases hm : mk x with
      | none => rw [hm] at h; cases h
      | some e => rw [hm, obind_some] at h; exact .inl ⟨e, ⟨x, rfl, hm⟩, h⟩
  | emit es x =>
    simp only [Out.run] at h
    cases h1 : K { val := .dat .bool false } with
    | none => rw [h1] at h; cases h
    | some r1 =>
      rw [h1, obind_some] at h
      cases hn : em.nil r1 with
      | false => rw [hn] at h; cases h
      | true =>
        rw [hn, cond_true] at h
        cases h2 : K { val := .dat .bool true } with
        | none => rw [h2] at h; cases h
        | some r2 => rw [h2, obind_some] at h; exact .inr ⟨es, x, r1, r2, rfl, rfl, hn, rfl, h⟩

/-- What an operation's run is to come to. -/
def OpOk (P : Program) (o : Oper) (a : Act) (w : World) (R : Value → World → Prop) : Prop :=
  match (execOp a.eval o).run P w with
  | .ok (.value v) w' => R v w'
  | .ok .skip w' => R undef w'
  | .ok (.enter f args) w' => Calls P f args w' fun e w'' => ∃ v, e = .returned v ∧ R v w''
  | _ => False

theorem OpOk.wp {P : Program} {o : Oper} {a : Act} {w : World} {R : Value → World → Prop} {K : Act → World → Prop} {Q : Exit → Act → World → Prop} (h : OpOk P o a w R) (hK : ∀ v w', R v w' → K (a.put o.dst v) w') : o.wp P a w K Q := by
  unfold OpOk at h
  unfold Oper.wp Oper.upon
  split at h
  · rename_i hr; rw [hr]; exact hK _ _ h
  · rename_i hr; rw [hr]; exact hK _ _ h
  · rename_i hr; rw [hr]
    exact h.mono fun e w' ⟨v, he, hR⟩ => by subst he; exact hK _ _ hR
  · exact h.elim

theorem OpOk.value {P : Program} {o : Oper} {a : Act} {w w' : World} {v : Value} {R : Value → World → Prop} (h : (execOp a.eval o).run P w = .ok (.value v) w') (hR : R v w') : OpOk P o a w R := by
  unfold OpOk; rw [h]; exact hR

theorem RepV.of_leaf {G : Gh} {w : World} {τ : Ty} {x : τ.den} {v : Value} (h : Rep G w τ x [v]) (ha : τ.agg = false) : RepV G w τ x v := ⟨[v], h, by simp [valOf, ha]⟩
theorem RepV.int {G : Gh} {w : World} {k : IntKind} {n : Int} {v : Value} (h : RepV G w (.int k) n v) : v = .int k n := by
  obtain ⟨cs, h1, h2⟩ := h
  simp only [Rep] at h1; subst h1; rw [h2]; rfl
theorem RepV.bool {G : Gh} {w : World} {b : Bool} {v : Value} (h : RepV G w .bool b v) : v = .bool b := by
  obtain ⟨cs, h1, h2⟩ := h
  simp only [Rep] at h1; subst h1; rw [h2]; rfl
theorem RepV.str {G : Gh} {w : World} {b : ByteArray} {v : Value} (h : RepV G w .str b v) : v = .string b := by
  obtain ⟨cs, h1, h2⟩ := h
  simp only [Rep] at h1; subst h1; rw [h2]; rfl
theorem RepV.mk_int {G : Gh} {w : World} (k : IntKind) (n : Int) : RepV G w (.int k) n (.int k n) := ⟨_, rfl, rfl⟩
theorem RepV.mk_bool {G : Gh} {w : World} (b : Bool) : RepV G w .bool b (.bool b) := ⟨_, rfl, rfl⟩
theorem RepV.mk_str {G : Gh} {w : World} (b : ByteArray) : RepV G w .str b (.string b) := ⟨_, rfl, rfl⟩

/-- A slice's own reading. -/
theorem RepV.slc {G : Gh} {w : World} {e : Ty} {xs : List e.den} {v : Value} (h : RepV G w (.slc e) xs v) : ∃ ao cap, v = .slice ao xs.length cap ∧ xs.length ≤ cap ∧
    match ao with
    | none => cap = 0
    | some a => (a.spot = none ∨ cap = 0) ∧ ∃ css : List (List Value), Each (Rep G w e) xs css ∧ ∀ j v, css.flatten[j]? = some v → Cell w a.block (a.off + j) = some v ∧ G.st a.block (a.off + j) := by
  obtain ⟨cs, h1, h2⟩ := h
  obtain ⟨ao, cap, h3, h4, h5⟩ := h1
  subst h3
  exact ⟨ao, cap, by rw [h2]; rfl, h4, h5⟩
theorem RepV.mk_slc {G : Gh} {w : World} {e : Ty} {xs : List e.den} {ao : Option Addr} {cap : Nat} (h : xs.length ≤ cap) (h' : match ao with
    | none => cap = 0
    | some a => (a.spot = none ∨ cap = 0) ∧ ∃ css : List (List Value), Each (Rep G w e) xs css ∧ ∀ j v, css.flatten[j]? = some v → Cell w a.block (a.off + j) = some v ∧ G.st a.block (a.off + j)) : RepV G w (.slc e) xs (.slice ao xs.length cap) :=
  ⟨_, ⟨ao, cap, rfl, h, h'⟩, rfl⟩

section
variable {P : Program} {H : Heap} {g : Gs} {w : World}

theorem SRel.asD {τ : Ty} {s : S} {v : Value} {x : τ.den} (h : SRel P H g w s v) (hx : asD τ s = some x) : RepV g.G w τ x v := by
  cases s with
  | dat σ y =>
    have := castD_some hx
    cases this
    exact h
  | lst k e y =>
    have := castD_some (σ := .slc e) hx
    cases this
    cases k with
    | clip => exact h.1
    | nn => exact h.1
    | tip T n => exact h.1
  | nil =>
    cases τ <;> simp only [Go.Vi.asD, reduceCtorEq] at hx
    cases hx
    have hv : v = .slice none 0 0 := h
    subst hv
    exact RepV.mk_slc (xs := []) (Nat.le_refl 0) rfl
  | _ => simp [Go.Vi.asD] at hx

/-- The value of an operation that leaves memory alone. -/
theorem ok_val {N : Nat} {F : Fr} {s : St} {a : Act} {o : Oper} {u : S} {rd : List Nat} {v : Value} (hinv : Inv P N F g s a w) (hd : dstLt N F o.dst)
    (hrun : (execOp a.eval o).run P w = .ok (.value v) w) (hv : SRel P s.heap g w u v) :
    OpOk P o a w fun v w' => ∃ g', Inv P N F g' (s.app o.dst { val := u, rd := rd }) (a.put o.dst v) w' :=
  .value hrun ⟨g, hinv.val hd hv⟩

theorem SRel.dat {τ : Ty} {x : τ.den} {v : Value} (h : RepV g.G w τ x v) : SRel P H g w (.dat τ x) v := h

theorem bin_int (op : BinOp) (t : TypeId) (x y : Operand) (k : IntKind) (m n : Int) (e : Eff) (h : (binI op k m n).is e) (hs : isShift op = false) :
    ∃ v, (do eqGuard op t x y (.int k m) (.int k n); binOp op t (.int k m) (.int k n) : Sem Value).run P w = .ok v w ∧ ∃ u, e = { val := u } ∧ ∀ H g, SRel P H g w u v := by
  cases op <;> simp only [binI, Out.is, Out.val, isShift] at h hs
  all_goals obtain ⟨hp, rfl⟩ := h
  case add => exact ⟨.int k (k.wrap (m + n)), by simp [eqGuard_at_int, binOp, Op.intArith], _, rfl, fun H g => SRel.dat (RepV.mk_int _ _)⟩
  case sub => exact ⟨.int k (k.wrap (m - n)), by simp [eqGuard_at_int, binOp, Op.intArith], _, rfl, fun H g => SRel.dat (RepV.mk_int _ _)⟩
  case mul => exact ⟨.int k (k.wrap (m * n)), by simp [eqGuard_at_int, binOp, Op.intArith], _, rfl, fun H g => SRel.dat (RepV.mk_int _ _)⟩
  case quo =>
    have hn : n ≠ 0 := by simpa using hp
    exact ⟨.int k (k.wrap (m.tdiv n)), by simp [eqGuard_at_int, binOp, Op.intDiv, hn], _, rfl, fun H g => SRel.dat (RepV.mk_int _ _)⟩
  case rem =>
    have hn : n ≠ 0 := by simpa using hp
    exact ⟨.int k (m.tmod n), by simp [eqGuard_at_int, binOp, Op.intDiv, hn], _, rfl, fun H g => SRel.dat (RepV.mk_int _ _)⟩
  case and => exact ⟨.int k (bitsI .and k m n), by simp [eqGuard_at_int, binOp, Op.intBits, bitsI], _, rfl, fun H g => SRel.dat (RepV.mk_int _ _)⟩
  case or => exact ⟨.int k (bitsI .or k m n), by simp [eqGuard_at_int, binOp, Op.intBits, bitsI], _, rfl, fun H g => SRel.dat (RepV.mk_int _ _)⟩
  case xor => exact ⟨.int k (bitsI .xor k m n), by simp [eqGuard_at_int, binOp, Op.intBits, bitsI], _, rfl, fun H g => SRel.dat (RepV.mk_int _ _)⟩
  case andNot => exact ⟨.int k (bitsI .andNot k m n), by simp [eqGuard_at_int, binOp, Op.intBits, bitsI], _, rfl, fun H g => SRel.dat (RepV.mk_int _ _)⟩
  case eql => exact ⟨.bool (m == n), by simp [eqGuard_at_int, binOp, Op.intCmp], _, rfl, fun H g => SRel.dat (RepV.mk_bool _)⟩
  case neq => exact ⟨.bool (m != n), by simp [eqGuard_at_int, binOp, Op.intCmp], _, rfl, fun H g => SRel.dat (RepV.mk_bool _)⟩
  case lss => exact ⟨.bool (decide (m < n)), by simp [eqGuard_at_int, binOp, Op.intCmp], _, rfl, fun H g => SRel.dat (RepV.mk_bool _)⟩
  case leq => exact ⟨.bool (decide (m ≤ n)), by simp [eqGuard_at_int, binOp, Op.intCmp], _, rfl, fun H g => SRel.dat (RepV.mk_bool _)⟩
  case gtr => exact ⟨.bool (decide (m > n)), by simp [eqGuard_at_int, binOp, Op.intCmp], _, rfl, fun H g => SRel.dat (RepV.mk_bool _)⟩
  case geq => exact ⟨.bool (decide (m ≥ n)), by simp [eqGuard_at_int, binOp, Op.intCmp], _, rfl, fun H g => SRel.dat (RepV.mk_bool _)⟩

theorem bin_shift (op : BinOp) (t : TypeId) (x y : Operand) (k l : IntKind) (m n : Int) (e : Eff) (h : (shiftI op k m n).is e) :
    ∃ v, (do eqGuard op t x y (.int k m) (.int l n); binOp op t (.int k m) (.int l n) : Sem Value).run P w = .ok v w ∧ ∃ u, e = { val := u } ∧ ∀ H g, SRel P H g w u v := by
  cases op <;> simp only [shiftI, Out.is] at h
  case shl =>
    obtain ⟨hp, rfl⟩ := h
    have hn : ¬ n < 0 := by simpa using hp
    exact ⟨.int k (shlI k m n), by simp [eqGuard_at_int, binOp, Op.shift, hn, shlI], _, rfl, fun H g => SRel.dat (RepV.mk_int _ _)⟩
  case shr =>
    obtain ⟨hp, rfl⟩ := h
    have hn : ¬ n < 0 := by simpa using hp
    exact ⟨.int k (shrI k m n), by simp [eqGuard_at_int, binOp, Op.shift, hn, shrI], _, rfl, fun H g => SRel.dat (RepV.mk_int _ _)⟩

/-- A part of a row of cells. -/
theorem run_part {tab : List (Nat × TE)} (T : Types P tab) {t : Nat} {te : TE} (ht : lookO tab t = some te) {cs : Array Value} {o : Nat} {y : te.ty.den}
    (hr : Rep g.G w te.ty y ((cs.toList.drop o).take te.ty.size)) (w' : World) : (part t cs o).run P w' = .ok (valOf te.ty ((cs.toList.drop o).take te.ty.size)) w' := by
  obtain ⟨d, hd, hagg⟩ := T.agg ht
  obtain ⟨i, hi, hsz, _⟩ := T.info ht
  unfold part isAgg
  by_cases ha : te.ty.agg = true
  · have hv : valOf te.ty ((cs.toList.drop o).take te.ty.size) = .agg (cs.extract o (o + te.ty.size)) := by
      unfold valOf
      rw [if_pos ha]
      congr 1
      apply Array.ext'
      simp [List.extract_eq_take_drop]
    rw [hv]
    rcases hagg.1 ha with ⟨fs, rfl⟩ | ⟨n, e, rfl⟩ <;> simp [run_underlying hd, sizeOf, typeInfo, hi, hsz]
  · obtain ⟨u, hu, _⟩ := hr.leaf (by simpa using ha)
    have hsz1 : te.ty.size = 1 := by have := Rep.size _ _ _ hr; rw [hu] at this; simpa using this.symm
    have ho : cs[o]? = some u := by
      have := congrArg (fun l => l[0]?) hu
      simp only [List.getElem?_take, List.getElem?_drop, hsz1] at this
      simpa using this
    have hv : valOf te.ty ((cs.toList.drop o).take te.ty.size) = u := by rw [hu]; simp [valOf, ha]
    rw [hv]
    have hd' : ∀ fs, d ≠ .struct fs := fun fs h => ha (hagg.2 (.inl ⟨fs, h⟩))
    have hd'' : ∀ n e, d ≠ .array n e := fun n e h => ha (hagg.2 (.inr ⟨n, e, h⟩))
    cases d <;> first | exact absurd rfl (hd' _) | exact absurd rfl (hd'' _ _) | simp [run_underlying hd, ho]

end
end Go.Vi
