/- The arguments of a law as pure values; a law's row out of a contract. -/
import Derived.Test.YtagpigbfbhdoiaaViXD
import Derived.WalkKit
import Derived.ProofKit
import Derived.OpenShut
import Derived.ChangeOld
import Derived.Carry
import Derived.SizedLaws
namespace Go.Vi
open Go.RowKit (Below)

/-- A byte size that a type's values have at least. -/
def Ty.bytes : Ty → Nat
  | .int .i8 | .int .u8 => 1 | .int .i16 | .int .u16 => 2 | .int .i32 | .int .u32 => 4 | .int .i64 | .int .u64 => 8
  | .bool => 1 | .str => 16 | .unit => 0 | .one a => a.bytes | .pair a b => a.bytes + b.bytes | .arr n e => n * e.bytes | .slc _ => 24

/-- Values as they come from outside: whole numbers in their range, no more memory than there is. -/
def Wf : (τ : Ty) → τ.den → Prop
  | .int k, n => (Lit.int k n).wf = true
  | .bool, _ => True
  | .str, s => ByteArray.size s ≤ 140737488351232
  | .unit, _ => True
  | .one a, x => Wf a x
  | .pair a b, x => Wf a x.1 ∧ Wf b x.2
  | .arr n e, xs => List.length xs = n ∧ ∀ x ∈ (xs : List e.den), Wf e x
  | .slc e, xs => List.length xs ≤ 9223372036854775807 ∧ List.length xs * e.bytes ≤ 140737488351232 ∧ ∀ x ∈ (xs : List e.den), Wf e x

/-- No list is longer than a number. -/
def Few (k : Nat) : (τ : Ty) → τ.den → Prop
  | .int _, _ => True
  | .bool, _ => True
  | .str, _ => True
  | .unit, _ => True
  | .one a, x => Few k a x
  | .pair a b, x => Few k a x.1 ∧ Few k b x.2
  | .arr _ e, xs => ∀ x ∈ (xs : List e.den), Few k e x
  | .slc e, xs => List.length xs ≤ k ∧ ∀ x ∈ (xs : List e.den), Few k e x
/-- A measure of what is read, that counts at least the places of slices. -/
structure Meas {H : Type} (μ : DataW H → Nat) : Prop where
  len : ∀ e s, List.length e ≤ μ (.slice e s)
  slc : ∀ {e s d}, d ∈ e → μ d ≤ μ (.slice e s)
  agg : ∀ {l d}, d ∈ l → μ d ≤ μ (.agg l)
/-- What is read is no longer than any measure says. -/
def Sz {H : Type} (d : DataW H) (τ : Ty) (x : τ.den) : Prop := ∀ μ, Meas μ → ∀ k, μ d ≤ k → Few k τ x

/-- The type's slices can be read from outside. -/
def rdOk : Ty → Bool
  | .one a => rdOk a | .pair a b => rdOk a && rdOk b | .arr _ e => rdOk e | .slc e => !Nat.beq e.size 0 && rdOk e
  | _ => true
def rdTab (tab : List (Nat × TE)) : Bool := tab.all fun p => rdOk p.2.ty && match p.2.ty with
  | .slc e => Nat.ble e.bytes p.2.bytes
  | _ => true

abbrev Old : Gh := fun _ => .stays

theorem exists_each {α β : Type} (R : α → β → Prop) (f : Nat → β) : ∀ n, (∀ i, i < n → ∃ x, R x (f i)) → ∃ xs : List α, xs.length = n ∧ Each R xs ((List.range n).map f)
  | 0, _ => ⟨[], rfl, trivial⟩
  | n + 1, h => by
    obtain ⟨xs, h1, h2⟩ := exists_each R f n (fun i hi => h i (by omega))
    obtain ⟨x, hx⟩ := h n (by omega)
    refine ⟨xs ++ [x], by simp [h1], ?_⟩
    rw [List.range_succ, List.map_append]
    exact h2.append ⟨hx, trivial⟩
theorem flatten_chunks {α : Type} (s : Nat) (cs : List α) : ∀ n, ((List.range n).map fun i => (cs.drop (i * s)).take s).flatten = cs.take (n * s)
  | 0 => by simp
  | n + 1 => by
    rw [List.range_succ, List.map_append, List.flatten_append, flatten_chunks s cs n, Nat.succ_mul, List.take_add]; simp
theorem Each.left {α β : Type} {R : α → β → Prop} {Q : α → Prop} (h : ∀ x y, R x y → Q x) : ∀ {xs : List α} {ys : List β}, Each R xs ys → ∀ x ∈ xs, Q x
  | [], [], _, _, hy => by cases hy
  | _ :: _, _ :: _, hh, y, hy => by
    rcases List.mem_cons.1 hy with rfl | hy
    · exact h _ _ hh.1
    · exact Each.left h hh.2 y hy
  | [], _ :: _, h, _, _ => h.elim
  | _ :: _, [], h, _, _ => h.elim
theorem flatten_at {α : Type} {s : Nat} {F : Nat → α → Prop} : ∀ (css : List (List α)) (o : Nat), (∀ k c, css[k]? = some c → c.length = s ∧ ∀ i v, c[i]? = some v → F (o + k * s + i) v) → ∀ j v, css.flatten[j]? = some v → F (o + j) v
  | [], _, _, j, v, h => by simp at h
  | c :: css, o, hh, j, v, h => by
    rw [List.flatten_cons] at h
    obtain ⟨h1, h2⟩ := hh 0 c rfl
    by_cases hj : j < c.length
    · rw [List.getElem?_append_left hj] at h
      simpa using h2 j v h
    · rw [List.getElem?_append_right (by omega)] at h
      have := flatten_at css (o + s) (fun k c' hc => by
        obtain ⟨h3, h4⟩ := hh (k + 1) c' hc
        refine ⟨h3, fun i v hv => ?_⟩
        have := h4 i v hv
        rw [Nat.succ_mul] at this
        rwa [show o + s + k * s + i = o + (k * s + s) + i by omega]) (j - c.length) v h
      rwa [show o + s + (j - c.length) = o + j by omega] at this

theorem chain_rep {H : Type} {d : DataW H} {w : World} : ∀ (nf : Nat) (τ : Ty) (cs : List Value), nfOk nf τ = true → cs.length = τ.size → (∀ j τj, fldTy nf j τ = some τj → ∃ x, Rep Old w τj x ((cs.drop (fldOff nf j τ)).take τj.size) ∧ Wf τj x ∧ Sz d τj x) → ∃ x, Rep Old w τ x cs ∧ Wf τ x ∧ Sz d τ x
  | 0, τ, cs, hn, hl, h => by
    cases τ with
    | unit => simp only [Ty.size] at hl; exact ⟨(), List.length_eq_zero_iff.1 hl, trivial, fun _ _ _ _ => trivial⟩
    | _ => simp [nfOk] at hn
  | 1, τ, cs, hn, hl, h => by
    cases τ with
    | one a =>
      obtain ⟨x, h1, h2, h2'⟩ := h 0 a rfl
      refine ⟨x, ?_, h2, h2'⟩
      simp only [Ty.size] at hl
      simp only [fldOff, List.drop_zero, ← hl, List.take_length] at h1
      exact h1
    | _ => simp [nfOk] at hn
  | 2, τ, cs, hn, hl, h => by
    cases τ with
    | pair a b =>
      obtain ⟨x, h1, h2, h2'⟩ := h 0 a rfl
      obtain ⟨y, h3, h4, h4'⟩ := h 1 b rfl
      simp only [Ty.size] at hl
      simp only [fldOff, List.drop_zero] at h1 h3
      rw [List.take_of_length_le (by rw [List.length_drop]; omega)] at h3
      exact ⟨(x, y), ⟨_, _, (List.take_append_drop a.size cs).symm, h1, h3⟩, ⟨h2, h4⟩, fun μ M k h => ⟨h2' μ M k h, h4' μ M k h⟩⟩
    | _ => simp [nfOk] at hn
  | nf + 3, τ, cs, hn, hl, h => by
    cases τ with
    | pair a b =>
      obtain ⟨x, h1, h2, h2'⟩ := h 0 a rfl
      simp only [Ty.size] at hl
      simp only [fldOff, List.drop_zero] at h1
      obtain ⟨y, h3, h4, h4'⟩ := chain_rep (nf + 2) b (cs.drop a.size) hn (by rw [List.length_drop]; omega) (fun j τj hj => by
        have := h (j + 1) τj hj
        simp only [fldOff, ← List.drop_drop] at this
        exact this)
      exact ⟨(x, y), ⟨_, _, (List.take_append_drop a.size cs).symm, h1, h3⟩, ⟨h2, h4⟩, fun μ M k h => ⟨h2' μ M k h, h4' μ M k h⟩⟩
    | _ => simp [nfOk] at hn

section
variable {H : Type} {enc : TypeId × Value → H} {P : Program} {w : World} {tab : List (Nat × TE)}

theorem Types.cellsOf (T : Types P tab) {t : Nat} {te : TE} (h : lookO tab t = some te) : P.cellsOf t = te.ty.size := by
  obtain ⟨i, h1, h2, _⟩ := T.info h
  simp [Program.cellsOf, h1, h2]

theorem rdTab_spec (R : rdTab tab = true) {t : Nat} {te : TE} (h : lookO tab t = some te) : rdOk te.ty = true ∧ ∀ e, te.ty = .slc e → e.bytes ≤ te.bytes := by
  unfold rdTab at R
  rw [List.all_eq_true] at R
  have := R _ (lookO_mem h)
  simp only [Bool.and_eq_true] at this
  refine ⟨this.1, fun e he => ?_⟩
  have h2 := this.2
  rw [he] at h2
  exact Nat.le_of_ble_eq_true h2

theorem fld_lt : ∀ {nf j : Nat} {τ τj : Ty}, fldTy nf j τ = some τj → j < nf
  | 1, 0, _, _, _ => by omega
  | 2, 0, _, _, _ => by omega
  | 2, 1, _, _, _ => by omega
  | _ + 3, 0, _, _, _ => by omega
  | nf + 3, i + 1, τ, τj, h => by
    cases τ with
    | pair a b => exact Nat.succ_lt_succ (fld_lt (nf := nf + 2) h)
    | _ => simp [fldTy] at h
  | 0, _, τ, _, h => by simp [fldTy] at h
  | 1, _ + 1, τ, _, h => by simp [fldTy] at h
  | 2, _ + 2, τ, _, h => by simp [fldTy] at h

theorem all_weightsEach {P : Program} {ts : List TypeId} {ds : List (DataW H)} (h : (DataW.weightsEach P ts ds).all (· ≤ reachBytes) = true) {j : Nat} {t : TypeId} {d : DataW H} (ht : ts[j]? = some t) (hd : ds[j]? = some d) : (d.weights P t).all (· ≤ reachBytes) = true := by
  rw [List.all_eq_true] at h ⊢
  exact fun n hn => h n (DataW.weights_mem_each ht hd n hn)
theorem all_weightsAll {P : Program} {e : TypeId} : ∀ {ds : List (DataW H)}, (DataW.weightsAll P e ds).all (· ≤ reachBytes) = true → ∀ {j : Nat} {d : DataW H}, ds[j]? = some d → (d.weights P e).all (· ≤ reachBytes) = true
  | [], _, _, _, hd => by simp at hd
  | d0 :: ds, h, 0, d, hd => by
    simp only [List.getElem?_cons_zero, Option.some.injEq] at hd
    subst hd
    simp only [DataW.weightsAll, List.all_append, Bool.and_eq_true] at h
    exact h.1
  | d0 :: ds, h, j + 1, d, hd => by
    simp only [List.getElem?_cons_succ] at hd
    simp only [DataW.weightsAll, List.all_append, Bool.and_eq_true] at h
    exact all_weightsAll h.2 hd

theorem rep_of_trod (T : Types P tab) (R : rdTab tab = true) : ∀ (n : Nat) (t : Nat) (te : TE) (cs : List Value) (z : DataW H × List MemPlace), lookO tab t = some te → DataW.trod enc P w 0 (fun _ => true) true n t cs = some z →
    (z.1.weights P t).all (· ≤ reachBytes) = true → ∃ x, Rep Old w te.ty x cs ∧ Wf te.ty x ∧ Sz z.1 te.ty x := by
  intro n
  induction n with
  | zero => intro t te cs z _ h; simp [DataW.trod] at h
  | succ n ih =>
    intro t te cs z hte h hw
    obtain ⟨d, hu, hd⟩ := T.under hte
    obtain ⟨hrd, hby⟩ := rdTab_spec R hte
    cases d <;> simp only [descOk] at hd <;> try (simp at hd; done)
    case bool =>
      obtain ⟨b, rfl, _⟩ := DataW.trod_bool hu h
      rw [Ty.eq_of_beq hd]
      exact ⟨b, rfl, trivial, fun _ _ _ _ => trivial⟩
    case int k =>
      obtain ⟨m, rfl, _, hm⟩ := DataW.trod_int hu h
      rw [Ty.eq_of_beq hd]
      exact ⟨m, rfl, hm, fun _ _ _ _ => trivial⟩
    case string =>
      obtain ⟨s, rfl, rfl, hs⟩ := DataW.trod_string hu h
      rw [Ty.eq_of_beq hd]
      refine ⟨s, rfl, ?_, fun _ _ _ _ => trivial⟩
      simp only [DataW.weights, List.all_cons, List.all_nil, Bool.and_true, decide_eq_true_eq, Array.length_toList] at hw
      exact hw
    case slice e =>
      cases hty : te.ty <;> rw [hty] at hd <;> try (simp at hd; done)
      rename_i τ
      obtain ⟨et, tee, i, h1, h2, h3, h4, h5, h6, h7⟩ := T.slc hte hty
      rw [hu] at h1
      cases h1
      have hc := T.cellsOf h2
      have hby := hby τ hty
      rw [hty] at hrd
      simp only [rdOk, Bool.and_eq_true, Bool.not_eq_true'] at hrd
      have hpos : 0 < τ.size := Nat.pos_of_ne_zero fun e => by have := hrd.1; rw [e] at this; cases this
      have hbo : P.bytesOf e = te.bytes := by simp [Program.bytesOf, h4, h7]
      rcases DataW.trod_slice hu h with ⟨rfl, rfl⟩ | ⟨a, len, cap, elems, rest, n', hn', rfl, rfl, _, hlc, hcm, hle, hel, hrest, _⟩
      · exact ⟨[], ⟨none, 0, rfl, Nat.le_refl _, rfl⟩, ⟨by simp, by simp, fun x hx => (by cases hx)⟩, fun _ _ _ _ => ⟨Nat.zero_le _, fun x hx => (by cases hx)⟩⟩
      · cases hn'
        obtain ⟨hrl, hre⟩ := hrest rfl
        simp only [DataW.weights, hu, List.all_cons, List.all_append, Bool.and_eq_true, decide_eq_true_eq, List.length_map] at hw
        obtain ⟨hw1, hw2, _⟩ := hw
        rw [hc, h3] at hel hre
        have el : ∀ i, i < len → ∃ x, Rep Old w τ x (((w.cells? 0 (a.add (i * τ.size)) τ.size)).getD []) ∧ Wf τ x ∧ Sz (.slice (elems.map (·.1)) (rest.map (·.1))) τ x := fun i hi => by
          have hi' := hel i hi
          obtain ⟨y, hy⟩ : ∃ y, elems[i]? = some y := ⟨_, List.getElem?_eq_getElem (by rw [hle]; exact hi)⟩
          rw [hy, Option.bind_eq_some_iff] at hi'
          obtain ⟨c, hc1, hc2⟩ := hi'
          rw [hc1, Option.getD_some]
          rw [← h3]
          obtain ⟨x, e1, e2, e3⟩ := ih e tee c y h2 hc2 (all_weightsAll hw2 (j := i) (by rw [List.getElem?_map, hy]; rfl))
          exact ⟨x, e1, e2, fun μ M k hk => e3 μ M k (Nat.le_trans (M.slc (List.mem_map.2 ⟨y, List.mem_of_getElem? hy, rfl⟩)) hk)⟩
        obtain ⟨xs, hxl, hxe⟩ := exists_each (fun x c => Rep Old w τ x c ∧ Wf τ x ∧ Sz (.slice (elems.map (·.1)) (rest.map (·.1))) τ x) (fun i => ((w.cells? 0 (a.add (i * τ.size)) τ.size)).getD []) len el
        have hsp : a.spot = none ∨ cap = 0 := by
          rcases Nat.eq_zero_or_pos cap with h0 | h0
          · exact .inr h0
          · left
            have hx : ∃ c, w.cells? 0 (a.add (0 * τ.size)) τ.size = some c := by
              rcases Nat.eq_zero_or_pos len with hl0 | hl0
              · have := hre 0 (by omega)
                obtain ⟨y, hy⟩ : ∃ y, rest[0]? = some y := ⟨_, List.getElem?_eq_getElem (by omega)⟩
                rw [hy, Option.bind_eq_some_iff, hl0] at this
                obtain ⟨c, hc1, _⟩ := this
                exact ⟨c, hc1⟩
              · have := hel 0 hl0
                obtain ⟨y, hy⟩ : ∃ y, elems[0]? = some y := ⟨_, List.getElem?_eq_getElem (by omega)⟩
                rw [hy, Option.bind_eq_some_iff] at this
                obtain ⟨c, hc1, _⟩ := this
                exact ⟨c, hc1⟩
            obtain ⟨c, hc⟩ := hx
            obtain ⟨_, hl, hcell⟩ := World.cells?_some hc
            have h1 := hcell 0 hpos
            rw [List.getElem?_eq_getElem (by rw [hl]; exact hpos)] at h1
            have := World.cell?_spot h1
            simpa [Addr.add] using this
        refine ⟨xs, ⟨some a, cap, by rw [hxl], by rw [hxl]; exact hlc, hsp, _, hxe.mono fun _ _ h => h.1, fun j v hj => ⟨?_, trivial⟩⟩, ⟨by rw [hxl]; unfold maxLen at hcm; omega, ?_, hxe.left fun _ _ h => h.2.1⟩, fun μ M k hk => ⟨by rw [hxl, ← hle, ← List.length_map (as := elems) (·.1)]; exact Nat.le_trans (M.len _ _) hk, hxe.left fun _ _ h => h.2.2 μ M k hk⟩⟩
        · rcases hsp with hsp | h0
          · obtain ⟨b, off, sp⟩ := a
            cases hsp
            have := flatten_at (s := τ.size) (F := fun j v => w.cell? ⟨b, off + j, none⟩ = some v) _ 0 (fun k c hk => ?_) j v hj
            · rwa [Nat.zero_add] at this
            · rw [List.getElem?_map, Option.map_eq_some_iff] at hk
              obtain ⟨k', hk1, hk2⟩ := hk
              have hk3 : k < len := by
                have := (List.getElem?_eq_some_iff.1 hk1).1
                simpa using this
              rw [List.getElem?_range hk3] at hk1
              cases hk1
              have hi' := hel k hk3
              obtain ⟨y, hy⟩ : ∃ y, elems[k]? = some y := ⟨_, List.getElem?_eq_getElem (by rw [hle]; exact hk3)⟩
              rw [hy, Option.bind_eq_some_iff] at hi'
              obtain ⟨c', hc1, hc2⟩ := hi'
              rw [hc1, Option.getD_some] at hk2
              subst hk2
              obtain ⟨_, hl, hcell⟩ := World.cells?_some hc1
              refine ⟨hl, fun i v hv => ?_⟩
              have hi : i < τ.size := by rw [← hl]; exact (List.getElem?_eq_some_iff.1 hv).1
              have := hcell i hi
              rw [hv, WideShapes.add_plain, WideShapes.add_plain] at this
              rw [← this, Nat.zero_add, Nat.add_assoc]
          · have : len = 0 := by omega
            subst this
            simp at hj
        · rw [hxl]
          rw [hbo, hle] at hw1
          unfold reachBytes at hw1
          refine Nat.le_trans (Nat.mul_le_mul_left len hby) (Nat.le_trans (Nat.mul_le_mul_right _ (Nat.le_add_right len rest.length)) hw1)
    case array m e =>
      cases hty : te.ty <;> rw [hty] at hd <;> try (simp at hd; done)
      rename_i k τ
      obtain ⟨et, tee, h1, h2, h3⟩ := T.arr hte hty
      rw [hu] at h1
      simp only [Option.some.injEq, TypeDesc.array.injEq] at h1
      obtain ⟨rfl, rfl⟩ := h1
      have hc := T.cellsOf h2
      have hct := T.cellsOf hte
      rw [hty] at hct
      unfold DataW.trod at h
      rw [hu] at h
      simp only at h
      by_cases hl : cs.length = P.cellsOf t
      · rw [if_pos hl, Option.map_eq_some_iff] at h
        obtain ⟨ys, hys, rfl⟩ := h
        have hyl := mapM_some_length hys
        rw [List.length_range] at hyl
        simp only [DataW.weights, hu] at hw
        have el : ∀ i, i < m → ∃ x, Rep Old w τ x ((cs.drop (i * τ.size)).take τ.size) ∧ Wf τ x ∧ Sz (.agg (ys.map (·.1))) τ x := fun i hi => by
          have hi' := mapM_some_get hys i i (by simp [hi])
          obtain ⟨y, hy⟩ : ∃ y, ys[i]? = some y := ⟨_, List.getElem?_eq_getElem (by rw [hyl]; exact hi)⟩
          rw [hy, hc, h3] at hi'
          rw [← h3] at hi' ⊢
          obtain ⟨x, e1, e2, e3⟩ := ih e tee _ y h2 hi' (all_weightsAll hw (j := i) (by rw [List.getElem?_map, hy]; rfl))
          exact ⟨x, e1, e2, fun μ M k hk => e3 μ M k (Nat.le_trans (M.agg (List.mem_map.2 ⟨y, List.mem_of_getElem? hy, rfl⟩)) hk)⟩
        obtain ⟨xs, hxl, hxe⟩ := exists_each (fun x c => Rep Old w τ x c ∧ Wf τ x ∧ Sz (.agg (ys.map (·.1))) τ x) (fun i => (cs.drop (i * τ.size)).take τ.size) m el
        refine ⟨xs, ⟨hxl, _, ?_, hxe.mono fun _ _ h => h.1⟩, ⟨hxl, hxe.left fun _ _ h => h.2.1⟩, fun μ M k hk => hxe.left fun _ _ h => h.2.2 μ M k hk⟩
        rw [flatten_chunks, List.take_of_length_le (by rw [hl, hct, Ty.size]; exact Nat.le_refl _)]
      · rw [if_neg hl] at h; cases h
    case struct fs =>
      have ha : te.ty.agg = true ∧ ∀ n e, te.ty ≠ .arr n e := by
        revert hd; cases te.ty <;> simp [Ty.agg]
      obtain ⟨fs', q1, q2, q3, q4⟩ := T.struct hte ha.1 ha.2
      rw [hu] at q1
      cases q1
      obtain ⟨xs, n', hn', rfl, hl, hxl, hx⟩ := DataW.trod_struct hu h
      cases hn'
      rw [T.cellsOf hte] at hl
      refine chain_rep te.nf te.ty cs q2 hl fun j τj hj => ?_
      have hjl : j < fs.size := by rw [q3]; exact fld_lt hj
      have hf : fs[j]? = some fs[j] := Array.getElem?_eq_getElem hjl
      obtain ⟨_, h2, τ', tef, h3, h4, h5, _⟩ := q4 j _ hf
      rw [hj] at h3
      cases h3
      have hxj := hx j _ hf
      rw [h2, T.cellsOf h4, h5] at hxj
      obtain ⟨y, hy⟩ : ∃ y, xs[j]? = some y := ⟨_, List.getElem?_eq_getElem (by rw [hxl]; exact hjl)⟩
      rw [hy] at hxj
      simp only [DataW.weights, hu] at hw
      rw [← h5] at hxj ⊢
      obtain ⟨x, e1, e2, e3⟩ := ih _ tef _ y h4 hxj (all_weightsEach hw (j := j) (by rw [List.getElem?_map, Array.getElem?_toList, hf]; rfl) (by rw [List.getElem?_map, hy]; rfl))
      exact ⟨x, e1, e2, fun μ M k hk => e3 μ M k (Nat.le_trans (M.agg (List.mem_map.2 ⟨y, List.mem_of_getElem? hy, rfl⟩)) hk)⟩

/-- An argument of a type of the table. -/
theorem repV_of_trod (T : Types P tab) (R : rdTab tab = true) {r : Reach} {b0 : Nat} {t : Nat} {te : TE} {v : Value} {d : DataW H} {ps : List MemPlace} (hte : lookO tab t = some te) (hval : Value.okWide P w r b0 t v)
    (h : DataW.Trod enc P w 0 (fun _ => true) true t v d ps) (hw : (d.weights P t).all (· ≤ reachBytes) = true) : ∃ x, RepV Old w te.ty x v ∧ Wf te.ty x ∧ Sz d te.ty x := by
  obtain ⟨n, hn⟩ := h
  obtain ⟨x, h1, h2, h2'⟩ := rep_of_trod T R n t te _ _ hte hn hw
  refine ⟨x, ⟨_, h1, ?_⟩, h2, h2'⟩
  obtain ⟨dd, hu, ha⟩ := T.agg hte
  unfold valOf
  by_cases hag : te.ty.agg = true
  · rw [if_pos hag]
    have : ∃ cs, v = .agg cs := by
      rcases ha.1 hag with ⟨fs, rfl⟩ | ⟨n, e, rfl⟩ <;> simp only [Value.okWide, hu] at hval <;> exact ⟨_, hval.choose_spec.1⟩
    obtain ⟨cs, rfl⟩ := this
    rfl
  · rw [if_neg hag]
    obtain ⟨c, hc, _⟩ := h1.leaf (by simpa using hag)
    rw [hc]
    show v = c
    cases v <;> first | (simp only [Value.cells, List.cons.injEq, and_true] at hc; exact hc) | skip
    rename_i cs
    exfalso
    have hne : ∀ d, dd = d → (∀ fs, d ≠ .struct fs) ∧ ∀ n e, d ≠ .array n e := fun d hd => by
      subst hd
      exact ⟨fun fs e => hag (ha.2 (.inl ⟨fs, e⟩)), fun n e' e => hag (ha.2 (.inr ⟨n, e', e⟩))⟩
    obtain ⟨hs1, hs2⟩ := hne dd rfl
    cases dd <;> first | (exact absurd rfl (hs1 _)) | (exact absurd rfl (hs2 _ _)) | (simp [Value.okWide, Cell.okWide, Cell.ok, hu] at hval)

/-- The arguments of a law. -/
def WfP : (τs : List Ty) → pdens (τs.map PTy.data) → Prop
  | [], _ => True
  | [a], x => Wf a x
  | a :: b :: l, x => Wf a x.1 ∧ WfP (b :: l) x.2

def FewP (k : Nat) : (τs : List Ty) → pdens (τs.map PTy.data) → Prop
  | [], _ => True
  | [a], x => Few k a x
  | a :: b :: l, x => Few k a x.1 ∧ FewP k (b :: l) x.2
def SzP {H : Type} (ds : List (DataW H)) (τs : List Ty) (x : pdens (τs.map PTy.data)) : Prop := ∀ μ, Meas μ → ∀ k, (∀ d ∈ ds, μ d ≤ k) → FewP k τs x

def argsOk (tab : List (Nat × TE)) (ts : List Nat) (τs : List Ty) : Bool := beqL (fun (a : Nat × Ty) (b : Nat × Ty) => tabTy tab a.1 b.2) (ts.map fun t => (t, .unit)) (τs.map fun τ => (0, τ))

theorem args_of_trod (T : Types P tab) (R : rdTab tab = true) {r : Reach} {b0 : Nat} : ∀ (ts : List Nat) (τs : List Ty) (vs : List Value) (ds : List (DataW H)) (ps : List MemPlace), argsOk tab ts τs = true →
    DataW.TrodAll enc P w 0 (fun _ => true) true ts vs ds ps → (∀ (j : Nat) t v, ts[j]? = some t → vs[j]? = some v → Value.okWide P w r b0 t v) → (DataW.weightsEach P ts ds).all (· ≤ reachBytes) = true →
    ∃ x : pdens (τs.map PTy.data), ArgsP P Old w (τs.map PTy.data) x vs ∧ WfP τs x ∧ SzP ds τs x
  | [], [], [], [], _, _, _, _, _ => ⟨(), rfl, trivial, fun _ _ _ _ => trivial⟩
  | [t], [τ], [v], [d], _, ho, ⟨p, q, h1, h2, h3⟩, hv, hw => by
    simp only [argsOk, List.map_cons, List.map_nil, beqL, Bool.and_true] at ho
    obtain ⟨te, hte, rfl⟩ := tabTy_spec ho
    obtain ⟨x, hx, hwf, hsz⟩ := repV_of_trod T R hte (hv 0 t v rfl rfl) h1 (all_weightsEach hw (j := 0) rfl rfl)
    exact ⟨x, ⟨v, rfl, hx⟩, hwf, fun μ M k hk => hsz μ M k (hk d (List.mem_cons_self ..))⟩
  | t :: t' :: ts, τ :: τ' :: τs, v :: vs, d :: ds, _, ho, ⟨p, q, h1, h2, h3⟩, hv, hw => by
    simp only [argsOk, List.map_cons, beqL, Bool.and_eq_true] at ho
    obtain ⟨te, hte, rfl⟩ := tabTy_spec ho.1
    obtain ⟨x, hx, hwf, hsz⟩ := repV_of_trod T R hte (hv 0 t v rfl rfl) h1 (all_weightsEach hw (j := 0) rfl rfl)
    simp only [DataW.weightsEach, List.all_append, Bool.and_eq_true] at hw
    obtain ⟨y, hy, hwy, hsy⟩ := args_of_trod T R (t' :: ts) (τ' :: τs) vs ds q (by simp only [argsOk, List.map_cons, beqL, Bool.and_eq_true]; exact ho.2) h2 (fun j t v ht hv' => hv (j + 1) t v ht hv') hw.2
    exact ⟨(x, y), ⟨v, vs, rfl, hx, hy⟩, ⟨hwf, hwy⟩, fun μ M k hk => ⟨hsz μ M k (hk d (List.mem_cons_self ..)), hsy μ M k fun d' h' => hk d' (List.mem_cons_of_mem _ h')⟩⟩
  | [], _ :: _, _, _, _, ho, _, _, _ => by simp [argsOk, beqL] at ho
  | [_], [], _, _, _, ho, _, _, _ => by simp [argsOk, beqL] at ho
  | _ :: _ :: _, [], _, _, _, ho, _, _, _ => by simp [argsOk, beqL] at ho
  | [_], _ :: _ :: _, _, _, _, ho, _, _, _ => by simp [argsOk, beqL] at ho
  | _ :: _ :: _, [_], _, _, _, ho, _, _, _ => by simp [argsOk, beqL] at ho
  | [], [], _ :: _, _, _, _, h, _, _ => by simp [DataW.TrodAll] at h
  | [], [], [], _ :: _, _, _, h, _, _ => by simp [DataW.TrodAll] at h
  | [_], [_], [], _, _, _, h, _, _ => by simp [DataW.TrodAll] at h
  | [_], [_], _ :: _ :: _, _, _, _, h, _, _ => by
    cases ‹List (DataW H)› with
    | nil => simp [DataW.TrodAll] at h
    | cons _ _ => obtain ⟨_, _, _, h2, _⟩ := h; simp [DataW.TrodAll] at h2
  | [_], [_], [_], [], _, _, h, _, _ => by simp [DataW.TrodAll] at h
  | [_], [_], [_], _ :: _ :: _, _, _, h, _, _ => by obtain ⟨_, _, _, h2, _⟩ := h; simp [DataW.TrodAll] at h2
  | _ :: _ :: _, _ :: _ :: _, [], _, _, _, h, _, _ => by simp [DataW.TrodAll] at h
  | _ :: _ :: _, _ :: _ :: _, _ :: _, [], _, _, h, _, _ => by simp [DataW.TrodAll] at h

def rowsOk (P : Program) (ts : List Nat) : Bool := ts.all fun t => P.readableRec t && Nat.blt t P.types.size

/-- The arguments read behind the call as they did. -/
theorem args_back (hl : laidOutB P = true) {w' : World} (hb : Below w.heap.size w w') : ∀ {ts : List Nat} {vs : List Value} {ds : List (DataW H)} {ps : List MemPlace}, rowsOk P ts = true →
    DataW.TrodAll enc P w 0 (fun _ => true) true ts vs ds ps → DataW.TrodAll enc P w' 0 (fun b => decide (b < w.heap.size)) true ts vs ds ps
  | [], [], [], _, _, h => h
  | t :: ts, v :: vs, d :: ds, _, ho, ⟨p, q, h1, h2, h3⟩ => by
    simp only [rowsOk, List.all_cons, Bool.and_eq_true] at ho
    refine ⟨p, q, Below.trod hl ho.1.1 (Nat.le_of_ble_eq_true ho.1.2) h1 hb ?_, args_back hl hb ho.2 h2, h3⟩
    obtain ⟨m, hm⟩ := h1
    exact DataW.trod_lt m _ _ _ hm

/-- A law's walk, where what is read is short. -/
theorem law_walk_upto (T : Types P tab) (R : rdTab tab = true) {f : FuncId} {ts : List Nat} {τs : List Ty} {g : Nat → pdens (τs.map PTy.data) → Option Bool} (ho : argsOk tab ts τs = true)
    (hs : ∀ n, SoundE P f ⟨τs.map PTy.data, [.data .bool], g n⟩) 
    {r : Reach} {b0 : Nat} {args : Array Value} {ds : List (DataW H)} {ps : List MemPlace} (hp : ∀ x, WfP τs x → SzP ds τs x → ∃ n, g n x = some true) (h : DataW.TrodAll enc P w 0 (fun _ => true) true ts args.toList ds ps)
    (hv : ∀ (j : Nat) t v, ts[j]? = some t → args[j]? = some v → Value.okWide P w r b0 t v) (hw : (DataW.weightsEach P ts ds).all (· ≤ reachBytes) = true) :
    Calls P f args w fun e w' => e = .returned (.bool true) ∧ Below w.heap.size w w' := by
  obtain ⟨x, hx, hwf, hsz⟩ := args_of_trod T R ts τs args.toList ds ps ho h (fun j t v ht hv' => hv j t v ht (by simpa using hv')) hw
  obtain ⟨n, hn⟩ := hp x hwf hsz
  have := (hs n).2 0 0 Old w (Nat.le_refl 0) (fun _ _ => trivial) x args.toList hx true hn
  rw [Array.toArray_toList] at this
  refine this.mono ?_
  rintro e w' ⟨us, G', rfl, hf, _, hr⟩
  obtain ⟨v, rfl, hv⟩ := hr
  obtain ⟨cs, hc, rfl⟩ := hv
  have hc : cs = [.bool true] := hc
  subst hc
  exact ⟨rfl, hf.below⟩
/-- A law's walk. -/
theorem law_walk (T : Types P tab) (R : rdTab tab = true) {f : FuncId} {ts : List Nat} {τs : List Ty} {g : Nat → pdens (τs.map PTy.data) → Option Bool} (ho : argsOk tab ts τs = true)
    (hs : ∀ n, SoundE P f ⟨τs.map PTy.data, [.data .bool], g n⟩) (hp : ∀ x, WfP τs x → ∃ n, g n x = some true)
    {r : Reach} {b0 : Nat} {args : Array Value} {ds : List (DataW H)} {ps : List MemPlace} (h : DataW.TrodAll enc P w 0 (fun _ => true) true ts args.toList ds ps)
    (hv : ∀ (j : Nat) t v, ts[j]? = some t → args[j]? = some v → Value.okWide P w r b0 t v) (hw : (DataW.weightsEach P ts ds).all (· ≤ reachBytes) = true) :
    Calls P f args w fun e w' => e = .returned (.bool true) ∧ Below w.heap.size w w' :=
  law_walk_upto T R ho hs (fun x h _ => hp x h) h hv hw
end
end Go.Vi
