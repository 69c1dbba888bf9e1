/- Literals of structs, arrays and slices; parts of arrays as slices. -/
import Derived.Test.YtagpigbfbhdoiaaViP
namespace Go.Vi
open Go.RowKit (Below)

theorem foldl_splice : ∀ (l : List Value) (k : Nat) (cells : Array Value) (off : Nat), off + k + l.length ≤ cells.size →
    ((l.zipIdx k).foldl (fun cs (p : Value × Nat) => cs.setIfInBounds (off + p.2) p.1) cells).toList = splice cells.toList (off + k) l
  | [], k, cells, off, _ => by simp [splice]
  | v :: l, k, cells, off, h => by
    simp only [List.length_cons] at h
    rw [List.zipIdx_cons, List.foldl_cons, foldl_splice l (k + 1) _ off (by simp; omega)]
    apply List.ext_getElem?
    intro i
    simp only [splice, Array.toList_setIfInBounds]
    have e1 : ∀ (m : List Value) (o : Nat) (d : List Value), o + d.length ≤ m.length → ∀ j : Nat, (m.take o ++ (d ++ m.drop (o + d.length)))[j]? = if j < o then m[j]? else if j < o + d.length then d[j - o]? else m[j]? := by
      intro m o d hod j
      rw [List.getElem?_append, List.length_take, Nat.min_eq_left (by omega)]
      by_cases h1 : j < o
      · rw [if_pos h1, if_pos h1, List.getElem?_take, if_pos h1]
      · rw [if_neg h1, if_neg h1, List.getElem?_append]
        by_cases h2 : j < o + d.length
        · rw [if_pos (by omega), if_pos h2]
        · rw [if_neg (by omega), if_neg h2, List.getElem?_drop]
          congr 1; omega
    rw [e1 _ _ _ (by simp; omega), e1 _ _ _ (by simp; omega), List.length_cons]
    by_cases h1 : i < off + k
    · rw [if_pos (by omega), if_pos h1, List.getElem?_set_ne (by omega)]
    · rw [if_neg h1]
      by_cases h2 : i = off + k
      · subst h2
        rw [if_pos (by omega), if_pos (by omega), Nat.sub_self, List.getElem?_set_self (by simp; omega)]
        rfl
      · rw [if_neg (by omega)]
        by_cases h3 : i < off + k + (l.length + 1)
        · rw [if_pos (by omega), if_pos h3]
          rw [show i - (off + k) = (i - (off + (k + 1))) + 1 by omega, List.getElem?_cons_succ]
        · rw [if_neg (by omega), if_neg h3, List.getElem?_set_ne (by omega)]

theorem fill_step {place : Nat → Option (Nat × Nat)} {cells : Array Value} {i off size : Nat} {v : Value} {rest : List (Nat × Value)} (hp : place i = some (off, size)) (hs : v.cells.size = size) (hle : off + size ≤ cells.size) :
    ∃ cells' : Array Value, Instr.fill place cells ((i, v) :: rest) = Instr.fill place cells' rest ∧ cells'.toList = splice cells.toList off v.cells.toList := by
  refine ⟨(v.cells.zipIdx.foldl (fun cs (p : Value × Nat) => cs.setIfInBounds (off + p.2) p.1) cells), ?_, ?_⟩
  · simp only [Instr.fill, hp]
    rw [if_neg (by simp; omega)]
  · have := foldl_splice v.cells.toList 0 cells off (by simpa [hs] using hle)
    rw [← Array.foldl_toList, Array.toList_zipIdx]
    simpa using this

section
variable {P : Program} {C : Ctx} (T : Types P C.tab) {N : Nat} {F : Fr} {g : Gs} {s : St} {a : Act} {w : World} (hinv : Inv P N F g s a w) {o : Oper} (hd : dstLt N F o.dst)
include hinv

theorem fill_fields {τ : Ty} {nf : Nat} {place : Nat → Option (Nat × Nat)} (hp : ∀ i σ, fldTy nf i τ = some σ → place i = some (fldOff nf i τ, σ.size)) : ∀ (l : List (Nat × Operand)) (x x' : τ.den) (cells : Array Value),
    setFields τ nf x (l.map fun p => (p.1, s.ev p.2)) = some x' → Rep g.G w τ x cells.toList → ∃ cells' : Array Value, Instr.fill place cells (l.map fun p => (p.1, a.eval p.2)) = some cells' ∧ Rep g.G w τ x' cells'.toList
  | [], x, x', cells, h, hr => by cases h; exact ⟨cells, rfl, hr⟩
  | (i, y) :: l, x, x', cells, h, hr => by
    simp only [List.map_cons, setFields] at h ⊢
    rw [Option.bind_eq_some_iff] at h
    obtain ⟨d, h1, h⟩ := h
    rw [Option.bind_eq_some_iff] at h
    obtain ⟨z, h2, h⟩ := h
    rw [Option.bind_eq_some_iff] at h
    obtain ⟨x1, h3, h⟩ := h
    have hty := fldGet_ty _ _ _ _ _ _ h1
    obtain ⟨_, hle⟩ := fldGet_rep (G := g.G) (w := w) _ _ _ _ _ _ h1 _ hr
    have hz := RepV.cells ((hinv.ev y).asD h2)
    have hsz : (a.eval y).cells.size = d.1.size := by simpa using Rep.size _ _ _ hz
    obtain ⟨cells1, q1, q2⟩ := fill_step (rest := l.map fun p => (p.1, a.eval p.2)) (hp i d.1 hty) hsz (by simpa using hle)
    have hr1 := fldSet_rep (G := g.G) (w := w) nf i τ x ⟨d.1, z⟩ x1 h3 _ _ hr hz
    rw [← q2] at hr1
    obtain ⟨cells', q3, q4⟩ := fill_fields hp l x1 x' cells1 h hr1
    exact ⟨cells', by rw [q1]; exact q3, q4⟩

theorem fill_items {e : Ty} {place : Nat → Option (Nat × Nat)} (hp : ∀ i, place i = some (i * e.size, e.size)) : ∀ (l : List (Nat × Operand)) (x x' : List e.den) (css : List (List Value)) (cells : Array Value),
    setItems e x (l.map fun p => (p.1, s.ev p.2)) = some x' → Each (Rep g.G w e) x css → cells.toList = css.flatten → ∃ (cells' : Array Value) (css' : List (List Value)), Instr.fill place cells (l.map fun p => (p.1, a.eval p.2)) = some cells' ∧
      Each (Rep g.G w e) x' css' ∧ cells'.toList = css'.flatten ∧ x'.length = x.length
  | [], x, x', css, cells, h, hr, hc => by cases h; exact ⟨cells, css, rfl, hr, hc, rfl⟩
  | (i, y) :: l, x, x', css, cells, h, hr, hc => by
    simp only [List.map_cons, setItems] at h ⊢
    rw [Option.bind_eq_some_iff] at h
    obtain ⟨z, h2, h⟩ := h
    cases hb : Nat.blt i x.length with
    | false => rw [hb] at h; cases h
    | true =>
      rw [hb, cond_true] at h
      have hi : i < x.length := by simpa using hb
      have hz := RepV.cells ((hinv.ev y).asD h2)
      have hsz : (a.eval y).cells.size = e.size := by simpa using Rep.size _ _ _ hz
      obtain ⟨_, hle⟩ := hr.item i hi
      obtain ⟨cells1, q1, q2⟩ := fill_step (rest := l.map fun p => (p.1, a.eval p.2)) (hp i) hsz (by rw [← Array.length_toList, hc]; exact hle)
      obtain ⟨cells', css', q3, q4, q5, q6⟩ := fill_items hp l (x.set i z) x' (css.set i (a.eval y).cells.toList) cells1 h (hr.set hz i) (by
        rw [q2, hc, flatten_set (by simpa using hsz) hr.sizes i (by rw [← hr.length]; exact hi)])
      exact ⟨cells', css', by rw [q1]; exact q3, q4, q5, by rw [q6]; simp⟩

include hd T

theorem shown_build {t : TypeId} {parts : Array (Nat × Operand)} (hop : o.op = .build t parts) {e : Eff} (he : (buildS C t (parts.toList.map fun (i, x) => (i, s.ev x))).is e) : Shown P N F s a w o e := by
  have hex : execOp a.eval o = (do pure (.value (← Instr.build t (parts.map fun (i, x) => (i, a.eval x))))) := by unfold execOp; rw [hop]
  have hparts : (parts.map fun (i, x) => (i, a.eval x)).toList = parts.toList.map fun p => (p.1, a.eval p.2) := by simp
  unfold buildS at he
  split at he
  · rename_i te hte
    obtain ⟨i, hi, hsz, hz⟩ := T.info hte
    have hzc : (valOf te.ty (zeroV te.ty)).cells = (zeroV te.ty).toArray := (Rep.zero g.G w te.ty).cells
    split at he
    · rename_i n ee hty
      unfold Out.opt at he
      split at he
      · rename_i u hu
        obtain ⟨_, rfl⟩ := he
        rw [Option.map_eq_some_iff] at hu
        obtain ⟨x', hx', rfl⟩ := hu
        obtain ⟨et, tee, k1, k2, k3⟩ := T.arr hte hty
        subst k3
        obtain ⟨ie, hie, hiesz, _⟩ := T.info k2
        have hzero : Each (Rep g.G w tee.ty) (List.replicate n tee.ty.zero) (List.replicate n (zeroV tee.ty)) := Each.replicate (Rep.zero g.G w tee.ty) n
        obtain ⟨cells', css', q1, q2, q3, q4⟩ := fill_items hinv (place := fun i => some (i * tee.ty.size, tee.ty.size)) (fun _ => rfl) parts.toList (List.replicate n tee.ty.zero) x' (List.replicate n (zeroV tee.ty)) (zeroV te.ty).toArray hx' hzero (by rw [hty]; rfl)
        have hrep : Rep g.G w (.arr n tee.ty) x' cells'.toList := ⟨by rw [q4]; simp, css', q3, q2⟩
        refine shown_val hinv hd hex (v := .agg cells') ?_ (SRel.dat ⟨_, hrep, by simp [valOf, Ty.agg]⟩)
        simp only [Instr.build, zeroValue, typeInfo, Sem.run_bind, run_program, hi, hz, Sem.run_pure, Result.andThen_ok, hzc, run_underlying k1, sizeOf, hie, hiesz, hparts, q1]
      · exact he.elim
    · rename_i _ hnarr
      cases hagg : te.ty.agg with
      | false => rw [hagg] at he; exact he.elim
      | true =>
        rw [hagg, cond_true] at he
        unfold Out.opt at he
        split at he
        · rename_i u hu
          obtain ⟨_, rfl⟩ := he
          rw [Option.map_eq_some_iff] at hu
          obtain ⟨x', hx', rfl⟩ := hu
          obtain ⟨fs, h1, h0, h2, h3⟩ := T.struct hte hagg (fun n e h => hnarr n e h)
          -- the places
          let szOf : Field → Nat := fun f => ((P.info? f.type).map (·.size)).getD 0
          have hmap : (fs.mapM fun f => (do pure (f.offset, ← sizeOf f.type) : Sem (Nat × Nat))).run P w = .ok (fs.map fun f => (f.offset, szOf f)) w := by
            have hl : ∀ l : List Field, (∀ f ∈ l, ∃ (k : Nat), fs[k]? = some f) → (l.mapM fun f => (do pure (f.offset, ← sizeOf f.type) : Sem (Nat × Nat))).run P w = .ok (l.map fun f => (f.offset, szOf f)) w := by
              intro l hl
              induction l with
              | nil => rfl
              | cons f l ih =>
                obtain ⟨k, hk⟩ := hl f (by simp)
                obtain ⟨_, _, τ', tef, k3, k4, k5, _⟩ := h3 k f hk
                obtain ⟨inf, hinf, _⟩ := T.info k4
                rw [List.mapM_cons]
                simp only [Sem.run_bind, sizeOf, typeInfo, run_program, Result.andThen_ok, hinf, Sem.run_pure]
                have ih' := ih (fun f' hf' => hl f' (List.mem_cons_of_mem _ hf'))
                simp only [sizeOf, typeInfo] at ih'
                rw [ih']
                simp [szOf, hinf]
            rw [Array.mapM_eq_mapM_toList]
            simp only [Sem.run_map]
            rw [hl fs.toList (fun f hf => by
              obtain ⟨k, hk, rfl⟩ := List.getElem_of_mem hf
              exact ⟨k, by rw [← Array.getElem?_toList]; exact List.getElem?_eq_getElem hk⟩)]
            simp only [Result.andThen_ok]
            congr 1
            apply Array.ext'; simp
          have hplace : ∀ i σ, fldTy te.nf i te.ty = some σ → (fs.map fun f => (f.offset, szOf f))[i]? = some (fldOff te.nf i te.ty, σ.size) := by
            intro i σ hty
            have hlt := nf_lt _ _ _ _ hty
            obtain ⟨ff, hff⟩ : ∃ ff, fs[i]? = some ff := ⟨_, Array.getElem?_eq_getElem (by omega)⟩
            obtain ⟨_, k2, τ', tef, k3, k4, k5, _⟩ := h3 i ff hff
            rw [hty] at k3
            cases k3
            obtain ⟨inf, hinf, hisz, _⟩ := T.info k4
            rw [Array.getElem?_map, hff, Option.map_some, k2]
            simp [szOf, hinf, hisz, k5]
          obtain ⟨cells', q1, q2⟩ := fill_fields hinv (place := fun i => (fs.map fun f => (f.offset, szOf f))[i]?) hplace parts.toList te.ty.zero x' (zeroV te.ty).toArray hx' (by simpa using Rep.zero g.G w te.ty)
          refine shown_val hinv hd hex (v := .agg cells') ?_ (SRel.dat ⟨_, q2, by simp [valOf, hagg]⟩)
          simp only [Instr.build, zeroValue, typeInfo, Sem.run_bind, run_program, hi, hz, Sem.run_pure, Result.andThen_ok, hzc, run_underlying h1]
          rw [hmap]
          simp only [Result.andThen_ok, hparts, q1, Sem.run_pure]
        · exact he.elim
  · exact he.elim
end
end Go.Vi
