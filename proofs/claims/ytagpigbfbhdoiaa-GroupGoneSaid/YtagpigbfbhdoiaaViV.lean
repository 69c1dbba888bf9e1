/- Literals of structs, arrays and slices; parts of arrays as slices. -/
import Derived.Test.YtagpigbfbhdoiaaViPP
import Derived.OrdersIn
import Derived.LoopN
namespace Go.Vi
open Go.RowKit (Below)

theorem foldl_splice : ∀ (l : List Value) (k : Nat) (cells : Array Value) (off : Nat), off + k + l.length ≤ cells.size →
    ((l.zipIdx k).foldl (fun cs (p : Value × Nat) => cs.setIfInBounds (off + p.2) p.1) cells).toList = splice cells.toList (off + k) l
  | [], k, cells, off, _ => by simp [splice]
  | v :: l, k, cells, off, h => by
    simp only [List.length_cons] at h
    rw [List.zipIdx_cons, List.foldl_cons, foldl_splice l (k + 1) _ off (by simp; omega)]
    apply List.ext_getElem?
    intro i
    simp only [splice, Array.toList_setIfInBounds]
    have e1 : ∀ (m : List Value) (o : Nat) (d : List Value), o + d.length ≤ m.length → ∀ j : Nat, (m.take o ++ (d ++ m.drop (o + d.length)))[j]? = if j < o then m[j]? else if j < o + d.length then d[j - o]? else m[j]? := by
      intro m o d hod j
      rw [List.getElem?_append, List.length_take, Nat.min_eq_left (by omega)]
      by_cases h1 : j < o
      · rw [if_pos h1, if_pos h1, List.getElem?_take, if_pos h1]
      · rw [if_neg h1, if_neg h1, List.getElem?_append]
        by_cases h2 : j < o + d.length
        · rw [if_pos (by omega), if_pos h2]
        · rw [if_neg (by omega), if_neg h2, List.getElem?_drop]
          congr 1; omega
    rw [e1 _ _ _ (by simp; omega), e1 _ _ _ (by simp; omega), List.length_cons]
    by_cases h1 : i < off + k
    · rw [if_pos (by omega), if_pos h1, List.getElem?_set_ne (by omega)]
    · rw [if_neg h1]
      by_cases h2 : i = off + k
      · subst h2
        rw [if_pos (by omega), if_pos (by omega), Nat.sub_self, List.getElem?_set_self (by simp; omega)]
        rfl
      · rw [if_neg (by omega)]
        by_cases h3 : i < off + k + (l.length + 1)
        · rw [if_pos (by omega), if_pos h3]
          rw [show i - (off + k) = (i - (off + (k + 1))) + 1 by omega, List.getElem?_cons_succ]
        · rw [if_neg (by omega), if_neg h3, List.getElem?_set_ne (by omega)]

theorem fill_step {place : Nat → Option (Nat × Nat)} {cells : Array Value} {i off size : Nat} {v : Value} {rest : List (Nat × Value)} (hp : place i = some (off, size)) (hs : v.cells.size = size) (hle : off + size ≤ cells.size) :
    ∃ cells' : Array Value, Instr.fill place cells ((i, v) :: rest) = Instr.fill place cells' rest ∧ cells'.toList = splice cells.toList off v.cells.toList := by
  refine ⟨(v.cells.zipIdx.foldl (fun cs (p : Value × Nat) => cs.setIfInBounds (off + p.2) p.1) cells), ?_, ?_⟩
  · simp only [Instr.fill, hp]
    rw [if_neg (by simp; omega)]
  · have := foldl_splice v.cells.toList 0 cells off (by simpa [hs] using hle)
    rw [← Array.foldl_toList, Array.toList_zipIdx]
    simpa using this

section
variable {P : Program} {C : Ctx} (T : Types P C.tab) {N : Nat} {F : Fr} {g : Gs} {s : St} {a : Act} {w : World} (hinv : Inv P N F g s a w) {o : Oper} (hd : dstLt N F o.dst)
include hinv

omit hinv in
theorem fill_fields {τ : Ty} {nf : Nat} {place : Nat → Option (Nat × Nat)} (hp : ∀ i σ, fldTy nf i τ = some σ → place i = some (fldOff nf i τ, σ.size)) : ∀ (l : List (Nat × Operand)) (us : List S) (x x' : τ.den) (cells : Array Value),
    Each (SRel P s.heap g w) us (l.map fun p => a.eval p.2) → setFields τ nf x ((l.map (·.1)).zip us) = some x' → Rep g.G w τ x cells.toList → ∃ cells' : Array Value, Instr.fill place cells (l.map fun p => (p.1, a.eval p.2)) = some cells' ∧ Rep g.G w τ x' cells'.toList
  | [], us, x, x', cells, _, h, hr => by cases h; exact ⟨cells, rfl, hr⟩
  | (i, y) :: l, [], x, x', cells, hu, h, hr => hu.elim
  | (i, y) :: l, u :: us, x, x', cells, hu, h, hr => by
    simp only [List.map_cons, List.zip_cons_cons, setFields] at h ⊢
    rw [Option.bind_eq_some_iff] at h
    obtain ⟨d, h1, h⟩ := h
    rw [Option.bind_eq_some_iff] at h
    obtain ⟨z, h2, h⟩ := h
    rw [Option.bind_eq_some_iff] at h
    obtain ⟨x1, h3, h⟩ := h
    have hty := fldGet_ty _ _ _ _ _ _ h1
    obtain ⟨_, hle⟩ := fldGet_rep (G := g.G) (w := w) _ _ _ _ _ _ h1 _ hr
    have hz := RepV.cells (hu.1.asD h2)
    have hsz : (a.eval y).cells.size = d.1.size := by simpa using Rep.size _ _ _ hz
    obtain ⟨cells1, q1, q2⟩ := fill_step (rest := l.map fun p => (p.1, a.eval p.2)) (hp i d.1 hty) hsz (by simpa using hle)
    have hr1 := fldSet_rep (G := g.G) (w := w) nf i τ x ⟨d.1, z⟩ x1 h3 _ _ hr hz
    rw [← q2] at hr1
    obtain ⟨cells', q3, q4⟩ := fill_fields hp l us x1 x' cells1 hu.2 h hr1
    exact ⟨cells', by rw [q1]; exact q3, q4⟩

omit hinv in
theorem fill_items {e : Ty} {place : Nat → Option (Nat × Nat)} (hp : ∀ i, place i = some (i * e.size, e.size)) : ∀ (l : List (Nat × Operand)) (us : List S) (x x' : List e.den) (css : List (List Value)) (cells : Array Value),
    Each (SRel P s.heap g w) us (l.map fun p => a.eval p.2) → setItems e x ((l.map (·.1)).zip us) = some x' → Each (Rep g.G w e) x css → cells.toList = css.flatten → ∃ (cells' : Array Value) (css' : List (List Value)), Instr.fill place cells (l.map fun p => (p.1, a.eval p.2)) = some cells' ∧
      Each (Rep g.G w e) x' css' ∧ cells'.toList = css'.flatten ∧ x'.length = x.length
  | [], us, x, x', css, cells, _, h, hr, hc => by cases h; exact ⟨cells, css, rfl, hr, hc, rfl⟩
  | (i, y) :: l, [], x, x', css, cells, hu, h, hr, hc => hu.elim
  | (i, y) :: l, u :: us, x, x', css, cells, hu, h, hr, hc => by
    simp only [List.map_cons, List.zip_cons_cons, setItems] at h ⊢
    rw [Option.bind_eq_some_iff] at h
    obtain ⟨z, h2, h⟩ := h
    cases hb : Nat.blt i x.length with
    | false => rw [hb] at h; cases h
    | true =>
      rw [hb, cond_true] at h
      have hi : i < x.length := by simpa using hb
      have hz := RepV.cells (hu.1.asD h2)
      have hsz : (a.eval y).cells.size = e.size := by simpa using Rep.size _ _ _ hz
      obtain ⟨_, hle⟩ := hr.item i hi
      obtain ⟨cells1, q1, q2⟩ := fill_step (rest := l.map fun p => (p.1, a.eval p.2)) (hp i) hsz (by rw [← Array.length_toList, hc]; exact hle)
      obtain ⟨cells', css', q3, q4, q5, q6⟩ := fill_items hp l us (x.set i z) x' (css.set i (a.eval y).cells.toList) cells1 hu.2 h (hr.set hz i) (by
        rw [q2, hc, flatten_set (by simpa using hsz) hr.sizes i (by rw [← hr.length]; exact hi)])
      exact ⟨cells', css', by rw [q1]; exact q3, q4, q5, by rw [q6]; simp⟩

include hd T

theorem shown_build {t : TypeId} {parts : Array (Nat × Operand)} (hop : o.op = .build t parts) {e : Eff} {us : List S} (hus : Each (SRel P s.heap g w) us (parts.toList.map fun p => a.eval p.2)) (he : (buildS C t ((parts.toList.map (·.1)).zip us)).is e) : Shown P N F s a w o e := by
  have hex : execOp a.eval o = (do pure (.value (← Instr.build t (parts.map fun (i, x) => (i, a.eval x))))) := by unfold execOp; rw [hop]
  have hparts : (parts.map fun (i, x) => (i, a.eval x)).toList = parts.toList.map fun p => (p.1, a.eval p.2) := by simp
  unfold buildS at he
  split at he
  · rename_i te hte
    obtain ⟨i, hi, hsz, hz⟩ := T.info hte
    have hzc : (valOf te.ty (zeroV te.ty)).cells = (zeroV te.ty).toArray := (Rep.zero g.G w te.ty).cells
    split at he
    · rename_i n ee hty
      unfold Out.opt at he
      split at he
      · rename_i u hu
        obtain ⟨_, rfl⟩ := he
        rw [Option.map_eq_some_iff] at hu
        obtain ⟨x', hx', rfl⟩ := hu
        obtain ⟨et, tee, k1, k2, k3⟩ := T.arr hte hty
        subst k3
        obtain ⟨ie, hie, hiesz, _⟩ := T.info k2
        have hzero : Each (Rep g.G w tee.ty) (List.replicate n tee.ty.zero) (List.replicate n (zeroV tee.ty)) := Each.replicate (Rep.zero g.G w tee.ty) n
        obtain ⟨cells', css', q1, q2, q3, q4⟩ := fill_items (place := fun i => some (i * tee.ty.size, tee.ty.size)) (fun _ => rfl) parts.toList us (List.replicate n tee.ty.zero) x' (List.replicate n (zeroV tee.ty)) (zeroV te.ty).toArray hus hx' hzero (by rw [hty]; rfl)
        have hrep : Rep g.G w (.arr n tee.ty) x' cells'.toList := ⟨by rw [q4]; simp, css', q3, q2⟩
        refine shown_val hinv hd hex (v := .agg cells') ?_ (SRel.dat ⟨_, hrep, by simp [valOf, Ty.agg]⟩)
        simp only [Instr.build, zeroValue, typeInfo, Sem.run_bind, run_program, hi, hz, Sem.run_pure, Result.andThen_ok, hzc, run_underlying k1, sizeOf, hie, hiesz, hparts, q1]
      · exact he.elim
    · rename_i _ hnarr
      cases hagg : te.ty.agg with
      | false => rw [hagg] at he; exact he.elim
      | true =>
        rw [hagg, cond_true] at he
        unfold Out.opt at he
        split at he
        · rename_i u hu
          obtain ⟨_, rfl⟩ := he
          rw [Option.map_eq_some_iff] at hu
          obtain ⟨x', hx', rfl⟩ := hu
          obtain ⟨fs, h1, h0, h2, h3⟩ := T.struct hte hagg (fun n e h => hnarr n e h)
          -- the places
          let szOf : Field → Nat := fun f => ((P.info? f.type).map (·.size)).getD 0
          have hmap : (fs.mapM fun f => (do pure (f.offset, ← sizeOf f.type) : Sem (Nat × Nat))).run P w = .ok (fs.map fun f => (f.offset, szOf f)) w := by
            have hl : ∀ l : List Field, (∀ f ∈ l, ∃ (k : Nat), fs[k]? = some f) → (l.mapM fun f => (do pure (f.offset, ← sizeOf f.type) : Sem (Nat × Nat))).run P w = .ok (l.map fun f => (f.offset, szOf f)) w := by
              intro l hl
              induction l with
              | nil => rfl
              | cons f l ih =>
                obtain ⟨k, hk⟩ := hl f (by simp)
                obtain ⟨_, _, τ', tef, k3, k4, k5, _⟩ := h3 k f hk
                obtain ⟨inf, hinf, _⟩ := T.info k4
                rw [List.mapM_cons]
                simp only [Sem.run_bind, sizeOf, typeInfo, run_program, Result.andThen_ok, hinf, Sem.run_pure]
                have ih' := ih (fun f' hf' => hl f' (List.mem_cons_of_mem _ hf'))
                simp only [sizeOf, typeInfo] at ih'
                rw [ih']
                simp [szOf, hinf]
            rw [Array.mapM_eq_mapM_toList]
            simp only [Sem.run_map]
            rw [hl fs.toList (fun f hf => by
              obtain ⟨k, hk, rfl⟩ := List.getElem_of_mem hf
              exact ⟨k, by rw [← Array.getElem?_toList]; exact List.getElem?_eq_getElem hk⟩)]
            simp only [Result.andThen_ok]
            congr 1
            apply Array.ext'; simp
          have hplace : ∀ i σ, fldTy te.nf i te.ty = some σ → (fs.map fun f => (f.offset, szOf f))[i]? = some (fldOff te.nf i te.ty, σ.size) := by
            intro i σ hty
            have hlt := nf_lt _ _ _ _ hty
            obtain ⟨ff, hff⟩ : ∃ ff, fs[i]? = some ff := ⟨_, Array.getElem?_eq_getElem (by omega)⟩
            obtain ⟨_, k2, τ', tef, k3, k4, k5, _⟩ := h3 i ff hff
            rw [hty] at k3
            cases k3
            obtain ⟨inf, hinf, hisz, _⟩ := T.info k4
            rw [Array.getElem?_map, hff, Option.map_some, k2]
            simp [szOf, hinf, hisz, k5]
          obtain ⟨cells', q1, q2⟩ := fill_fields (place := fun i => (fs.map fun f => (f.offset, szOf f))[i]?) hplace parts.toList us te.ty.zero x' (zeroV te.ty).toArray hus hx' (by simpa using Rep.zero g.G w te.ty)
          refine shown_val hinv hd hex (v := .agg cells') ?_ (SRel.dat ⟨_, q2, by simp [valOf, hagg]⟩)
          simp only [Instr.build, zeroValue, typeInfo, Sem.run_bind, run_program, hi, hz, Sem.run_pure, Result.andThen_ok, hzc, run_underlying h1]
          rw [hmap]
          simp only [Result.andThen_ok, hparts, q1, Sem.run_pure]
        · exact he.elim
  · exact he.elim
end
end Go.Vi

/- Literals of slices; parts of an array of the run's own. -/
namespace Go.Vi
open Go.RowKit (Below)

section
variable {P : Program} {C : Ctx} (T : Types P C.tab) {N : Nat} {F : Fr} {g : Gs} {s : St} {a : Act} {w : World} (hinv : Inv P N F g s a w) {o : Oper} (hd : dstLt N F o.dst)
include hinv hd

/-- A new block that stays. -/
theorem Inv.fresh {cells : Array Value} {et : TypeId} {u : S} {v : Value} (hv : ∀ g' : Gs, Adv g.G w g'.G (w.alloc (.cells cells et)) → (∀ j, g'.G.st w.heap.size j) → SRel P s.heap g' (w.alloc (.cells cells et)) u v) :
    ∃ g', Inv P N F g' (s.app o.dst { val := u }) (a.put o.dst v) (w.alloc (.cells cells et)) := by
  let g' : Gs := ⟨fun b => if b = w.heap.size then .stays else g.G b, g.ι, g.ov, g.yl⟩
  have hG : ∀ b, b < w.heap.size → g'.G b = g.G b := fun b hb => by simp only [g']; rw [if_neg (by omega)]
  have ha : Adv g.G w g'.G (w.alloc (.cells cells et)) := ⟨fun b o' v hcell hs => by
    have hb := Cell.lt hcell
    refine ⟨by rw [Cell.of_block (heap_alloc hb)]; exact hcell, ?_⟩
    unfold Gh.st at *
    rw [hG b hb]; exact hs⟩
  refine ⟨g', hinv.app (e := { val := u }) hd ⟨fun _ m fz c h => ⟨m, fz, c, h, Nat.le_refl _, fun _ _ => rfl, fun _ => ⟨rfl, rfl⟩⟩, fun _ m h => ⟨m, h, Nat.le_refl _, fun _ => rfl⟩, rfl⟩ (hv g' ha (fun j => by unfold Gh.st; simp [g'])) ?_ (Stp.alloc _ hG (by show (if w.heap.size = w.heap.size then Own.stays else _).upto F.t; rw [if_pos rfl]; trivial))⟩
  exact hinv.heap.mono (fun b hb => heap_alloc hb) g' hG rfl rfl rfl

include T
theorem shown_buildSlice {t len : Nat} {parts : Array (Nat × Operand)} (hop : o.op = .buildSlice t len parts) {e : Eff} {us : List S} (hus : Each (SRel P s.heap g w) us (parts.toList.map fun p => a.eval p.2)) (he : (buildSliceS C t len ((parts.toList.map (·.1)).zip us)).is e) : Shown P N F s a w o e := by
  have hex : execOp a.eval o = (do pure (.value (← Instr.buildSlice t len (parts.map fun (i, x) => (i, a.eval x))))) := by unfold execOp; rw [hop]
  have hparts : (parts.map fun (i, x) => (i, a.eval x)).toList = parts.toList.map fun p => (p.1, a.eval p.2) := by simp
  unfold buildSliceS at he
  split at he
  · rename_i te hte
    split at he
    · rename_i ee hty
      cases hb : Nat.ble (len * ee.size) 16777216 && Nat.ble 1 ee.size with
      | false => rw [hb] at he; exact he.elim
      | true =>
        rw [hb, cond_true] at he
        simp only [Bool.and_eq_true] at hb
        have hsm : len * ee.size ≤ 16777216 := Nat.le_of_ble_eq_true hb.1
        have hpos : 1 ≤ ee.size := Nat.le_of_ble_eq_true hb.2
        unfold Out.opt at he
        split at he
        · rename_i u hu
          obtain ⟨_, rfl⟩ := he
          rw [Option.map_eq_some_iff] at hu
          obtain ⟨x', hx', rfl⟩ := hu
          obtain ⟨et, tee, i, k1, k2, k3, hi, hisz, hiz, _⟩ := T.slc hte hty
          have hzc : (valOf ee (zeroV ee)).cells = (zeroV ee).toArray := (Rep.zero g.G w ee).cells
          have hzsz : (zeroV ee).toArray.size = ee.size := by simpa using Rep.size _ _ _ (Rep.zero g.G w ee)
          have hzero : Each (Rep g.G w ee) (List.replicate len ee.zero) (List.replicate len (zeroV ee)) := Each.replicate (Rep.zero g.G w ee) len
          have hinit : ((Array.range (len * ee.size)).map ((zeroV ee).toArray[· % (zeroV ee).toArray.size]!)).toList = (List.replicate len (zeroV ee)).flatten := by
            have := range_zero (zeroV ee).toArray len (by omega)
            rw [hzsz] at this ⊢
            simpa using this
          obtain ⟨cells', css', q1, q2, q3, q4⟩ := fill_items (place := fun i => some (i * ee.size, ee.size)) (fun _ => rfl) parts.toList us (List.replicate len ee.zero) x' (List.replicate len (zeroV ee)) _ hus hx' hzero hinit
          have hlen : x'.length = len := by rw [q4]; simp
          have hrun : (execOp a.eval o).run P w = .ok (.value (.slice (some ⟨w.heap.size, 0, none⟩) len len)) (w.alloc (.cells cells' et)) := by
            rw [hex]
            have hn : ¬ (len * ee.size > 2 ^ 24) := by omega
            by_cases h0 : len * ee.size = 0
            · have hinit0 : ((Array.range (len * ee.size)).map ((#[] : Array Value)[· % (#[] : Array Value).size]!)) = ((Array.range (len * ee.size)).map ((zeroV ee).toArray[· % (zeroV ee).toArray.size]!)) := by rw [h0]; simp
              simp only [Instr.buildSlice, Sem.run_bind, run_underlying k1, Result.andThen_ok, sizeOf, typeInfo, run_program, hi, Sem.run_pure, hisz, if_neg hn, if_pos h0, hinit0, hparts, q1, newRow, run_newObj, World.alloc_eq]
            · simp only [Instr.buildSlice, Sem.run_bind, run_underlying k1, Result.andThen_ok, sizeOf, typeInfo, run_program, hi, Sem.run_pure, hisz, if_neg hn, if_neg h0, zeroValue, hiz, hzc, hparts, q1, newRow, run_newObj, World.alloc_eq]
          obtain ⟨g', hg'⟩ := hinv.fresh hd (cells := cells') (et := et) (u := .lst .clip ee x') (v := .slice (some ⟨w.heap.size, 0, none⟩) len len) (fun g' ha hst => by
            have hrep := repV_block (G := g'.G) (heap_alloc_new w (.cells cells' et)) (q2.mono fun p q hpq => Rep.adv ha ee p q hpq) (by rw [q3]; exact List.prefix_refl _) (fun j _ => hst j) (cap := len) (by omega)
            rw [hlen] at hrep
            exact SRel.of0 ⟨hrep, _, _, rfl⟩)
          exact .value hrun ⟨g', hg'⟩
        · exact he.elim
    · exact he.elim
  · exact he.elim

theorem shown_slice_arr {t : TypeId} {x : Operand} {lo hi mx : Option Operand} (hop : o.op = .slice t x lo hi mx) {te : TE} (hte : C.te t = some te) {n : Nat} {ee : Ty} (hty : te.ty = .arr n ee) {lo' hi' mx' : Option Int}
    (h1 : boundS s lo = some lo') (h2 : boundS s hi = some hi') (h3 : boundS s mx = some mx') {id k : Nat} {root : Ty} (hxr : SRel P s.heap g w (.ptr id k root []) (a.eval x)) {fz : Bool} {y : (Ty.arr n ee).den} (hbox : s.box id k = some (fz, .dat (.arr n ee) y))
    {pre : Bool} {ef : Eff} (hsl : sliceList ee y true lo' hi' mx' = .ok pre ef) (hpre : pre = true) :
    Shown P N F s a w o { ef with hw := [(id, .box k true (.dat (.arr n ee) y))], rd := [id] } := by
  obtain ⟨m, fz0, c0, p1, p2, p3, p4⟩ := hxr
  have hl := box_spec hbox
  obtain ⟨g2, j1, j2, j3, j4, j5, j7⟩ := hinv.heap.freeze1 hl rfl
  obtain ⟨cs, et, q1, q2, q3⟩ := j1.box id k true _ (by rw [lookO_cons, if_pos rfl])
  rw [j4] at q1
  obtain ⟨hn, css, hflat, hes⟩ := q2
  have hrep : RepV g2.G w (.slc ee) y (.slice (some ⟨g.ι id k, 0, none⟩) (List.length y) n) :=
    repV_block q1 hes (by rw [hflat]; exact List.prefix_refl _) (fun j _ => j7 j) (by rw [hn]; exact Nat.le_refl _)
  obtain ⟨hnone, b0, b1, b2, b3, u, hu, hur⟩ := sliceList_spec (P := P) (H := (id, .box k true (.dat (.arr n ee) y)) :: s.heap) (whole := true) hrep (fun _ => hn.symm) (ef := ef) (lo := lo') (hi := hi') (mx := mx') (by rw [hsl]; exact ⟨hpre, rfl⟩)
  subst hu
  obtain ⟨et', tee, k1, k2, k3⟩ := T.arr hte hty
  subst k3
  obtain ⟨ie, hie, hiesz, _⟩ := T.info k2
  rw [hn] at b1 b2 hur
  have hb := run_bounds (P := P) (w := w) false n n (boundS_rel hinv h1) (boundS_rel hinv h2) (boundS_rel hinv h3) hnone b0 b1 b2 b3
  have hex : execOp a.eval o = (do pure (.value (← Instr.sliceAt t (a.eval x) (lo.map a.eval) (hi.map a.eval) (mx.map a.eval)))) := by unfold execOp; rw [hop]
  have hrun : (execOp a.eval o).run P w = .ok (.value (.slice (if (mx'.getD (n : Nat)).toNat = (lo'.getD 0).toNat then some ⟨g.ι id k, 0, none⟩ else (some ⟨g.ι id k, 0, none⟩ : Option Addr).map (·.add ((lo'.getD 0).toNat * tee.ty.size)))
      ((hi'.getD (n : Nat)).toNat - (lo'.getD 0).toNat) ((mx'.getD (n : Nat)).toNat - (lo'.getD 0).toNat))) w := by
    rw [hex, p4]
    simp only [Instr.sliceAt, Sem.run_bind, run_underlying k1, Result.andThen_ok, Instr.sureAddr, Sem.run_pure, hb, sizeOf, typeInfo, run_program, hie, hiesz, pathOff]
    split <;> rfl
  refine .value hrun ⟨g2, hinv.app (e := { val := u, hw := [(id, .box k true (.dat (.arr n tee.ty) y))], rd := [id] }) hd j2 hur j1 j3⟩
end
end Go.Vi

/- One operation: what the interpreter says is what the model does. -/
namespace Go.Vi

theorem shown_slice {P : Program} {C : Ctx} (T : Types P C.tab) {N : Nat} {F : Fr} {g : Gs} {s : St} {a : Act} {w : World} (hinv : Inv P N F g s a w) {o : Oper} (hd : dstLt N F o.dst) {t : TypeId} {x : Operand} {lo hi mx : Option Operand} (hop : o.op = .slice t x lo hi mx)
    {sx : S} (hx : SRel P s.heap g w sx (a.eval x)) {e : Eff} (he : (sliceS C s t sx lo hi mx).is e) : Shown P N F s a w o e := by
  unfold sliceS at he
  split at he
  · rename_i lo' hi' mx' te h1 h2 h3 hte
    split at he
    · rename_i ee hty
      split at he
      · rename_i xs hxs
        exact shown_slice_list T hinv hd hop hte hty h1 h2 h3 hx hxs he
      · exact he.elim
    · rename_i n ee hty
      split at he
      · rename_i id k root
        split at he
        · rename_i fz σ y hbox
          split at he
          · rename_i ys hc
            cases castD_some hc
            cases hb : (Ty.arr n ee).beq root with
            | false => rw [hb] at he; exact he.elim
            | true =>
              rw [hb, cond_true] at he
              split at he
              · rename_i pre ef hsl
                obtain ⟨hp, rfl⟩ := he
                exact shown_slice_arr T hinv hd hop hte hty h1 h2 h3 hx hbox hsl hp
              · exact he.elim
          · exact he.elim
        · exact he.elim
      · exact he.elim
    · rename_i hty
      split at he
      · split at he
        · rename_i b hb
          obtain ⟨hp, rfl⟩ := he
          exact shown_slice_str T hinv hd hop hte hty h1 h2 h3 hx hb hp
        · exact he.elim
      · exact he.elim
    · exact he.elim
  · exact he.elim

theorem parts_rel {P : Program} {N : Nat} {F : Fr} {g : Gs} {s : St} {a : Act} {w : World} (hinv : Inv P N F g s a w) : ∀ (l : List (Nat × Operand)), Each (SRel P s.heap g w) (l.map fun p => s.ev p.2) (l.map fun p => a.eval p.2)
  | [] => trivial
  | p :: l => ⟨hinv.ev p.2, parts_rel hinv l⟩

theorem evalOp_sound {P : Program} {C : Ctx} (hC : CtxOk P C) {N : Nat} {F : Fr} {g : Gs} {s : St} {a : Act} {w : World} (hinv : Inv P N F g s a w) {o : Oper} (hd : dstLt N F o.dst)
    {e : Eff} (he : (evalOp C o s).is e) : Shown P N F s a w o e := by
  have T := hC.types
  unfold evalOp at he
  split at he
  · rename_i x hop
    obtain ⟨_, rfl⟩ := he
    exact shown_move hinv hd (.inl hop)
  · rename_i x hop
    obtain ⟨_, rfl⟩ := he
    exact shown_move hinv hd (.inr hop)
  · rename_i c x y hop
    exact shown_pick hinv hd hop he
  · rename_i t hop
    split at he
    · rename_i d te hdst hte
      split at he
      · rename_i n hn
        obtain ⟨_, rfl⟩ := he
        exact shown_alloc T hinv hd hop hdst hte hn
      · exact he.elim
    · exact he.elim
  · rename_i t x hop
    exact shown_box hinv hd hop he
  · rename_i t parts hop
    exact shown_thawed hinv (parts_rel hinv parts.toList) he fun s1 g1 us e1 hi hus _ h1 => shown_build T hi hd hop hus h1
  · rename_i t len parts hop
    exact shown_thawed hinv (parts_rel hinv parts.toList) he fun s1 g1 us e1 hi hus _ h1 => shown_buildSlice T hi hd hop hus h1
  · rename_i t x hop
    exact shown_load T hinv hd hC.fts hC.pts hop he
  · rename_i t x y hop
    refine shown_thawed hinv (l := [s.ev y]) (vs := [a.eval y]) ⟨hinv.ev y, trivial⟩ he fun s1 g1 us e1 hi hus hev h1 => ?_
    split at h1
    · rename_i v
      exact shown_store T hi hd hop hus.1 (by rw [hev]; exact h1)
    · exact h1.elim
  · rename_i t x y hop
    exact shown_makeSlice T hinv hd hop he
  · rename_i x hop
    exact shown_nilCheck hinv hd hop he
  · rename_i op t x y yt hop
    exact shown_bin T hinv hd hC.fts hop he
  · rename_i op t x hop
    exact shown_un hinv hd hop he
  · rename_i src dst x hop
    exact shown_convert T hinv hd hop he
  · rename_i f first caps hop
    exact shown_makeFuncO hC hinv hd hop he
  · rename_i t x lo hi mx hop
    cases htl : tailAt C o.dst with
    | true => rw [htl, cond_true] at he; exact shown_tail T hinv hd hop he
    | false =>
    rw [htl, cond_false] at he
    refine shown_thawed hinv (l := [s.ev x]) (vs := [a.eval x]) ⟨hinv.ev x, trivial⟩ he fun s1 g1 us e1 hinv1 hus hev h1 => ?_
    split at h1
    · rename_i sx
      exact shown_slice T hinv1 hd hop hus.1 h1
    · exact h1.elim
  · rename_i t x f hop
    exact shown_fieldAddr T hinv hd hop he
  · rename_i t x f hop
    exact shown_field T hinv hd hop he
  · rename_i t x i hop
    exact shown_indexAddrV T hinv hd hop he
  · rename_i t x i hop
    exact shown_index T hinv hd hop he
  · rename_i x i hop
    exact shown_extract hinv hd hop he
  · rename_i b args ts hop
    split at he
    · split at he
      · rename_i t x hts hargs
        have hts' : ts = #[t] := by apply Array.ext'; exact hts
        subst hts'
        exact shown_lenV T hinv hd hop hargs he
      · exact he.elim
    · have hap : ∀ (ts' : List Nat) (as' : List Operand) (s1 : St) (g1 : Gs) (us : List S) (e1 : Eff), Inv P N F g1 s1 a w → ts.toList = ts' → args.toList = as' → Each (SRel P s1.heap g1 w) us (as'.map a.eval) → (bif ownAt C o.dst then appendOwn C s1 o.dst ts' us else appendS C s1 o.dst ts' us).is e1 → Shown P N F s1 a w o e1 := by
        intro ts' as' s1 g1 us e1 hi h1 h2 hus he
        have hno : (appendS C s1 o.dst ts' us).is e1 ∨ (appendOwn C s1 o.dst ts' us).is e1 := by
          revert he
          generalize ownAt C o.dst = b
          intro he
          cases b
          · exact .inl he
          · exact .inr he
        clear he
        match ts', as', us, h1, h2, hus, hno with
        | [t, t'], [x, y], [ux, uy], h1, h2, hus, hno =>
          have h1' : ts = #[t, t'] := by apply Array.ext'; exact h1
          have h2' : args = #[x, y] := by apply Array.ext'; exact h2
          subst h1'; subst h2'
          rcases hno with he | he
          · exact shown_append hi hd T hop hus.1 hus.2.1 he
          · exact shown_appendOwn hi hd T hop hus.1 hus.2.1 he
        | [], _, _, _, _, _, hno => rcases hno with he | he <;> cases hdst : o.dst <;> rw [hdst] at he <;> exact he.elim
        | [_], _, _, _, _, _, hno => rcases hno with he | he <;> cases hdst : o.dst <;> rw [hdst] at he <;> exact he.elim
        | _ :: _ :: _ :: _, _, _, _, _, _, hno => rcases hno with he | he <;> cases hdst : o.dst <;> rw [hdst] at he <;> exact he.elim
        | [_, _], [], [], _, _, _, hno => rcases hno with he | he <;> cases hdst : o.dst <;> rw [hdst] at he <;> exact he.elim
        | [_, _], [_], [_], _, _, _, hno => rcases hno with he | he <;> cases hdst : o.dst <;> rw [hdst] at he <;> first | exact he.elim | (unfold appendOwn at he; split at he <;> first | exact he.elim | simp_all)
        | [_, _], _ :: _ :: _ :: _, _ :: _ :: _ :: _, _, _, _, hno => rcases hno with he | he <;> cases hdst : o.dst <;> rw [hdst] at he <;> first | exact he.elim | (unfold appendOwn at he; split at he <;> first | exact he.elim | simp_all)
        | [_, _], [], _ :: _, _, _, hus, _ => exact hus.elim
        | [_, _], _ :: _, [], _, _, hus, _ => exact hus.elim
        | [_, _], [_], _ :: _ :: _, _, _, hus, _ => exact hus.2.elim
        | [_, _], _ :: _ :: _, [_], _, _, hus, _ => exact hus.2.elim
        | [_, _], [_, _], _ :: _ :: _ :: _, _, _, hus, _ => exact hus.2.2.elim
        | [_, _], _ :: _ :: _ :: _, [_, _], _, _, hus, _ => exact hus.2.2.elim
      exact shown_untied hinv (evs hinv args.toList) he fun s0 g0 us0 e0 hi0 hus0 _ h0 => shown_thawed hi0 hus0 h0 fun s1 g1 us e1 hi hus _ h1 => hap _ _ s1 g1 us e1 hi rfl rfl hus h1
    · split at he
      · rename_i t x hts hargs hdst
        have h1' : ts = #[t] := by apply Array.ext'; exact hts
        have h2' : args = #[x] := by apply Array.ext'; exact hargs
        subst h1'; subst h2'
        exact shown_clear T hinv hop hdst he
      · exact he.elim
    · refine shown_minmax hinv hd .min minI Builtin.min2 (fun ts t cs vs v r h => ?_) (fun k l p q => ?_) hop he
      · simp only [builtin, Builtin.min_, h]
      · rfl
    · refine shown_minmax hinv hd .max maxI Builtin.max2 (fun ts t cs vs v r h => ?_) (fun k l p q => ?_) hop he
      · simp only [builtin, Builtin.max_, h]
      · rfl
    · exact he.elim
  · rename_i f args ts hop
    exact shown_callV hC hinv hd hop he
  · exact he.elim
end Go.Vi

/- An operation sees its operands, and of the heap the rows that it names. -/
namespace Go.Vi

/-- Two states read alike. -/
def St.eqv (s s' : St) : Prop := (∀ t, look .poison s.slots t = look .poison s'.slots t) ∧ ∀ id, lookO s.heap id = lookO s'.heap id
theorem St.eqv.refl (s : St) : s.eqv s := ⟨fun _ => rfl, fun _ => rfl⟩
theorem St.eqv.symm {s s' : St} (h : s.eqv s') : s'.eqv s := ⟨fun t => (h.1 t).symm, fun id => (h.2 id).symm⟩
theorem St.eqv.trans {s s' s'' : St} (h : s.eqv s') (k : s'.eqv s'') : s.eqv s'' := ⟨fun t => (h.1 t).trans (k.1 t), fun id => (h.2 id).trans (k.2 id)⟩

theorem ev_eq {s s' : St} (h : ∀ t, look .poison s.slots t = look .poison s'.slots t) (x : Operand) : s.ev x = s'.ev x := by
  cases x with
  | tmp t => exact h t
  | _ => rfl

theorem box_eq {s s' : St} {id : Nat} (h : lookO s.heap id = lookO s'.heap id) (n : Nat) : s.box id n = s'.box id n := by unfold St.box; rw [h]
theorem nextBox_eq {s s' : St} {id : Nat} (h : lookO s.heap id = lookO s'.heap id) : nextBox s id = nextBox s' id := by unfold nextBox; rw [h]
theorem nextTok_eq {s s' : St} {id : Nat} (h : lookO s.heap id = lookO s'.heap id) : nextTok s id = nextTok s' id := by unfold nextTok; rw [h]

theorem boundS_eq {s s' : St} (x : Option Operand) (h : ∀ y, x = some y → s.ev y = s'.ev y) : boundS s x = boundS s' x := by
  cases x with
  | none => rfl
  | some y => simp only [boundS, h y rfl]

theorem map_ev {s s' : St} {l : List Operand} (h : ∀ x ∈ l, s.ev x = s'.ev x) : l.map s.ev = l.map s'.ev := List.map_congr_left h
theorem map_parts {s s' : St} {l : List (Nat × Operand)} (h : ∀ p ∈ l, s.ev p.2 = s'.ev p.2) : (l.map fun p => s.ev p.2) = (l.map fun p => s'.ev p.2) :=
  List.map_congr_left fun p hp => by simp only [h p hp]

theorem freeze_eq {s s' : St} : ∀ (l : List S) {us : List S} {hw : List (Nat × HC)} {rd : List Nat}, freeze s l = some (us, hw, rd) → (∀ id ∈ rd, lookO s.heap id = lookO s'.heap id) → freeze s' l = some (us, hw, rd)
  | [], _, _, _, h, _ => h
  | u :: l, us, hw, rd, h, hh => by
    unfold freeze at h ⊢
    split at h
    · cases ‹u :: l = []›
    · rename_i id n root l' heq
      cases heq
      split at h
      · rename_i fz σ x hbox
        cases hb : σ.beq root with
        | false => rw [hb] at h; cases h
        | true =>
          rw [hb, cond_true, Option.map_eq_some_iff] at h
          obtain ⟨⟨a, b, c⟩, hf, hres⟩ := h
          cases hres
          have hid : s'.box id n = some (fz, .dat σ x) := by rw [← box_eq (hh id (by simp)) n]; exact hbox
          simp only [hid, hb, cond_true]
          rw [freeze_eq _ hf (fun id' h' => hh id' (List.mem_cons_of_mem _ h'))]
          rfl
      · rename_i fz g e x hbox
        rw [Option.map_eq_some_iff] at h
        obtain ⟨⟨a, b, c⟩, hf, hres⟩ := h
        cases hres
        have hid : s'.box id n = some (fz, .lst g e x) := by rw [← box_eq (hh id (by simp)) n]; exact hbox
        simp only [hid]
        rw [freeze_eq _ hf (fun id' h' => hh id' (List.mem_cons_of_mem _ h'))]
        rfl
      · cases h
      · cases h
    · rename_i u' l' hne heq
      cases heq
      rw [Option.map_eq_some_iff] at h
      obtain ⟨⟨a, b, c⟩, hf, hres⟩ := h
      cases hres
      rw [freeze_eq (s' := s') l hf hh]; rfl

theorem cond_is {b : Bool} {x : Out} {e : Eff} {p : Prop} (h : (bif b then x else .fail).is e) (hp : x.is e → p) : p := by
  cases b
  · exact h.elim
  · exact hp h

theorem callM_local {C : Ctx} {s s' : St} {em : Em} {xs : List S} {e : Eff} (h : (callM C s em xs).is e) (hh : ∀ id ∈ e.rd, lookO s.heap id = lookO s'.heap id) : (callM C s' em xs).is e := by
  unfold callM at h ⊢
  split at h
  · rename_i id n root π us
    have hid : id ∈ e.rd := by
      split at h
      · split at h
        · split at h
          · refine cond_is h fun h => ?_
            obtain ⟨q, hq, hm⟩ := h
            obtain ⟨d, _, rfl⟩ := Option.map_eq_some_iff.1 hm
            simp
          · exact h.elim
        · exact h.elim
      · exact h.elim
    have hbx : s.boxD id n = s'.boxD id n := by unfold St.boxD; rw [box_eq (hh id hid) n]
    simp only [← hbx]
    exact h
  · exact h.elim

theorem lay_rd {e : Eff} {hw : List (Nat × HC)} {rd : List Nat} {H H' : List (Nat × HC)} (hh : ∀ id ∈ (e.lay hw rd).rd, lookO H id = lookO H' id) : (∀ id ∈ e.rd, lookO (hw ++ H) id = lookO (hw ++ H') id) ∧ ∀ id ∈ rd, lookO H id = lookO H' id := by
  refine ⟨fun id hid => ?_, fun id hid => hh id (List.mem_append_right _ hid)⟩
  rw [lookO_append_some, lookO_append_some, hh id (List.mem_append_left _ hid)]
theorem is_lay {o : Out} {hw : List (Nat × HC)} {rd : List Nat} {e : Eff} (h : o.is e) : (o.lay hw rd).is (e.lay hw rd) := by
  cases o with
  | fail => exact h.elim
  | ok p e0 => obtain ⟨h1, rfl⟩ := h; exact ⟨h1, rfl⟩
  | call α o mk => obtain ⟨r, h1, rfl⟩ := h; exact ⟨r, h1, rfl⟩
  | callO α o mk => obtain ⟨r, h1, h2⟩ := h; exact ⟨r, h1, by simp only [h2]⟩
  | emit es x => exact h.elim
theorem thaw_local {s s' : St} : ∀ (l : List S) {us : List S} {hw : List (Nat × HC)} {rd : List Nat}, thaw s l = some (us, hw, rd) → (∀ id ∈ rd, lookO s.heap id = lookO s'.heap id) → thaw s' l = some (us, hw, rd)
  | [], _, _, _, h, _ => h
  | u :: l, us, hw, rd, h, hh => by
    unfold thaw at h ⊢
    split at h
    · cases ‹u :: l = []›
    · rename_i id n ee l' heq
      cases heq
      split at h
      · rename_i fz e' xs hbox
        cases hb : e'.beq ee with
        | false => rw [hb] at h; cases h
        | true =>
          rw [hb, cond_true] at h
          split at h
          · rename_i a b c hf
            cases h
            have hid : s'.box id n = some (fz, .row e' xs) := by rw [← box_eq (hh id (by simp)) n]; exact hbox
            simp only [hid, hb, cond_true]
            rw [thaw_local l hf (fun id' h' => hh id' (List.mem_cons_of_mem _ h'))]
          · cases h
      · cases h
    · rename_i u' l' hne heq
      cases heq
      split at h
      · rename_i a b c hf
        cases h
        rw [thaw_local (s' := s') l hf hh]
      · cases h
theorem lend_local {s s' : St} : ∀ (l : List S) {us : List S} {hw : List (Nat × HC)} {rd : List Nat}, lend s l = some (us, hw, rd) → (∀ id ∈ rd, lookO s.heap id = lookO s'.heap id) → lend s' l = some (us, hw, rd)
  | [], _, _, _, h, _ => h
  | u :: l, us, hw, rd, h, hh => by
    unfold lend at h ⊢
    split at h
    · cases ‹u :: l = []›
    · rename_i id n ee l' heq
      cases heq
      split at h
      · rename_i fz e' xs hbox
        cases hb : e'.beq ee with
        | false => rw [hb] at h; cases h
        | true =>
          rw [hb, cond_true] at h
          split at h
          · rename_i a b c hf
            cases h
            have hid : s'.box id n = some (fz, .row e' xs) := by rw [← box_eq (hh id (by simp)) n]; exact hbox
            simp only [hid, hb, cond_true]
            rw [lend_local l hf (fun id' h' => hh id' (List.mem_cons_of_mem _ h'))]
          · cases h
      · cases h
    · rename_i id n root π l' heq
      cases heq
      split at h
      · rename_i fz k hbox
        split at h
        · rename_i σ x hunf
          split at h
          · rename_i τ y hget
            cases hb : σ.beq root with
            | false => rw [hb] at h; cases h
            | true =>
              rw [hb, cond_true] at h
              split at h
              · rename_i a b c hf
                cases h
                have hid : s'.box id n = some (fz, k) := by rw [← box_eq (hh id (by simp)) n]; exact hbox
                simp only [hid, hunf, hget, hb, cond_true]
                rw [lend_local l hf (fun id' h' => hh id' (List.mem_cons_of_mem _ h'))]
              · cases h
          · cases h
        · cases h
      · cases h
    · rename_i u' l' _ _ heq
      cases heq
      split at h
      · rename_i a b c hf
        cases h
        rw [lend_local (s' := s') l hf hh]
      · cases h
theorem lend_rd : ∀ (s : St) (l us : List S) (rd : List Nat), lend s l = some (us, [], rd) → rd = []
  | _, [], us, rd, h => by cases h; rfl
  | s, u :: l, us, rd, h => by
    unfold lend at h
    split at h
    · cases ‹u :: l = []›
    · split at h
      · rename_i e' _ _
        cases hb : e'.beq _ with
        | false => rw [hb] at h; cases h
        | true =>
          rw [hb, cond_true] at h
          split at h <;> cases h
      · cases h
    · split at h
      · split at h
        · rename_i σ x _
          split at h
          · cases hb : σ.beq _ with
            | false => rw [hb] at h; cases h
            | true =>
              rw [hb, cond_true] at h
              split at h <;> cases h
          · cases h
        · cases h
      · cases h
    · rename_i u' l' _ _ heq
      cases heq
      split at h
      · rename_i a b c hf
        cases h
        exact lend_rd s l a _ hf
      · cases h
theorem thaw_rd : ∀ (s : St) (l us : List S) (rd : List Nat), thaw s l = some (us, [], rd) → rd = []
  | _, [], us, rd, h => by cases h; rfl
  | s, u :: l, us, rd, h => by
    unfold thaw at h
    split at h
    · cases ‹u :: l = []›
    · split at h
      · rename_i e' _ _
        cases hb : e'.beq _ with
        | false => rw [hb] at h; cases h
        | true =>
          rw [hb, cond_true] at h
          split at h <;> cases h
      · cases h
    · rename_i u' l' _ heq
      cases heq
      split at h
      · rename_i a b c hf
        cases h
        exact thaw_rd s l a _ hf
      · cases h
theorem thawed_local {s s' : St} {l : List S} {f f' : St → List S → Out} {e : Eff} (h : (thawed s l f).is e) (hh : ∀ id ∈ e.rd, lookO s.heap id = lookO s'.heap id)
    (hf : ∀ (s1 s1' : St) (us : List S) (e1 : Eff), s1.slots = s.slots → s1'.slots = s'.slots → (f s1 us).is e1 → (∀ id ∈ e1.rd, lookO s1.heap id = lookO s1'.heap id) → (f' s1' us).is e1) : (thawed s' l f').is e := by
  unfold thawed at h ⊢
  split at h
  · rename_i us rd hth
    have hrd := thaw_rd _ _ _ _ hth
    subst hrd
    rw [thaw_local (s' := s') l hth (fun _ h => by cases h)]
    exact hf s s' us e rfl rfl h hh
  · rename_i us h0 hw rd hth
    obtain ⟨e0, h1, rfl⟩ := Out.lay_is h
    obtain ⟨h2, h3⟩ := lay_rd hh
    rw [thaw_local l hth h3]
    exact is_lay (hf ⟨s.slots, h0 :: hw ++ s.heap⟩ ⟨s'.slots, h0 :: hw ++ s'.heap⟩ us e0 rfl rfl h1 h2)
  · exact h.elim

theorem untied_local {s s' : St} {l : List S} {f f' : St → List S → Out} {e : Eff} (h : (untied s l f).is e) (hh : ∀ id ∈ e.rd, lookO s.heap id = lookO s'.heap id)
    (hf : ∀ (s1 s1' : St) (us : List S) (e1 : Eff), s1.slots = s.slots → s1'.slots = s'.slots → (f s1 us).is e1 → (∀ id ∈ e1.rd, lookO s1.heap id = lookO s1'.heap id) → (f' s1' us).is e1) : (untied s' l f').is e := by
  unfold untied at h ⊢
  split at h
  · rename_i id n ee l'
    split at h
    · rename_i u hw rd hu
      obtain ⟨e0, h1, rfl⟩ := Out.lay_is h
      obtain ⟨h2, h3⟩ := lay_rd hh
      have hu' : untie s' id n ee = some (u, hw, rd) := by
        unfold untie at hu ⊢
        split at hu
        · rename_i e' xs k hbox hk
          cases hb : e'.beq ee with
          | false => rw [hb] at hu; cases hu
          | true =>
            rw [hb] at hu
            cases hu
            rw [← box_eq (h3 id (by simp)) n, hbox, ← nextTok_eq (h3 (vtok id) (by simp)), hk]
            simp only [hb, cond_true]
        · cases hu
      simp only [hu']
      exact is_lay (hf ⟨s.slots, hw ++ s.heap⟩ ⟨s'.slots, hw ++ s'.heap⟩ (u :: l') e0 rfl rfl h1 h2)
    · exact h.elim
  · exact hf s s' _ e rfl rfl h hh

theorem storeS_local {C : Ctx} {s s' : St} {t : Nat} {v p : S} {e : Eff} (h : (storeS C s t v p).is e) (hh : ∀ id ∈ e.rd, lookO s.heap id = lookO s'.heap id) : (storeS C s' t v p).is e := by
  unfold storeS at h ⊢
  split at h
  · rename_i id n root π
    have hid : id ∈ e.rd := by
      split at h
      · split at h
        · split at h
          · split at h
            · split at h
              · exact cond_is h fun h => by obtain ⟨_, rfl⟩ := h; simp
              · exact h.elim
            · exact h.elim
          · exact h.elim
        · exact h.elim
      · split at h
        · rename_i ee _ _
          cases hb : tyIs C t (.slc _) with
          | false => rw [hb] at h; exact h.elim
          | true =>
            rw [hb, cond_true] at h
            split at h
            · obtain ⟨_, rfl⟩ := h; simp
            · exact h.elim
        · exact h.elim
      · exact h.elim
    have hbx : s.boxD id n = s'.boxD id n := by unfold St.boxD; rw [box_eq (hh id hid) n]
    simp only [← hbx]
    exact h
  · rename_i id n ee i π
    have hid : id ∈ e.rd := by
      split at h
      · split at h
        · split at h
          · split at h
            · split at h
              · split at h
                · exact cond_is h fun h => by obtain ⟨_, rfl⟩ := h; simp
                · exact h.elim
              · exact h.elim
            · exact h.elim
          · exact h.elim
        · exact h.elim
      · exact h.elim
    simp only [← box_eq (hh id hid) n]
    exact h
  · exact h.elim

theorem sliceS_local {C : Ctx} {s s' : St} {t : Nat} {x : S} {lo hi mx : Option Operand} {e : Eff} (hlo : boundS s lo = boundS s' lo) (hhi : boundS s hi = boundS s' hi) (hmx : boundS s mx = boundS s' mx) (h : (sliceS C s t x lo hi mx).is e) (hh : ∀ id ∈ e.rd, lookO s.heap id = lookO s'.heap id) : (sliceS C s' t x lo hi mx).is e := by
  unfold sliceS at h ⊢
  rw [← hlo, ← hhi, ← hmx]
  split at h
  · rename_i lo' hi' mx' te h1 h2 h3 hte
    (try simp only [h1, h2, h3, hte])
    split at h
    · exact h
    · rename_i n ee hty
      split at h
      · rename_i id k root
        have hid : id ∈ e.rd := by
          split at h
          · split at h
            · cases hb : Ty.beq _ root with
              | false => rw [hb] at h; exact h.elim
              | true =>
                rw [hb, cond_true] at h
                split at h
                · obtain ⟨_, rfl⟩ := h; simp
                · exact h.elim
            · exact h.elim
          · exact h.elim
        simp only [← box_eq (hh id hid) k]
        exact h
      · exact h.elim
    · exact h
    · exact h.elim
  · exact h.elim

theorem appendS_local {C : Ctx} {s s' : St} {dst : Option Nat} {ts : List Nat} {l : List S} {e : Eff} (h : (appendS C s dst ts l).is e) (hh : ∀ id ∈ e.rd, lookO s.heap id = lookO s'.heap id) : (appendS C s' dst ts l).is e := by
  unfold appendS at h ⊢
  split at h
  · rename_i d t t' x y
    split at h
    · rename_i te hte
      (try simp only [hte])
      split at h
      · rename_i ee hty
        (try simp only [hty])
        split at h
        · rename_i hw rd xs ys n htip hxs' hys' hn
          cases hb : Nat.beq t t' && (Nat.ble 1 ee.size && (Nat.ble 1 te.bytes && (lookO hw (tokId d)).isNone)) with
          | false => rw [hb] at h; exact h.elim
          | true =>
            rw [hb, cond_true] at h
            have hrd : ∀ id ∈ tokId d :: rd, lookO s.heap id = lookO s'.heap id := by
              obtain ⟨_, rfl⟩ := h
              exact hh
            have htip' : tipOf s' x = some (hw, rd) := by
              unfold tipOf at htip ⊢
              split at htip
              · exact htip
              · exact htip
              · rename_i T k e' xs''
                split at htip
                · rename_i m hl
                  cases hbb : Nat.beq m k with
                  | false => rw [hbb] at htip; cases htip
                  | true =>
                    rw [hbb] at htip
                    cases htip
                    rw [← hrd T (by simp), hl]
                    simp only [hbb, cond_true]
                · cases htip
              · cases htip
            simp only [htip', hxs', hys', ← nextTok_eq (hrd (tokId d) (by simp)), hn, hb, cond_true]
            exact h
        · exact h.elim
      · exact h.elim
    · exact h.elim
  · exact h.elim

theorem makeOnce_local {s s' : St} {oq : Oq} {dst : Option Nat} {l1 l2 : List S} {e : Eff} (h : (makeOnce s oq dst l1 l2).is e) (hh : ∀ id ∈ e.rd, lookO s.heap id = lookO s'.heap id) : (makeOnce s' oq dst l1 l2).is e := by
  unfold makeOnce at h ⊢
  split at h
  · rename_i d id n root
    split at h
    · rename_i σ x k hbox hn
      split at h
      · rename_i x' hx'
        cases hb : σ.beq root && !Nat.beq d id with
        | false => rw [hb] at h; exact h.elim
        | true =>
          rw [hb] at h
          obtain ⟨xs, hxs, rfl⟩ := h
          simp only [← box_eq (hh id (by simp)) n, hbox, ← nextBox_eq (hh d (by simp)), hn, hx', hb]
          exact ⟨xs, hxs, rfl⟩
      · exact h.elim
    · exact h.elim
  · exact h.elim

theorem makeFuncS_local {C : Ctx} {s s' : St} {f : Fn} {l1 l2 : List S} {e : Eff} (h : (makeFuncS C s f l1 l2).is e) (hh : ∀ id ∈ e.rd, lookO s.heap id = lookO s'.heap id) : (makeFuncS C s' f l1 l2).is e := by
  unfold makeFuncS at h ⊢
  split at h
  · split at h
    · rename_i cl hcl
      split at h
      · rename_i vs hw rd hfr
        split at h
        · rename_i cs hcs
          obtain ⟨_, rfl⟩ := h
          simp only [freeze_eq _ hfr hh, hcs]
          exact ⟨rfl, rfl⟩
        · exact h.elim
      · exact h.elim
    · rename_i hcl
      split at h
      · rename_i sq vs hw rd hsq hfr
        split at h
        · rename_i fs cs hfs hcs
          obtain ⟨r, hr, rfl⟩ := h
          simp only [freeze_eq _ hfr hh, hsq, hfs, hcs]
          exact ⟨r, hr, rfl⟩
        · exact h.elim
      · exact h.elim
  · exact h.elim

theorem callS_local {C : Ctx} {s s' : St} {dst : Option Nat} {f : S} {l : List S} {e : Eff} (h : (callS C s dst f l).is e) (hh : ∀ id ∈ e.rd, lookO s.heap id = lookO s'.heap id) : (callS C s' dst f l).is e := by
  unfold callS at h ⊢
  split at h
  · split at h
    · unfold callOwn at h ⊢
      split at h
      · rename_i d a ha
        split at h
        · rename_i n hn
          obtain ⟨r, hr, rfl⟩ := h
          simp only [ha, ← nextBox_eq (hh d (by simp)), hn]
          exact ⟨r, hr, rfl⟩
        · exact h.elim
      · exact h.elim
    · unfold callOnce at h ⊢
      split at h
      · rename_i d a ha
        split at h
        · rename_i n hn
          obtain ⟨r, hr, rfl⟩ := h
          simp only [ha, ← nextBox_eq (hh d (by simp)), hn]
          exact ⟨r, hr, rfl⟩
        · exact h.elim
      · exact h.elim
    · rename_i en _ _ hen
      split at h
      · rename_i xs tk hxs htk
        have htk' : resTok s' dst en.rs = some tk := by
          obtain ⟨r, hr, rfl⟩ := h
          unfold resTok at htk ⊢
          cases hany : en.rs.any RTy.isFresh with
          | false => rw [hany] at htk; exact htk
          | true =>
            rw [hany, cond_true] at htk
            rw [cond_true]
            split at htk
            · rename_i d
              cases hn : nextTok s (tokId d) with
              | none => rw [hn] at htk; cases htk
              | some n =>
                rw [hn] at htk
                cases htk
                rw [← nextTok_eq (hh (tokId d) (by simp [resEff])), hn]
            · exact htk
        simp only [hxs, htk']
        exact h
      · exact h.elim
    · split at h
      · rename_i em hem
        exact callM_local h hh
      · exact h.elim
  · exact h
  · exact h
  · exact h

theorem appendOwn_local {C : Ctx} {s s' : St} {dst : Option Nat} {ts : List Nat} {l : List S} {e : Eff} (h : (appendOwn C s dst ts l).is e) (hh : ∀ id ∈ e.rd, lookO s.heap id = lookO s'.heap id) : (appendOwn C s' dst ts l).is e := by
  unfold appendOwn at h ⊢
  split at h
  · rename_i d t t' e' y
    split at h
    · rename_i te hte
      split at h
      · rename_i ee hty
        split at h
        · rename_i ys n hys hn
          have hd : d ∈ e.rd := cond_is h fun h => by obtain ⟨_, rfl⟩ := h; simp
          simp only [hte, hty, hys, ← nextBox_eq (hh d hd), hn]
          exact h
        · exact h.elim
      · exact h.elim
    · exact h.elim
  · exact h.elim

theorem callD_local {C : Ctx} {s s' : St} {de : De} {xs : List S} {e : Eff} (h : (callD C s de xs).is e) (hh : ∀ id ∈ e.rd, lookO s.heap id = lookO s'.heap id) : (callD C s' de xs).is e := by
  unfold callD at h ⊢
  split at h
  · rename_i id n ee us
    have hid : id ∈ e.rd := by
      split at h
      · split at h
        · refine cond_is h fun h => ?_
          obtain ⟨q, hq, rfl⟩ := h
          simp
        · exact h.elim
      · exact h.elim
    simp only [← box_eq (hh id hid) n]
    exact h
  · exact h.elim
theorem callV_local {C : Ctx} {s s' : St} {dst : Option Nat} {f : S} {l : List S} {e : Eff} (h : (callV C s dst f l).is e) (hh : ∀ id ∈ e.rd, lookO s.heap id = lookO s'.heap id) : (callV C s' dst f l).is e := by
  unfold callV at h ⊢
  split at h
  · exact callD_local h hh
  unfold callW at h ⊢
  cases hb : flatCall C f with
  | true =>
    rw [hb, cond_true] at h
    rw [cond_true]
    split at h
    · rename_i us rd hth
      have hrd := lend_rd _ _ _ _ hth
      subst hrd
      rw [lend_local (s' := s') l hth (fun _ h => by cases h)]
      exact callS_local h hh
    · rename_i us h0 hw rd hth
      obtain ⟨e0, h1, rfl⟩ := Out.lay_is h
      have h3 : ∀ id ∈ rd, lookO s.heap id = lookO s'.heap id := fun id hid => hh id (List.mem_append_right _ hid)
      rw [lend_local l hth h3]
      exact is_lay (callS_local h1 fun id hid => by
        show lookO (h0 :: hw ++ s.heap) id = lookO (h0 :: hw ++ s'.heap) id
        rw [lookO_append_some, lookO_append_some, hh id (List.mem_append_left _ hid)])
    · exact h.elim
  | false =>
    rw [hb, cond_false] at h
    rw [cond_false]
    split at h
    · rename_i us rd hth
      have hrd := thaw_rd _ _ _ _ hth
      subst hrd
      rw [thaw_local (s' := s') l hth (fun _ h => by cases h)]
      exact callS_local h hh
    · rename_i us h0 hw rd hth
      obtain ⟨e0, h1, rfl⟩ := Out.lay_is h
      obtain ⟨h2, h3⟩ := lay_rd hh
      rw [thaw_local l hth h3]
      exact is_lay (callS_local h1 h2)
    · exact h.elim

/-- What an operation comes to hangs on its operands, and on the rows of the heap that it says. -/
theorem evalOp_local {C : Ctx} {o : Oper} {s s' : St} {e : Eff} (h : (evalOp C o s).is e) (hev : ∀ x ∈ o.op.operands, s.ev x = s'.ev x) (hh : ∀ id ∈ e.rd, lookO s.heap id = lookO s'.heap id) : (evalOp C o s').is e := by
  obtain ⟨dst, op, type, pos, after, guard⟩ := o
  cases op <;> simp only [Op.operands] at hev <;> simp only [evalOp] at h ⊢ <;> try (exact h.elim)
  case move x => rw [← hev x (by simp)]; exact h
  case assign x => rw [← hev x (by simp)]; exact h
  case pick c x y => rw [← hev c (by simp), ← hev x (by simp), ← hev y (by simp)]; exact h
  case alloc t =>
    cases dst with
    | none => exact h.elim
    | some d =>
      cases hte : C.te t with
      | none => rw [hte] at h; exact h.elim
      | some te =>
        rw [hte] at h
        simp only at h ⊢
        cases hn : nextBox s d with
        | none => rw [hn] at h; exact h.elim
        | some n =>
          rw [hn] at h
          obtain ⟨h1, rfl⟩ := h
          rw [← nextBox_eq (hh d (by simp)), hn]
          exact ⟨rfl, rfl⟩
  case box t x =>
    rw [← hev x (by simp)]
    cases dst with
    | none => exact h.elim
    | some d =>
      simp only at h ⊢
      cases hn : nextBox s d with
      | none => rw [hn] at h; exact h.elim
      | some n =>
        rw [hn] at h
        have hd : d ∈ e.rd := by
          split at h
          · rename_i n' _ heq
            split at h
            · split at h
              · obtain ⟨_, rfl⟩ := h; simp
              · exact h.elim
            · split at h
              · obtain ⟨_, rfl⟩ := h; simp
              · obtain ⟨_, rfl⟩ := h; simp
              · obtain ⟨_, rfl⟩ := h; simp
              · obtain ⟨_, rfl⟩ := h; simp
              · exact h.elim
          · exact h.elim
        rw [← nextBox_eq (hh d hd), hn]
        exact h
  case build t ps =>
    rw [← map_parts (s := s) (l := ps.toList) fun p hp => hev p.2 (by simp only [List.mem_toArray, List.mem_map]; exact ⟨p, hp, rfl⟩)]
    exact thawed_local h hh fun s1 s1' us e1 _ _ h1 hh1 => h1
  case buildSlice t n ps =>
    rw [← map_parts (s := s) (l := ps.toList) fun p hp => hev p.2 (by simp only [List.mem_toArray, List.mem_map]; exact ⟨p, hp, rfl⟩)]
    exact thawed_local h hh fun s1 s1' us e1 _ _ h1 hh1 => h1
  case load t x =>
    rw [← hev x (by simp)]
    unfold loadS at h ⊢
    split at h
    · rename_i id n root π heq
      have hid : id ∈ e.rd := by
        split at h
        · rename_i σ y π0 k ee ys _
          cases hpb : pathBeq π π0 with
          | true =>
            rw [hpb, cond_true] at h
            exact cond_is h fun h => by obtain ⟨_, rfl⟩ := h; simp
          | false =>
            rw [hpb, cond_false] at h
            split at h
            · exact cond_is h fun h => by obtain ⟨_, rfl⟩ := h; simp
            · exact h.elim
        · split at h
          · rename_i τ y _
            cases hb : tyIs C t τ && _ with
            | false => rw [hb] at h; exact h.elim
            | true => rw [hb] at h; obtain ⟨_, rfl⟩ := h; simp
          · exact h.elim
        · split at h
          · rename_i ee x _
            cases hb : tyIs C t (.slc _) with
            | false => rw [hb] at h; exact h.elim
            | true => rw [hb] at h; obtain ⟨_, rfl⟩ := h; simp
          · exact h.elim
        · split at h
          · cases hb : mem t C.fts with
            | false => rw [hb] at h; exact h.elim
            | true => rw [hb] at h; obtain ⟨_, rfl⟩ := h; simp
          · exact h.elim
        · split at h
          · cases hb : mem t C.pts with
            | false => rw [hb] at h; exact h.elim
            | true => rw [hb] at h; obtain ⟨_, rfl⟩ := h; simp
          · exact h.elim
        · split at h
          · cases hb : mem t C.fts with
            | false => rw [hb] at h; exact h.elim
            | true => rw [hb] at h; obtain ⟨_, rfl⟩ := h; simp
          · exact h.elim
        · split at h
          · cases hb : mem t C.fts with
            | false => rw [hb] at h; exact h.elim
            | true => rw [hb] at h; obtain ⟨_, rfl⟩ := h; simp
          · exact h.elim
        · exact h.elim
      simp only [← box_eq (hh id hid) n]
      exact h
    · exact h
    · rename_i id n ee i π heq
      have hid : id ∈ e.rd := by
        split at h
        · split at h
          · exact cond_is h fun h => by obtain ⟨_, rfl⟩ := h; simp
          · exact h.elim
        · exact h.elim
      simp only [← box_eq (hh id hid) n]
      exact h
    · exact h.elim
  case store t x y =>
    rw [← hev y (by simp)]
    refine thawed_local h hh fun s1 s1' us e1 _ _ h1 hh1 => ?_
    split at h1
    · rw [hev x (by simp)] at h1
      exact storeS_local h1 hh1
    · exact h1.elim
  case makeSlice t x y =>
    rw [← hev x (by simp), ← hev y (by simp)]
    unfold makeSliceS at h ⊢
    split at h
    · unfold makeSliceI at h ⊢
      split at h
      · rename_i d te hte
        split at h
        · rename_i ee n hty hn
          have hd : d ∈ e.rd := cond_is h fun h => by obtain ⟨_, rfl⟩ := h; simp
          simp only [hte, hty, ← nextBox_eq (hh d hd), hn]
          exact h
        · exact h.elim
      · exact h.elim
    · exact h.elim
  case nilCheck x => rw [← hev x (by simp)]; exact h
  case binOp op t x y yt => rw [← hev x (by simp), ← hev y (by simp)]; exact h
  case unOp op t x => rw [← hev x (by simp)]; exact h
  case convert src dst x => rw [← hev x (by simp)]; exact h
  case makeFunc f first caps =>
    rw [← map_ev (s := s) (l := first.toList) fun x hx => hev x (by simp at hx; simp [hx]), ← map_ev (s := s) (l := caps.toList) fun x hx => hev x (by simp at hx; simp [hx])]
    unfold makeFuncO at h ⊢
    split at h
    · split at h
      · exact makeOnce_local h hh
      · exact makeFuncS_local h hh
    · exact h.elim
  case slice t x lo hi mx =>
    rw [← hev x (by simp)]
    cases htl : tailAt C dst with
    | true =>
      rw [htl, cond_true] at h
      rw [cond_true]
      unfold tailS at h ⊢
      split at h
      · rename_i d lo1
        rw [← hev lo1 (by simp)]
        split at h
        · rename_i k l te hlo hte
          unfold tailI at h ⊢
          split at h
          · rename_i Tn n ee xs heq
            split at h
            · rename_i hw rd k' htip hn
              have hrd : rd ⊆ e.rd ∧ tokId d ∈ e.rd := cond_is h fun h => by obtain ⟨_, rfl⟩ := h; exact ⟨fun x hx => List.mem_cons_of_mem _ hx, List.mem_cons_self ..⟩
              have htip' : tipOf s' (.lst (.tip Tn n) ee xs) = some (hw, rd) := by
                unfold tipOf at htip ⊢
                simp only at htip ⊢
                split at htip
                · rename_i m hm
                  cases hb : Nat.beq m n with
                  | false => rw [hb] at htip; cases htip
                  | true =>
                    rw [hb] at htip
                    cases htip
                    rw [← hh Tn (hrd.1 (by simp)), hm]
                    simp only [hb, cond_true]
                · cases htip
              simp only [htip', ← nextTok_eq (hh (tokId d) hrd.2), hn]
              exact h
            · exact h.elim
          · rename_i id n ee heq
            have hid : id ∈ e.rd := by
              split at h
              · exact cond_is h fun h => by obtain ⟨_, rfl⟩ := h; simp
              · exact h.elim
            simp only [← box_eq (hh id hid) n]
            exact h
          · exact h.elim
        · exact h.elim
      · exact h.elim
    | false =>
    rw [htl, cond_false] at h
    rw [cond_false]
    refine thawed_local h hh fun s1 s1' us e1 hs1 hs1' h1 hh1 => ?_
    have hsl : ∀ y : Operand, s.ev y = s'.ev y → s1.ev y = s1'.ev y := fun y hy => by
      have e1 : s1.ev y = s.ev y := by cases y <;> simp only [St.ev, hs1]
      have e2 : s1'.ev y = s'.ev y := by cases y <;> simp only [St.ev, hs1']
      rw [e1, e2, hy]
    split at h1
    · exact sliceS_local (boundS_eq lo fun y hy => hsl y (hev y (by subst hy; simp))) (boundS_eq hi fun y hy => hsl y (hev y (by subst hy; simp))) (boundS_eq mx fun y hy => hsl y (hev y (by subst hy; simp))) h1 hh1
    · exact h1.elim
  case fieldAddr t x f => rw [← hev x (by simp)]; exact h
  case field t x f => rw [← hev x (by simp)]; exact h
  case indexAddr t x i =>
    rw [← hev x (by simp), ← hev i (by simp)]
    unfold indexAddrV at h ⊢
    split at h
    · rename_i id n ee heq
      split at h
      · split at h
        · rename_i fz e' xs te hbox hte
          have hid : id ∈ e.rd := cond_is h fun h => by obtain ⟨_, rfl⟩ := h; simp
          simp only [hte, ← box_eq (hh id hid) n, hbox]
          exact h
        · exact h.elim
      · exact h.elim
    · exact h
  case index t x i => rw [← hev x (by simp), ← hev i (by simp)]; exact h
  case extract x i => rw [← hev x (by simp)]; exact h
  case call c =>
    obtain ⟨callee, args, ts⟩ := c
    simp only [Call.operands] at hev
    cases callee with
    | invoke recv name => exact h.elim
    | value f =>
      have ha : args.toList.map s.ev = args.toList.map s'.ev := map_ev fun x hx => hev x (by simp at hx; simp [hx])
      simp only at h ⊢
      rw [← ha, ← hev f (by simp)]
      exact callV_local h hh
    | builtin b =>
      have ha : args.toList.map s.ev = args.toList.map s'.ev := map_ev fun x hx => hev x (by simp at hx; simp [hx])
      cases b <;> simp only at h ⊢ <;> try (exact h.elim)
      case clear =>
        split at h
        · rename_i t x hts hargs
          have hx : s.ev x = s'.ev x := hev x (by
            have : x ∈ args.toList := by rw [hargs]; simp
            simp at this; simp [this])
          simp only [← hx]
          unfold clearS at h ⊢
          split at h
          · rename_i id n ee lo heq
            have hid : id ∈ e.rd := by
              split at h
              · exact cond_is h fun h => by obtain ⟨_, rfl⟩ := h; simp
              · exact h.elim
            simp only [← box_eq (hh id hid) n]
            exact h
          · exact h.elim
        · exact h.elim
      case len =>
        split at h
        · rename_i t x hts hargs
          have hx : s.ev x = s'.ev x := hev x (by
            have : x ∈ args.toList := by rw [hargs]; simp
            simp at this; simp [this])
          simp only [← hx]
          unfold lenV at h ⊢
          split at h
          · rename_i id n ee heq
            split at h
            · rename_i fz e' xs te hbox hte
              have hid : id ∈ e.rd := cond_is h fun h => by obtain ⟨_, rfl⟩ := h; simp
              simp only [hte, ← box_eq (hh id hid) n, hbox]
              exact h
            · exact h.elim
          · exact h
        · exact h.elim
      case min => rw [← ha]; exact h
      case max => rw [← ha]; exact h
      case append =>
        rw [← ha]
        refine untied_local h hh fun s0 s0' us0 e0 _ _ h0 hh0 => thawed_local h0 hh0 fun s1 s1' us e1 _ _ h1 hh1 => ?_
        revert h1
        generalize ownAt C dst = b
        intro h1
        cases b
        · exact appendS_local h1 hh1
        · exact appendOwn_local h1 hh1
end Go.Vi

/- Regions, in whatever order. -/
namespace Go.Vi

/-- One operation with its guard comes to an effect. -/
def Act1 (C : Ctx) (ops : Array Oper) (o : Oper) (s : St) (e : Eff) : Prop :=
  dstOk C o.dst = true ∧ match o.guard with
    | none => (evalOp C o s).is e
    | some (j, want) => ∃ g, dstOf ops j = some g ∧ ((∃ b, look .poison s.slots g = .dat .bool b ∧ ((b = want ∧ (evalOp C o s).is e) ∨ (b = !want ∧ e = { val := .gone }))) ∨ (look .poison s.slots g = .gone ∧ e = { val := .gone }))

theorem Act1.local {C : Ctx} {ops : Array Oper} {o : Oper} {s s' : St} {e : Eff} (h : Act1 C ops o s e) (hs : ∀ t ∈ o.looksAt ops, look .poison s.slots t = look .poison s'.slots t) (hh : ∀ id ∈ e.rd, lookO s.heap id = lookO s'.heap id) : Act1 C ops o s' e := by
  have hev : ∀ x ∈ o.op.operands, s.ev x = s'.ev x := by
    intro x hx
    cases x with
    | tmp t => exact hs t (List.mem_append_left _ (List.mem_filterMap.2 ⟨.tmp t, by simpa using hx, rfl⟩))
    | _ => rfl
  refine ⟨h.1, ?_⟩
  have h2 := h.2
  split at h2
  · exact evalOp_local h2 hev hh
  · rename_i j want hg
    obtain ⟨g, h3, h2⟩ := h2
    have hsl := hs g (by simp only [Oper.looksAt, hg]; exact List.mem_append_right _ (by unfold dstOf at h3; rw [h3]; simp))
    refine ⟨g, h3, ?_⟩
    rcases h2 with ⟨b, h4, h5⟩ | ⟨h4, h5⟩
    · refine .inl ⟨b, by rw [← hsl]; exact h4, ?_⟩
      rcases h5 with ⟨h6, h7⟩ | h5
      · exact .inl ⟨h6, evalOp_local h7 hev hh⟩
      · exact .inr h5
    · exact .inr ⟨by rw [← hsl]; exact h4, h5⟩
theorem Act1.eqv {C : Ctx} {ops : Array Oper} {o : Oper} {s s' : St} {e : Eff} (h : Act1 C ops o s e) (hs : s.eqv s') : Act1 C ops o s' e := h.local (fun t _ => hs.1 t) (fun id _ => hs.2 id)

theorem lookO_append {α : Type} (l m : List (Nat × α)) (k : Nat) : lookO (l ++ m) k = (lookO l k).or (lookO m k) := lookO_append_some l m k
theorem lookO_none {α : Type} : ∀ {l : List (Nat × α)} {k : Nat}, k ∉ l.map (·.1) → lookO l k = none
  | [], _, _ => rfl
  | (k', v) :: l, k, h => by
    rw [lookO_cons, if_neg (fun e => h (by simp [e]))]
    exact lookO_none (fun hh => h (by simp at hh; simp [hh]))

theorem look_cons {α : Type} (d : α) (k k' : Nat) (v : α) (l : List (Nat × α)) : look d ((k, v) :: l) k' = if k = k' then v else look d l k' := by
  simp only [look]
  by_cases h : k = k'
  · subst h; simp [Nat.beq_refl]
  · rw [if_neg h]
    have : Nat.beq k k' = false := by
      cases hb : Nat.beq k k' with
      | false => rfl
      | true => exact absurd (Nat.eq_of_beq_eq_true hb) h
    rw [this]; rfl

theorem app_slot {s : St} {d : Option Nat} {e : Eff} {t : Nat} (h : ∀ k, d = some k → k ≠ t) : look .poison (s.app d e).slots t = look .poison s.slots t := by
  cases d with
  | none => rfl
  | some k => exact (look_cons _ _ _ _ _).trans (if_neg (h k rfl))
theorem app_heap (s : St) (d : Option Nat) (e : Eff) (id : Nat) : lookO (s.app d e).heap id = (lookO e.hw id).or (lookO s.heap id) := lookO_append _ _ _

theorem eqv_app {s s' : St} (h : s.eqv s') (d : Option Nat) (e : Eff) : (s.app d e).eqv (s'.app d e) := by
  refine ⟨fun t => ?_, fun id => by rw [app_heap, app_heap, h.2]⟩
  cases d with
  | none => exact h.1 t
  | some k => exact ((look_cons _ _ _ _ _).trans (by rw [h.1 t])).trans (look_cons _ _ _ _ _).symm

theorem meet_spec : ∀ {l m : List Nat}, meet l m = false → ∀ k ∈ l, k ∉ m
  | [], _, _, _, hk => by cases hk
  | x :: l, m, h, k, hk => by
    simp only [meet] at h
    cases hb : mem x m with
    | true => rw [hb] at h; cases h
    | false =>
      rw [hb, cond_false] at h
      rcases List.mem_cons.1 hk with rfl | hk
      · intro hm
        rw [mem_iff.2 hm] at hb; cases hb
      · exact meet_spec h k hk

def fpOf (e : Eff) : List Nat × List Nat := (e.rd, e.hw.map (·.1))

theorem calm_spec {ops : Array Oper} {x y : Oper} {fx fy : List Nat × List Nat} (h : calm ops x y fx fy = true) :
    (∀ d, x.dst = some d → d ∉ y.looksAt ops ∧ y.dst ≠ some d) ∧ (∀ d, y.dst = some d → d ∉ x.looksAt ops) ∧ (∀ k ∈ fx.2, k ∉ fy.1) ∧ (∀ k ∈ fx.2, k ∉ fy.2) ∧ (∀ k ∈ fx.1, k ∉ fy.2) := by
  unfold calm at h
  simp only [Bool.and_eq_true, Bool.not_eq_true'] at h
  obtain ⟨⟨⟨⟨h1, h2⟩, h3⟩, h4⟩, h5⟩ := h
  refine ⟨fun d hd => ?_, fun d hd => ?_, meet_spec h3, meet_spec h4, meet_spec h5⟩
  · rw [hd] at h1
    simp only [Bool.and_eq_true, Bool.not_eq_true'] at h1
    refine ⟨fun hm => ?_, fun hy => ?_⟩
    · have := mem_iff.2 hm
      unfold usesOf at h1
      rw [this] at h1
      cases h1.1
    · rw [hy] at h1
      have h2 := h1.2
      simp only [Bool.not_eq_true'] at h2
      rw [Nat.beq_refl] at h2; cases h2
  · rw [hd] at h2
    intro hm
    have := mem_iff.2 hm
    unfold usesOf at h2
    simp only at h2
    rw [this] at h2
    cases h2

theorem swap {C : Ctx} {ops : Array Oper} {x y : Oper} {s : St} {ex ey : Eff} (hx : Act1 C ops x s ex) (hy : Act1 C ops y (s.app x.dst ex) ey) (hc : calm ops x y (fpOf ex) (fpOf ey) = true) :
    Act1 C ops y s ey ∧ Act1 C ops x (s.app y.dst ey) ex ∧ ((s.app x.dst ex).app y.dst ey).eqv ((s.app y.dst ey).app x.dst ex) := by
  obtain ⟨h1, h2, h3, h4, h5⟩ := calm_spec hc
  refine ⟨hy.local (fun t ht => app_slot fun k hk e => (h1 k hk).1 (e ▸ ht)) (fun id hid => ?_), hx.local (fun t ht => (app_slot fun k hk e => h2 k hk (e ▸ ht)).symm) (fun id hid => ?_), ?_, ?_⟩
  · rw [app_heap, lookO_none (fun hm => h3 id hm hid)]; rfl
  · rw [app_heap, lookO_none (fun hm => h5 id hid hm)]; rfl
  · intro t
    cases hdx : x.dst with
    | none =>
      cases hdy : y.dst with
      | none => rfl
      | some d' => rfl
    | some d =>
      cases hdy : y.dst with
      | none => rfl
      | some d' =>
        have hne : d ≠ d' := fun e => (h1 d hdx).2 (by rw [hdy, e])
        show look .poison ((d', ey.val) :: (d, ex.val) :: s.slots) t = look .poison ((d, ex.val) :: (d', ey.val) :: s.slots) t
        simp only [look_cons]
        by_cases e1 : d' = t
        · have e2 : d ≠ t := fun e => hne (e.trans e1.symm)
          rw [if_pos e1, if_neg e2, if_pos e1]
        · rw [if_neg e1, if_neg e1]
  · intro id
    simp only [app_heap]
    by_cases hm : id ∈ ex.hw.map (·.1)
    · rw [lookO_none (h4 id hm), Option.none_or, Option.none_or]
    · rw [lookO_none hm, Option.none_or, Option.none_or]

/-- The operations of a list of places, one behind the other. -/
def Runs (C : Ctx) (ops : Array Oper) (E : Nat → Eff) : List Nat → St → St → Prop
  | [], s, sf => s.eqv sf
  | i :: R, s, sf => ∃ o, ops[i]? = some o ∧ Act1 C ops o s (E i) ∧ Runs C ops E R (s.app o.dst (E i)) sf

theorem Runs.eqv {C : Ctx} {ops : Array Oper} {E : Nat → Eff} : ∀ {R : List Nat} {s s' sf : St}, Runs C ops E R s sf → s.eqv s' → Runs C ops E R s' sf
  | [], _, _, _, h, hs => hs.symm.trans h
  | _ :: _, _, _, _, ⟨o, h1, h2, h3⟩, hs => ⟨o, h1, h2.eqv hs, h3.eqv (eqv_app hs _ _)⟩

theorem Runs.front {C : Ctx} {ops : Array Oper} {E : Nat → Eff} {j : Nat} {oj : Oper} (hj : ops[j]? = some oj) {B : List Nat} {sf : St} : ∀ {A : List Nat} {s : St}, Runs C ops E (A ++ j :: B) s sf →
    (∀ i ∈ A, ∀ oi, ops[i]? = some oi → calm ops oi oj (fpOf (E i)) (fpOf (E j)) = true) → Act1 C ops oj s (E j) ∧ Runs C ops E (A ++ B) (s.app oj.dst (E j)) sf
  | [], s, h, _ => by
    obtain ⟨o, h1, h2, h3⟩ := h
    rw [hj] at h1
    cases h1
    exact ⟨h2, h3⟩
  | i :: A, s, h, hc => by
    obtain ⟨o, h1, h2, h3⟩ := h
    obtain ⟨h4, h5⟩ := Runs.front hj (A := A) h3 (fun k hk => hc k (by simp [hk]))
    obtain ⟨h6, h7, h8⟩ := swap h2 h4 (hc i (by simp) o h1)
    exact ⟨h6, o, h1, h7, h5.eqv h8⟩

/-! ### the model's side -/
theorem Ext.lookups {H H' : Heap} {g : Gs} (hH : ∀ id, lookO H id = lookO H' id) : Ext H g H' g :=
  ⟨fun id m fz c h => ⟨m, fz, c, by rw [← hH]; exact h, Nat.le_refl _, fun _ _ => rfl, fun _ => ⟨rfl, rfl⟩⟩, fun T m h => ⟨m, by rw [← hH]; exact h, Nat.le_refl _, fun _ => rfl⟩, rfl⟩

theorem HeapRel.lookups {P : Program} {H H' : Heap} {g : Gs} {w : World} {F : Fr} (h : HeapRel P H g w F) (hH : ∀ id, lookO H id = lookO H' id) : HeapRel P H' g w F := by
  have hx : Ext H g H' g := Ext.lookups hH
  refine ⟨fun id n fz c hl => ?_, fun T n hl => h.tok T n (by rw [hH]; exact hl), fun id n fz c id' n' fz' c' h1 h2 => h.apart id n fz c id' n' fz' c' (by rw [hH]; exact h1) (by rw [hH]; exact h2),
    fun T n T' n' h1 h2 => h.rooms T n T' n' (by rw [hH]; exact h1) (by rw [hH]; exact h2)⟩
  exact (h.box id n fz c (by rw [hH]; exact hl)).step hx (Adv.refl _ _) rfl rfl fun _ _ => ⟨rfl, rfl⟩

theorem Inv.eqv {P : Program} {N : Nat} {F : Fr} {g : Gs} {s s' : St} {a : Act} {w : World} (h : Inv P N F g s a w) (hs : s.eqv s') : Inv P N F g s' a w := by
  refine ⟨fun t => ?_, h.size, h.defers, h.heap.lookups hs.2, h.stp, h.lv, h.mt, h.hB, h.objs, h.pin, h.yl, h.hp, h.hrd, h.lv0⟩
  rw [← hs.1 t]
  exact (h.slots t).ext (Ext.lookups hs.2) (Adv.refl _ _)

/-- The frame from this place on. -/
def Fr.from (F : Fr) (G : Gh) (w : World) : Fr := { F with G := G, w := w, p := Own.offs F.m }
theorem Inv.rebase {P : Program} {N : Nat} {F : Fr} {g : Gs} {s : St} {a : Act} {w : World} (h : Inv P N F g s a w) : Inv P N (F.from g.G w) g s a w :=
  ⟨h.slots, h.size, h.defers, ⟨h.heap.box, h.heap.tok, h.heap.apart, h.heap.rooms⟩, Kp.refl _ _ _, h.lv, h.mt, h.hB, h.objs, h.pin, h.yl, fun _ hp => hp, h.hrd, h.lv⟩
theorem Inv.unbase {P : Program} {N : Nat} {F : Fr} {g0 : Gs} {s0 : St} {a0 : Act} {w0 : World} (h0 : Inv P N F g0 s0 a0 w0) {g : Gs} {s : St} {a : Act} {w : World} (h : Inv P N (F.from g0.G w0) g s a w) :
    Inv P N F g s a w ∧ Kp (Own.offs F.m) g0.G w0 g.G w :=
  ⟨⟨h.slots, h.size, h.defers, ⟨h.heap.box, h.heap.tok, h.heap.apart, h.heap.rooms⟩, h0.stp.trans (h.stp.mono h0.hp), h.lv, h.mt, h.hB, h.objs, h.pin, h.yl, h0.hp, h.hrd, h0.lv0⟩, h.stp⟩

/-- With what the frame's own steps leave be. -/
def Xok (F : Fr) (X : Gh → World → Prop) : Prop := ∀ G w G' w', X G w → Kp (Own.offs F.m) G w G' w' → X G' w'
def IX (P : Program) (N : Nat) (F : Fr) (X : Gh → World → Prop) (g : Gs) (s : St) (a : Act) (w : World) : Prop := Inv P N F g s a w ∧ X g.G w

/-- The fence of a frame. -/
def wr (rd : Option Nat) : Fence := { Fence.wide with round := rd }
theorem wr_fn {rd : Option Nat} {f : FuncId} : (wr rd).fn f := trivial
theorem callsIn_wr {rd : Option Nat} {n : Nat} {P : Program} {f : FuncId} {args : Array Value} {w : World} {R : Ending → World → Prop} (h : Calls P f args w R) : CallsIn (wr rd) n P f args w R :=
  (callsIn_wide (n := n)).2 h
theorem calls_of_wr {n : Nat} {P : Program} {f : FuncId} {args : Array Value} {w : World} {R : Ending → World → Prop} (h : CallsIn (wr none) n P f args w R) : Calls P f args w R :=
  (callsIn_wide (n := n)).1 h

theorem OpOk.wpIn {rd : Option Nat} {P : Program} {o : Oper} {a : Act} {w : World} {R : Value → World → Prop} {K : Act → World → Prop} {Q : Exit → Act → World → Prop} (hdef : ∀ c, o.op ≠ .defer c) (h : OpOk P o a w R) (hK : ∀ v w', R v w' → K (a.put o.dst v) w') : o.wpIn (wr rd) 0 P a w K Q := by
  refine ⟨fun _ _ => trivial, ?_⟩
  rw [Oper.semAt_eq _ _ _ hdef]
  unfold OpOk at h
  split at h
  · rename_i hr; rw [hr]; exact hK _ _ h
  · rename_i hr; rw [hr]; exact hK _ _ h
  · rename_i hr; rw [hr]
    refine ⟨fun hd => (by cases hd), callsIn_wr (h.mono fun e w' ⟨v, he, hR⟩ => ?_)⟩
    subst he; exact hK _ _ hR
  · exact h.elim

theorem evalOp_defer {C : Ctx} {o : Oper} {s : St} (h : evalOp C o s ≠ .fail) : ∀ c, o.op ≠ .defer c := by
  intro c hc
  apply h
  unfold evalOp
  rw [hc]
theorem is_ne {o : Out} {e : Eff} (h : o.is e) : o ≠ .fail := by intro e0; rw [e0] at h; exact h

section
variable {P : Program} {C : Ctx} (hC : CtxOk P C) {F : Fr} (hpins : F.pins = C.pins) {X : Gh → World → Prop} (hX : Xok F X)
include hC hpins hX

/-- One operation of a region, as the model does it. -/
theorem act1_wp {ops : Array Oper} {i : Nat} {o : Oper} (ho : ops[i]? = some o) {g : Gs} {s : St} {a : Act} {w : World} (hix : IX P C.ntmps F X g s a w) {e : Eff} (h : Act1 C ops o s e) {K : Act → World → Prop} {Q : Exit → Act → World → Prop}
    (hK : ∀ g' a' w', IX P C.ntmps F X g' (s.app o.dst e) a' w' → K a' w') : wpOpIn (wr F.rd) 0 P ops Q i K a w := by
  have hinv := hix.1
  unfold wpOpIn
  rw [ho]
  simp only
  have hd : dstLt C.ntmps F o.dst := by
    have h1 := h.1
    unfold dstOk at h1
    cases hdst : o.dst with
    | none => trivial
    | some d =>
      rw [hdst] at h1
      simp only [Bool.and_eq_true, Bool.not_eq_true'] at h1
      refine ⟨by simpa using h1.1, fun hm => ?_⟩
      rw [hpins] at hm
      rw [mem_iff.2 hm] at h1
      cases h1.2
  have good : (evalOp C o s).is e → o.wpIn (wr F.rd) 0 P a w K Q := fun he =>
    (evalOp_sound hC hinv.rebase hd he).wpIn (evalOp_defer (is_ne he)) fun v w' ⟨g', hi⟩ => by
      obtain ⟨i1, i2⟩ := hinv.unbase hi
      exact hK g' _ _ ⟨i1, hX _ _ _ _ hix.2 i2⟩
  have h2 := h.2
  split at h2
  · rename_i hg
    rw [if_pos (by simp [Region.wanted, hg])]
    exact good h2
  · rename_i j want hg
    obtain ⟨gd, h3, h2⟩ := h2
    have hs := hinv.slots gd
    rcases h2 with ⟨b, h4, h5⟩ | ⟨h4, rfl⟩
    · rw [h4] at hs
      have hv : a.tmps.getD gd undef = .bool b := RepV.bool hs
      have hlt : gd < a.tmps.size := by
        rcases Nat.lt_or_ge gd a.tmps.size with hlt | hge
        · exact hlt
        · rw [Array.getD_eq_getD_getElem?, Array.getElem?_eq_none hge] at hv
          cases hv
      have hget : a.tmps[gd]? = some (.bool b) := by
        rw [Array.getElem?_eq_getElem hlt]
        rw [Array.getD_eq_getD_getElem?, Array.getElem?_eq_getElem hlt] at hv
        exact congrArg some hv
      have hy : yielded ops a.tmps j = some b := by
        unfold yielded
        unfold dstOf at h3
        rw [h3]
        simp [hget]
      rcases h5 with ⟨rfl, h6⟩ | ⟨rfl, rfl⟩
      · rw [if_pos (by simp [Region.wanted, hg, hy])]
        exact good h6
      · rw [if_neg (by cases want <;> simp [Region.wanted, hg, hy])]
        exact ⟨fun _ _ => trivial, hK g _ _ ⟨hinv.val hd (SRel.of0 (s := .gone) rfl), hix.2⟩⟩
    · rw [h4] at hs
      have hv : a.tmps.getD gd undef = undef := hs
      have hy : yielded ops a.tmps j = none := by
        unfold yielded
        unfold dstOf at h3
        rw [h3]
        rcases Nat.lt_or_ge gd a.tmps.size with hlt | hge
        · rw [Array.getD_eq_getD_getElem?, Array.getElem?_eq_getElem hlt] at hv
          have hget : a.tmps[gd]? = some undef := by rw [Array.getElem?_eq_getElem hlt]; exact congrArg some hv
          simp [hget, undef]
        · simp [Array.getElem?_eq_none hge]
      rw [if_neg (by cases want <;> simp [Region.wanted, hg, hy])]
      exact ⟨fun _ _ => trivial, hK g _ _ ⟨hinv.val hd (SRel.of0 (s := .gone) rfl), hix.2⟩⟩

/-- Operations in the text's order. -/
theorem runs_wp {ops : Array Oper} {E : Nat → Eff} {Q : Exit → Act → World → Prop} : ∀ (R : List Nat) {g : Gs} {s sf : St} {a : Act} {w : World}, IX P C.ntmps F X g s a w → Runs C ops E R s sf →
    (∀ g' a' w', IX P C.ntmps F X g' sf a' w' → Q .normal a' w') → wpOpsIn (wr F.rd) 0 P ops Q R a w
  | [], g, s, sf, a, w, hinv, h, hQ => hQ _ _ _ ⟨hinv.1.eqv h, hinv.2⟩
  | i :: R, g, s, sf, a, w, hinv, ⟨o, h1, h2, h3⟩, hQ => by
    rw [wpOpsIn_cons]
    exact act1_wp hC hpins hX h1 hinv h2 fun g' a' w' hi => runs_wp R hi h3 hQ

/-- What an operation is behind, in the list of the rows. -/
def row (acc : List (List Nat)) (o : Oper) : List Nat := o.after.toList.foldl (fun l e => bif Region.binds .any e then union (acc.getD e.on []) (addTo l e.on) else l) []

omit hC hpins hX in
theorem befores_snoc (l : List Oper) (o : Oper) : befores (l ++ [o]) = befores l ++ [row (befores l) o] := by
  simp only [befores, List.foldl_append, List.foldl_cons, List.foldl_nil, row]

omit hC hpins hX in
theorem addTo_mem {l : List Nat} {i k : Nat} (h : k ∈ addTo l i) : k = i ∨ k ∈ l := by
  unfold addTo at h
  cases hm : mem i l with
  | true => rw [hm] at h; exact .inr h
  | false => rw [hm] at h; exact List.mem_cons.1 h
omit hC hpins hX in
theorem union_mem {k : Nat} : ∀ (a l : List Nat), k ∈ union a l → k ∈ a ∨ k ∈ l
  | [], _, h => .inr h
  | i :: a, l, h => by
    rcases union_mem a (addTo l i) h with h | h
    · exact .inl (List.mem_cons_of_mem _ h)
    · rcases addTo_mem h with h | h
      · exact .inl (by simp [h])
      · exact .inr h
omit hC hpins hX in
theorem row_mem {acc : List (List Nat)} {k : Nat} : ∀ (l : List Edge) (init : List Nat), k ∈ l.foldl (fun l e => bif Region.binds .any e then union (acc.getD e.on []) (addTo l e.on) else l) init →
    k ∈ init ∨ ∃ e ∈ l, Region.binds .any e = true ∧ (k = e.on ∨ k ∈ acc.getD e.on [])
  | [], init, h => .inl h
  | e :: l, init, h => by
    rw [List.foldl_cons] at h
    rcases row_mem l _ h with h1 | ⟨e', he', h2⟩
    · cases hb : Region.binds .any e with
      | false => rw [hb] at h1; exact .inl h1
      | true =>
        rw [hb, cond_true] at h1
        rcases union_mem _ _ h1 with h1 | h1
        · exact .inr ⟨e, by simp, hb, .inr h1⟩
        · rcases addTo_mem h1 with h1 | h1
          · exact .inr ⟨e, by simp, hb, .inl h1⟩
          · exact .inl h1
    · exact .inr ⟨e', by simp [he'], h2⟩

omit hC hpins hX in
theorem befores_get : ∀ (l m : List Oper) (i : Nat) (o : Oper), l[i]? = some o → (befores (l ++ m)).getD i [] = row (befores (l.take i)) o ∧ (∀ j, j < i → (befores (l.take i)).getD j [] = (befores (l ++ m)).getD j []) := by
  have hlen : ∀ l : List Oper, (befores l).length = l.length := by
    have gen : ∀ (l : List Oper) (acc : List (List Nat)), (l.foldl (fun acc o => acc ++ [row acc o]) acc).length = acc.length + l.length := by
      intro l
      induction l with
      | nil => intro acc; rfl
      | cons o l ih => intro acc; rw [List.foldl_cons, ih]; simp; omega
    intro l
    have := gen l []
    rw [List.length_nil, Nat.zero_add] at this
    exact this
  have hpre : ∀ (m l : List Oper), ∃ r, befores (l ++ m) = befores l ++ r := by
    intro m
    induction m with
    | nil => intro l; exact ⟨[], by simp⟩
    | cons o m ih =>
      intro l
      obtain ⟨r, hr⟩ := ih (l ++ [o])
      refine ⟨row (befores l) o :: r, ?_⟩
      rw [show l ++ o :: m = (l ++ [o]) ++ m by simp, hr, befores_snoc]; simp
  intro l m i o ho
  have hi : i < l.length := (List.getElem?_eq_some_iff.1 ho).1
  have hsplit : l ++ m = (l.take i ++ [o]) ++ (l.drop (i + 1) ++ m) := by
    have : l = l.take i ++ [o] ++ l.drop (i + 1) := by
      rw [List.append_assoc, List.singleton_append]
      have : o :: l.drop (i + 1) = l.drop i := by
        rw [List.drop_eq_getElem_cons hi]
        congr 1
        exact ((List.getElem?_eq_some_iff.1 ho).2).symm
      rw [this, List.take_append_drop]
    rw [← List.append_assoc, ← this]
  obtain ⟨r, hr⟩ := hpre (l.drop (i + 1) ++ m) (l.take i ++ [o])
  rw [hsplit, hr, befores_snoc]
  have hl : (befores (l.take i)).length = i := by rw [hlen, List.length_take]; omega
  refine ⟨?_, fun j hj => ?_⟩
  · rw [List.getD_eq_getElem?_getD, List.append_assoc, List.getElem?_append_right (by omega), hl, Nat.sub_self]; rfl
  · rw [List.getD_eq_getElem?_getD, List.getD_eq_getElem?_getD, List.append_assoc, List.getElem?_append_left (by omega)]

omit hC hpins hX in
/-- What an operation is behind has been done, if all that has been done was ready then. -/
theorem befores_done {ops : Array Oper} (ha : aheadAll ops = true) {D : Nat → Prop} (hD : ∀ i o, D i → ops[i]? = some o → ∀ e ∈ o.after, Region.binds .any e = true → D e.on) :
    ∀ (i : Nat) (o : Oper), ops[i]? = some o → (∀ e ∈ o.after, Region.binds .any e = true → D e.on) → ∀ k ∈ (befores ops.toList).getD i [], D k := by
  intro i
  induction i using Nat.strongRecOn with
  | _ i ih =>
    intro o ho hpred k hk
    have ho' : ops.toList[i]? = some o := by simpa using ho
    obtain ⟨h1, h2⟩ := befores_get ops.toList [] i o ho'
    rw [List.append_nil] at h1 h2
    rw [h1] at hk
    rcases row_mem _ _ hk with hk | ⟨e, he, hb, hk⟩
    · cases hk
    · have he' : e ∈ o.after := by simpa using he
      have hDe := hpred e he' hb
      rcases hk with rfl | hk
      · exact hDe
      · have hlt : e.on < i := by
          unfold aheadAll at ha
          rw [List.all_eq_true] at ha
          have hi : i < ops.toList.length := (List.getElem?_eq_some_iff.1 ho').1
          have h3 := ha i (List.mem_range.2 hi)
          have h4 : ops.toList.getD i default = o := by rw [List.getD_eq_getElem?_getD, ho']; rfl
          rw [h4, List.all_eq_true] at h3
          have h5 := h3 e he
          rw [hb] at h5
          simpa using h5
        rw [h2 e.on hlt] at hk
        obtain ⟨oe, hoe⟩ : ∃ oe, ops[e.on]? = some oe := by
          have hi : i < ops.size := (Array.getElem?_eq_some_iff.1 ho).1
          exact ⟨_, Array.getElem?_eq_getElem (by omega)⟩
        exact ih e.on hlt oe hoe (hD e.on oe hDe hoe) k hk

/-- The region, in whatever order. -/
theorem runs_any {ops : Array Oper} {E : Nat → Eff} {Q : Exit → Act → World → Prop} (ha : aheadAll ops = true)
    (hcalm : ∀ i j oi oj, i < j → ops[i]? = some oi → ops[j]? = some oj → i ∈ (befores ops.toList).getD j [] ∨ calm ops oi oj (fpOf (E i)) (fpOf (E j)) = true) :
    ∀ (fuel : Nat) (listed : Array Bool) (R : List Nat) {g : Gs} {s sf : St} {a : Act} {w : World}, R.length = fuel → R.Pairwise (· < ·) → (∀ i, i ∈ R ↔ (i < ops.size ∧ listed.getD i true = false)) → listed.size = ops.size →
      (∀ i o, i < ops.size → listed.getD i true = true → ops[i]? = some o → ∀ e ∈ o.after, Region.binds .any e = true → listed.getD e.on false = true) →
      IX P C.ntmps F X g s a w → Runs C ops E R s sf → (∀ g' a' w', IX P C.ntmps F X g' sf a' w' → Q .normal a' w') → wpAnyIn (wr F.rd) 0 P .any ops Q fuel listed a w
  | 0, listed, R, g, s, sf, a, w, hlen, _, hR, _, _, hinv, hruns, hQ => by
    obtain rfl := List.eq_nil_of_length_eq_zero hlen
    refine ⟨?_, hQ _ _ _ ⟨hinv.1.eqv hruns, hinv.2⟩⟩
    cases hr : Region.ready .any ops listed with
    | nil => rfl
    | cons x xs =>
      exfalso
      have hx : x ∈ Region.ready .any ops listed := by rw [hr]; simp
      rw [mem_ready] at hx
      obtain ⟨h1, o, ho, _⟩ := hx
      have := (hR x).2 ⟨(Array.getElem?_eq_some_iff.1 ho).1, h1⟩
      cases this
  | fuel + 1, listed, R, g, s, sf, a, w, hlen, hsort, hR, hsz, hclosed, hinv, hruns, hQ => by
    refine ⟨fun hnil => ?_, fun i hi => ?_⟩
    · exfalso
      cases R with
      | nil => simp at hlen
      | cons x R =>
        obtain ⟨hx1, hx2⟩ := (hR x).1 (by simp)
        have hox : ops[x]? = some ops[x] := Array.getElem?_eq_getElem hx1
        have : x ∈ Region.ready .any ops listed := by
          rw [mem_ready]
          refine ⟨hx2, _, hox, fun e he hb => ?_⟩
          have hlt : e.on < x := by
            have ha' := ha
            unfold aheadAll at ha'
            rw [List.all_eq_true] at ha'
            have h3 := ha' x (List.mem_range.2 (by simpa using hx1))
            have h4 : ops.toList.getD x default = ops[x] := by rw [List.getD_eq_getElem?_getD, Array.getElem?_toList, hox]; rfl
            rw [h4, List.all_eq_true] at h3
            have h5 := h3 e (by simpa using he)
            rw [hb] at h5
            simpa using h5
          cases hle : listed.getD e.on true with
          | true =>
            have : e.on < listed.size := by omega
            rw [Array.getD_eq_getD_getElem?, Array.getElem?_eq_getElem this] at hle ⊢
            exact hle
          | false =>
            have hmem := (hR e.on).2 ⟨by omega, hle⟩
            rcases List.mem_cons.1 hmem with h6 | h6
            · omega
            · have := (List.pairwise_cons.1 hsort).1 e.on h6
              omega
        rw [hnil] at this
        cases this
    · rw [mem_ready] at hi
      obtain ⟨hi1, o, ho, hpred⟩ := hi
      have hisz : i < ops.size := (Array.getElem?_eq_some_iff.1 ho).1
      have hiR := (hR i).2 ⟨hisz, hi1⟩
      obtain ⟨A, B, rfl⟩ := List.append_of_mem hiR
      have hbef := befores_done ha (D := fun k => listed.getD k false = true) (fun j oj hj hoj e he hb => by
        have hjs : j < ops.size := (Array.getElem?_eq_some_iff.1 hoj).1
        refine hclosed j oj hjs ?_ hoj e he hb
        have : j < listed.size := by omega
        rw [Array.getD_eq_getD_getElem?, Array.getElem?_eq_getElem this] at hj ⊢
        exact hj) i o ho hpred
      have hA : ∀ k ∈ A, ∀ ok, ops[k]? = some ok → calm ops ok o (fpOf (E k)) (fpOf (E i)) = true := by
        intro k hk ok hok
        have hkR := (hR k).1 (by simp [hk])
        have hlt : k < i := (List.pairwise_append.1 hsort).2.2 k hk i (by simp)
        rcases hcalm k i ok o hlt hok ho with h1 | h1
        · have h2 := hbef k h1
          have : k < listed.size := by omega
          have h3 := hkR.2
          rw [Array.getD_eq_getD_getElem?, Array.getElem?_eq_getElem this] at h2 h3
          simp only [Option.getD_some] at h2 h3
          rw [h2] at h3; cases h3
        · exact h1
      obtain ⟨hact, hrest⟩ := hruns.front ho hA
      refine act1_wp hC hpins hX ho hinv hact fun g' a' w' hinv' => ?_
      refine runs_any ha hcalm fuel (listed.setIfInBounds i true) (A ++ B) (by simp at hlen ⊢; omega) ?_ (fun k => ?_) (by simpa using hsz) ?_ hinv' hrest hQ
      · have hp := List.pairwise_append.1 hsort
        refine List.pairwise_append.2 ⟨hp.1, (List.pairwise_cons.1 hp.2.1).2, fun x hx y hy => hp.2.2 x hx y (by simp [hy])⟩
      · have hp := List.pairwise_append.1 hsort
        by_cases hki : k = i
        · subst hki
          have hl : (listed.setIfInBounds k true).getD k true = true := by
            rw [Array.getD_eq_getD_getElem?, Array.getElem?_setIfInBounds_self_of_lt (by omega)]; rfl
          constructor
          · intro hk
            exfalso
            rcases List.mem_append.1 hk with hk | hk
            · have := hp.2.2 k hk k (by simp)
              omega
            · have := (List.pairwise_cons.1 hp.2.1).1 k hk
              omega
          · rintro ⟨_, h⟩
            rw [hl] at h; cases h
        · rw [getD_set_ne true (Ne.symm hki)]
          have := hR k
          constructor
          · intro hk
            exact this.1 (by simp at hk ⊢; rcases hk with hk | hk <;> simp [hk])
          · intro hk
            have := this.2 hk
            simp at this ⊢
            rcases this with h | h | h
            · exact .inl h
            · exact absurd h hki
            · exact .inr h
      · intro j oj hjs hj hoj e he hb
        by_cases hji : j = i
        · subst hji
          rw [ho] at hoj
          cases hoj
          exact getD_set_true (hpred e he hb)
        · rw [getD_set_ne true (Ne.symm hji)] at hj
          exact getD_set_true (hclosed j oj hjs hj hoj e he hb)

omit hC hpins hX in
theorem isBar_spec {bs : List (List Nat)} {n p : Nat} (h : isBar bs n p = true) : (∀ i, i < p → i ∈ bs.getD p []) ∧ ∀ j, p < j → j < n → p ∈ bs.getD j [] := by
  unfold isBar at h
  simp only [Bool.and_eq_true, List.all_eq_true, List.mem_range, Bool.or_eq_true, Bool.not_eq_true'] at h
  refine ⟨fun i hi => mem_iff.1 (h.1 i hi), fun j hj hn => ?_⟩
  rcases h.2 j hn with h | h
  · rw [show Nat.blt p j = true by simpa using hj] at h; cases h
  · exact mem_iff.1 h

/-- A part of a region, in whatever order, up to an operation that all of it is ahead of. -/
theorem runs_upto {ops : Array Oper} {E : Nat → Eff} {Q : Exit → Act → World → Prop} (ha : aheadAll ops = true) (p : Nat) (hp : p ≤ ops.size) (hbar : p < ops.size → isBar (befores ops.toList) ops.toList.length p = true) (rest : Nat)
    (k0 : Nat) (hcalm : ∀ i j oi oj, k0 ≤ i → i < j → j < p → ops[i]? = some oi → ops[j]? = some oj → i ∈ (befores ops.toList).getD j [] ∨ calm ops oi oj (fpOf (E i)) (fpOf (E j)) = true) :
    ∀ (fuel : Nat) (listed : Array Bool) (R : List Nat) {g : Gs} {s sf : St} {a : Act} {w : World}, R.length = fuel → R.Pairwise (· < ·) → (∀ i, i ∈ R ↔ (i < p ∧ listed.getD i true = false)) → (∀ i ∈ R, k0 ≤ i) → listed.size = ops.size → (∀ i, p ≤ i → i < ops.size → listed.getD i true = false) →
      (∀ i o, i < ops.size → listed.getD i true = true → ops[i]? = some o → ∀ e ∈ o.after, Region.binds .any e = true → listed.getD e.on false = true) →
      IX P C.ntmps F X g s a w → Runs C ops E R s sf →
      (∀ (listed' : Array Bool) g' a' w', listed'.size = ops.size → (∀ i, i < p → listed'.getD i true = true) → (∀ i, p ≤ i → i < ops.size → listed'.getD i true = false) →
        (∀ i o, i < ops.size → listed'.getD i true = true → ops[i]? = some o → ∀ e ∈ o.after, Region.binds .any e = true → listed'.getD e.on false = true) → IX P C.ntmps F X g' sf a' w' → wpAnyIn (wr F.rd) 0 P .any ops Q rest listed' a' w') →
      wpAnyIn (wr F.rd) 0 P .any ops Q (fuel + rest) listed a w
  | 0, listed, R, g, s, sf, a, w, hlen, _, hR, _, hsz, hge, hclosed, hinv, hruns, hQ => by
    obtain rfl := List.eq_nil_of_length_eq_zero hlen
    rw [Nat.zero_add]
    refine hQ listed g a w hsz (fun i hi => ?_) hge hclosed ⟨hinv.1.eqv hruns, hinv.2⟩
    cases hl : listed.getD i true with
    | true => rfl
    | false => have := (hR i).2 ⟨hi, hl⟩; cases this
  | fuel + 1, listed, R, g, s, sf, a, w, hlen, hsort, hR, hk0, hsz, hge, hclosed, hinv, hruns, hQ => by
    rw [show fuel + 1 + rest = (fuel + rest) + 1 by omega]
    refine ⟨fun hnil => ?_, fun i hi => ?_⟩
    · exfalso
      cases R with
      | nil => simp at hlen
      | cons x R =>
        obtain ⟨hx1, hx2⟩ := (hR x).1 (by simp)
        have hxs : x < ops.size := by omega
        have hox : ops[x]? = some ops[x] := Array.getElem?_eq_getElem hxs
        have : x ∈ Region.ready .any ops listed := by
          rw [mem_ready]
          refine ⟨hx2, _, hox, fun e he hb => ?_⟩
          have hlt : e.on < x := by
            have ha' := ha
            unfold aheadAll at ha'
            rw [List.all_eq_true] at ha'
            have h3 := ha' x (List.mem_range.2 (by simpa using hxs))
            have h4 : ops.toList.getD x default = ops[x] := by rw [List.getD_eq_getElem?_getD, Array.getElem?_toList, hox]; rfl
            rw [h4, List.all_eq_true] at h3
            have h5 := h3 e (by simpa using he)
            rw [hb] at h5
            simpa using h5
          cases hle : listed.getD e.on true with
          | true =>
            have : e.on < listed.size := by omega
            rw [Array.getD_eq_getD_getElem?, Array.getElem?_eq_getElem this] at hle ⊢
            exact hle
          | false =>
            have hmem := (hR e.on).2 ⟨by omega, hle⟩
            rcases List.mem_cons.1 hmem with h6 | h6
            · omega
            · have := (List.pairwise_cons.1 hsort).1 e.on h6
              omega
        rw [hnil] at this
        cases this
    · rw [mem_ready] at hi
      obtain ⟨hi1, o, ho, hpred⟩ := hi
      have hisz : i < ops.size := (Array.getElem?_eq_some_iff.1 ho).1
      have hbef := befores_done ha (D := fun k => listed.getD k false = true) (fun j oj hj hoj e he hb => by
        have hjs : j < ops.size := (Array.getElem?_eq_some_iff.1 hoj).1
        refine hclosed j oj hjs ?_ hoj e he hb
        have : j < listed.size := by omega
        rw [Array.getD_eq_getD_getElem?, Array.getElem?_eq_getElem this] at hj ⊢
        exact hj) i o ho hpred
      have notboth : ∀ k, k < ops.size → listed.getD k true = false → listed.getD k false = true → False := by
        intro k hk h1 h2
        have : k < listed.size := by omega
        rw [Array.getD_eq_getD_getElem?, Array.getElem?_eq_getElem this] at h1 h2
        simp only [Option.getD_some] at h1 h2
        rw [h1] at h2; cases h2
      have hip : i < p := by
        rcases Nat.lt_or_ge i p with h | h
        · exact h
        · exfalso
          obtain ⟨b1, b2⟩ := isBar_spec (hbar (by omega))
          by_cases e : i = p
          · subst e
            cases R with
            | nil => simp at hlen
            | cons x R =>
              obtain ⟨hx1, hx2⟩ := (hR x).1 (by simp)
              exact notboth x (by omega) hx2 (hbef x (b1 x hx1))
          · have := b2 i (by omega) (by simpa using hisz)
            exact notboth p (by omega) (hge p (Nat.le_refl _) (by omega)) (hbef p this)
      have hiR := (hR i).2 ⟨hip, hi1⟩
      obtain ⟨A, B, rfl⟩ := List.append_of_mem hiR
      have hA : ∀ k ∈ A, ∀ ok, ops[k]? = some ok → calm ops ok o (fpOf (E k)) (fpOf (E i)) = true := by
        intro k hk ok hok
        have hkR := (hR k).1 (by simp [hk])
        have hlt : k < i := (List.pairwise_append.1 hsort).2.2 k hk i (by simp)
        rcases hcalm k i ok o (hk0 k (by simp [hk])) hlt hip hok ho with h1 | h1
        · exact (notboth k (by omega) hkR.2 (hbef k h1)).elim
        · exact h1
      obtain ⟨hact, hrest⟩ := hruns.front ho hA
      refine act1_wp hC hpins hX ho hinv hact fun g' a' w' hinv' => ?_
      refine runs_upto ha p hp hbar rest k0 hcalm fuel (listed.setIfInBounds i true) (A ++ B) (by simp at hlen ⊢; omega) ?_ (fun k => ?_) (fun k hk => hk0 k (by simp at hk ⊢; rcases hk with hk | hk <;> simp [hk])) (by simpa using hsz) (fun k hk1 hk2 => ?_) ?_ hinv' hrest hQ
      · have hp := List.pairwise_append.1 hsort
        refine List.pairwise_append.2 ⟨hp.1, (List.pairwise_cons.1 hp.2.1).2, fun x hx y hy => hp.2.2 x hx y (by simp [hy])⟩
      · have hp := List.pairwise_append.1 hsort
        by_cases hki : k = i
        · subst hki
          have hl : (listed.setIfInBounds k true).getD k true = true := by
            rw [Array.getD_eq_getD_getElem?, Array.getElem?_setIfInBounds_self_of_lt (by omega)]; rfl
          constructor
          · intro hk
            exfalso
            rcases List.mem_append.1 hk with hk | hk
            · have := hp.2.2 k hk k (by simp)
              omega
            · have := (List.pairwise_cons.1 hp.2.1).1 k hk
              omega
          · rintro ⟨_, h⟩
            rw [hl] at h; cases h
        · rw [getD_set_ne true (Ne.symm hki)]
          have := hR k
          constructor
          · intro hk
            exact this.1 (by simp at hk ⊢; rcases hk with hk | hk <;> simp [hk])
          · intro hk
            have := this.2 hk
            simp at this ⊢
            rcases this with h | h | h
            · exact .inl h
            · exact absurd h hki
            · exact .inr h
      · rw [getD_set_ne true (by omega)]
        exact hge k hk1 hk2
      · intro j oj hjs hj hoj e he hb
        by_cases hji : j = i
        · subst hji
          rw [ho] at hoj
          cases hoj
          exact getD_set_true (hpred e he hb)
        · rw [getD_set_ne true (Ne.symm hji)] at hj
          exact getD_set_true (hclosed j oj hjs hj hoj e he hb)
end
end Go.Vi

/- Code: the whole of a function's body. -/
namespace Go.Vi
open Go.RowKit (Below)

def dEff : Eff := { val := .poison }

/-- One operation hands over an item. -/
def Emit1 (C : Ctx) (ops : Array Oper) (o : Oper) (s : St) (es : List Ty) (x : dens es) : Prop :=
  dstOk C o.dst = true ∧ isCallV o.op = true ∧ evalOp C o s = .emit es x ∧ match o.guard with
    | none => True
    | some (j, want) => ∃ g, dstOf ops j = some g ∧ look .poison s.slots g = .dat .bool want

theorem Out.run_some' {R : Type} {em : EmR R} {c : Bool} {o : Out} {K : Eff → Option R} {r : R} (h : o.run (bif c then em else EmR.no R) K = some r) : (∃ e, o.is e ∧ K e = some r) ∨
    ∃ es x r1 r2, c = true ∧ o = .emit es x ∧ K { val := .dat .bool false } = some r1 ∧ em.nil r1 = true ∧ K { val := .dat .bool true } = some r2 ∧ em.cons es x r2 = some r := by
  cases c with
  | true =>
    rcases Out.run_some h with h | ⟨es, x, r1, r2, h⟩
    · exact .inl h
    · exact .inr ⟨es, x, r1, r2, rfl, h⟩
  | false =>
    rcases Out.run_some h with h | ⟨es, x, r1, r2, _, _, _, _, hc⟩
    · exact .inl h
    · cases hc

theorem step_some {R : Type} {em : EmR R} {C : Ctx} {ops : Array Oper} {o : Oper} {s : St} {K : Eff → St → Option R} {r : R} (h : step em C ops o s K = some r) : (∃ e s', s'.eqv s ∧ Act1 C ops o s e ∧ K e s' = some r) ∨
    ∃ es x r1 r2 s', s'.eqv s ∧ Emit1 C ops o s' es x ∧ K { val := .dat .bool false } s' = some r1 ∧ em.nil r1 = true ∧ K { val := .dat .bool true } s' = some r2 ∧ em.cons es x r2 = some r := by
  unfold step at h
  cases hd : dstOk C o.dst with
  | false => rw [hd] at h; cases h
  | true =>
    rw [hd, cond_true] at h
    split at h
    · rename_i hg
      rcases Out.run_some' h with ⟨e, he, hk⟩ | ⟨es, x, r1, r2, hcv, he, h1, h2, h3, h4⟩
      · exact .inl ⟨e, s, St.eqv.refl s, ⟨hd, by rw [hg]; exact he⟩, hk⟩
      · exact .inr ⟨es, x, r1, r2, s, St.eqv.refl s, ⟨hd, hcv, he, by rw [hg]; trivial⟩, h1, h2, h3, h4⟩
    · rename_i j want hg
      split at h
      · rename_i gd hgd
        split at h
        · rename_i b hb
          have refined : ∀ v : Bool, b = v → St.eqv { s with slots := (gd, .dat .bool v) :: s.slots } s := by
            intro v hv
            refine ⟨fun t => ?_, fun _ => rfl⟩
            show look .poison ((gd, S.dat .bool v) :: s.slots) t = _
            rw [look_cons]
            by_cases e : gd = t
            · rw [if_pos e, ← e, hb, hv]
            · rw [if_neg e]
          cases hw : ((b : Bool) == want) with
          | true =>
            rw [hw, cond_true] at h
            have hbw : b = want := by simpa using hw
            have heq := refined want hbw
            rcases Out.run_some' h with ⟨e, he, hk⟩ | ⟨es, x, r1, r2, hcv, he, h1, h2, h3, h4⟩
            · refine .inl ⟨e, _, heq, ⟨hd, ?_⟩, hk⟩
              rw [hg]
              exact ⟨gd, hgd, .inl ⟨b, hb, .inl ⟨hbw, evalOp_local he (fun x _ => ev_eq heq.1 x) (fun id _ => heq.2 id)⟩⟩⟩
            · refine .inr ⟨es, x, r1, r2, _, heq, ⟨hd, hcv, he, ?_⟩, h1, h2, h3, h4⟩
              rw [hg]
              refine ⟨gd, hgd, ?_⟩
              show look .poison ((gd, S.dat .bool want) :: s.slots) gd = _
              rw [look_cons, if_pos rfl]
          | false =>
            rw [hw, cond_false] at h
            have hbw : b = !want := by cases b <;> cases want <;> simp at hw ⊢
            refine .inl ⟨{ val := .gone }, _, refined (!want) hbw, ⟨hd, ?_⟩, h⟩
            rw [hg]
            exact ⟨gd, hgd, .inl ⟨b, hb, .inr ⟨hbw, rfl⟩⟩⟩
        · rename_i hgone
          refine .inl ⟨{ val := .gone }, s, St.eqv.refl s, ⟨hd, ?_⟩, h⟩
          rw [hg]
          exact ⟨gd, hgd, .inr ⟨hgone, rfl⟩⟩
        · cases h
      · cases h

theorem Runs.congr {C : Ctx} {ops : Array Oper} {E E' : Nat → Eff} : ∀ {R : List Nat} {s sf : St}, (∀ i ∈ R, E i = E' i) → Runs C ops E R s sf → Runs C ops E' R s sf
  | [], _, _, _, h => h
  | i :: R, _, _, he, ⟨o, h1, h2, h3⟩ => ⟨o, h1, by rw [← he i (by simp)]; exact h2, by rw [← he i (by simp)]; exact Runs.congr (fun k hk => he k (by simp [hk])) h3⟩

theorem stepAll_runs {R : Type} {C : Ctx} {ops : Array Oper} {K : List (List Nat × List Nat) → St → Option R} {r : R} : ∀ (l : List Oper) (k : Nat) (s : St) (fs : List (List Nat × List Nat)), (∀ j o, l[j]? = some o → ops[k + j]? = some o) →
    stepAll (EmR.no R) C ops l s fs K = some r → ∃ (es : List Eff) (sf : St), es.length = l.length ∧ Runs C ops (fun i => es.getD (i - k) dEff) (List.range' k l.length) s sf ∧ K ((es.map fpOf).reverse ++ fs) sf = some r
  | [], k, s, fs, _, h => ⟨[], s, rfl, St.eqv.refl s, h⟩
  | o :: l, k, s, fs, hl, h => by
    simp only [stepAll] at h
    rcases step_some h with ⟨e, s', hs', hact, h⟩ | ⟨_, _, _, _, _, _, _, _, _, _, hc⟩
    case inr => cases hc
    obtain ⟨es, sf, h1, h2, h3⟩ := stepAll_runs l (k + 1) (s'.app o.dst e) _ (fun j o' hj => by
      have := hl (j + 1) o' (by simpa using hj)
      rw [show k + 1 + j = k + (j + 1) by omega]; exact this) h
    refine ⟨e :: es, sf, by simp [h1], ?_, by simpa [fpOf] using h3⟩
    rw [List.length_cons, List.range'_succ]
    refine ⟨o, by simpa using hl 0 o rfl, by simpa using hact, ?_⟩
    have h2' : Runs C ops (fun i => (e :: es).getD (i - k) dEff) (List.range' (k + 1) l.length) (s'.app o.dst e) sf :=
      h2.congr fun i hi => by
        have : k + 1 ≤ i := (List.mem_range'_1.1 hi).1
        rw [show i - k = (i - (k + 1)) + 1 by omega]; rfl
    simpa using h2'.eqv (eqv_app hs' _ _)

/-- What the rest of the world has handed to a frame. -/
structure EmOk {R : Type} (P : Program) (F : Fr) (τ : Nat) (em : EmR R) (J : R → Gh → World → Prop) : Prop where
  lt : τ < F.m
  ab : Abide τ J
  y : (∀ es x r, em.cons es x r = none) ∨ ((∀ o, F.p o → Own.above τ o) ∧ YieldOk P F.yl τ em J)
theorem Own.upto_offs {τ m : Nat} (h : τ < m) : ∀ o : Own, o.upto τ → o.offs m
  | .stays, _ => trivial
  | .mine j, k => by have : j ≤ τ := k; show j ≠ m; omega
  | .room j _, k => by have : j ≤ τ := k; show j ≠ m; omega
theorem EmOk.X {R : Type} {P : Program} {F : Fr} {τ : Nat} {em : EmR R} {J : R → Gh → World → Prop} (h : EmOk P F τ em J) (r : R) : Xok F (J r) :=
  fun G w G' w' hj hk => h.ab r G w G' w' hj (hk.mono (Own.upto_offs h.lt))

/-- Others' steps. -/
theorem HeapRel.kp {P : Program} {H : Heap} {g : Gs} {w : World} {F : Fr} (h : HeapRel P H g w F) {q : Own → Prop} {G' : Gh} {w' : World} (k : Kp q g.G w G' w') (hqs : q .stays) (hqm : q (.mine F.m)) (hqr : ∀ hi, q (.room F.m hi)) :
    HeapRel P H ⟨G', g.ι, g.ov, g.yl⟩ w' F ∧ Ext H g H ⟨G', g.ι, g.ov, g.yl⟩ := by
  have hx : Ext H g H ⟨G', g.ι, g.ov, g.yl⟩ := ⟨fun _ m fz c h => ⟨m, fz, c, h, Nat.le_refl _, fun _ _ => rfl, fun _ => ⟨rfl, rfl⟩⟩, fun _ m h => ⟨m, h, Nat.le_refl _, fun _ => rfl⟩, rfl⟩
  refine ⟨⟨fun id n fz c hl => ?_, fun T n hl => ?_, fun id n fz c id' n' fz' c' h1 h2 hne r1 r2 => h.apart id n fz c id' n' fz' c' h1 h2 hne r1 r2, fun T n T' n' h1 h2 hne b hb => h.rooms T n T' n' h1 h2 hne b hb⟩, hx⟩
  · refine (h.box id n fz c hl).step hx k.adv rfl rfl fun hr hlt => ?_
    obtain ⟨cs, et, h1, h3⟩ := (h.box id n fz c hl).block hr
    exact k.same _ hlt (by rw [h3]; split <;> assumption)
  · obtain ⟨ao, m, c, h1, h2, h3⟩ := h.tok T n hl
    refine ⟨ao, m, c, h1, h2, ?_⟩
    rcases h3 with h3 | ⟨b, o1, cur, et, h4, h5, h6, h7, h8⟩
    · exact .inl h3
    · have hlt : b < w.heap.size := (Array.getElem?_eq_some_iff.1 h7).1
      obtain ⟨k1, k2⟩ := k.same _ hlt (by rw [h5]; exact hqr _)
      exact .inr ⟨b, o1, cur, et, h4, k2.trans h5, h6, k1.trans h7, h8⟩
theorem Kp.then {p q : Own → Prop} {G G' G'' : Gh} {w w' w'' : World} (h : Kp p G w G' w') (k : Kp q G' w' G'' w'') (hq : ∀ b, b < w.heap.size → p (G b) → q (G b)) : Kp p G w G'' w'' :=
  ⟨k.os.trans h.os, k.tape.trans h.tape, k.output.trans h.output, Nat.le_trans h.size k.size, fun b hb hp => by
    obtain ⟨h1, h2⟩ := h.same b hb hp
    obtain ⟨k1, k2⟩ := k.same b (Nat.lt_of_lt_of_le hb h.size) (by rw [h2]; exact hq b hb hp)
    exact ⟨k1.trans h1, k2.trans h2⟩, h.adv.trans k.adv⟩
theorem Inv.kp {P : Program} {N : Nat} {F : Fr} {g : Gs} {s : St} {a : Act} {w : World} (h : Inv P N F g s a w) {q : Own → Prop} {G' : Gh} {w' : World} (k : Kp q g.G w G' w') (hqs : q .stays) (hqm : q (.mine F.m)) (hqr : ∀ hi, q (.room F.m hi))
    (hp : ∀ b, b < F.w.heap.size → F.p (F.G b) → q (F.G b)) (hl : Lv F.t G' w') : Inv P N F ⟨G', g.ι, g.ov, g.yl⟩ s a w' := by
  obtain ⟨h1, h2⟩ := h.heap.kp k hqs hqm hqr
  refine ⟨fun t => (h.slots t).ext h2 k.adv, h.size, h.defers.kp k hqm, h1, h.stp.then k hp, hl, h.mt, Nat.le_trans h.hB k.size, fun l o hl => ?_, h.pin, h.yl, h.hp, h.hrd, h.lv0⟩
  obtain ⟨q1, q2, q3⟩ := h.objs l o hl
  obtain ⟨k1, k2⟩ := k.same l (Array.getElem?_eq_some_iff.1 q1).1 (by rw [q3]; exact hqm)
  exact ⟨k1.trans q1, q2, k2.trans q3⟩

section
variable {P : Program} {C : Ctx} (hC : CtxOk P C) {F : Fr} (hpins : F.pins = C.pins) {R : Type} {em : EmR R} {τ : Nat} {J : R → Gh → World → Prop} (hE : EmOk P F τ em J)
include hC hpins hE

omit hC in
theorem emit1_wp {ops : Array Oper} {i : Nat} {o : Oper} (ho : ops[i]? = some o) {g : Gs} {s : St} {a : Act} {w : World} (hinv : Inv P C.ntmps F g s a w) {es : List Ty} {x : dens es} (h : Emit1 C ops o s es x) {r1 r2 r : R} (hn : em.nil r1 = true) (hc : em.cons es x r2 = some r) (hJ : J r g.G w)
    {K : Act → World → Prop} {Q : Exit → Act → World → Prop}
    (hK : ∀ (b : Bool) g' a' w', Inv P C.ntmps F g' (s.app o.dst { val := .dat .bool b }) a' w' → J (bif b then r2 else r1) g'.G w' → K a' w') : wpOpIn (wr F.rd) 0 P ops Q i K a w := by
  obtain ⟨hd0, hcv, he, hg⟩ := h
  rcases hE.y with hno | ⟨hpt, hy⟩
  · rw [hno] at hc; cases hc
  have hd : dstLt C.ntmps F o.dst := by
    unfold dstOk at hd0
    cases hdst : o.dst with
    | none => trivial
    | some d =>
      rw [hdst] at hd0
      simp only [Bool.and_eq_true, Bool.not_eq_true'] at hd0
      refine ⟨by simpa using hd0.1, fun hm => ?_⟩
      rw [hpins] at hm
      rw [mem_iff.2 hm] at hd0
      cases hd0.2
  have hop : ∃ f args ts, o.op = .call { callee := .value f, args, argTypes := ts } ∧ callV C s o.dst (s.ev f) (args.toList.map s.ev) = .emit es x := by
    unfold isCallV at hcv
    split at hcv
    · rename_i f args ts hop
      refine ⟨f, args, ts, hop, ?_⟩
      unfold evalOp at he
      rw [hop] at he
      exact he
    · cases hcv
  obtain ⟨f, args, ts, hop, hcall⟩ := hop
  obtain ⟨vs, hvs, hrun⟩ := emit_exec hinv hop hcall
  obtain ⟨fn, tmps, assign, body, hy1, hy2⟩ := hy es x r2 r hc g.G w vs F.t hJ hinv.lv (Nat.le_trans (Nat.le_of_lt hE.lt) hinv.mt) hvs
  have hwant : Region.wanted o (yielded ops a.tmps) = true := by
    cases hgd : o.guard with
    | none => simp [Region.wanted, hgd]
    | some p =>
      obtain ⟨j, want⟩ := p
      rw [hgd] at hg
      obtain ⟨gd, h3, h4⟩ := hg
      have hs := hinv.slots gd
      rw [h4] at hs
      have hv : a.tmps.getD gd undef = .bool want := RepV.bool hs
      have hlt : gd < a.tmps.size := by
        rcases Nat.lt_or_ge gd a.tmps.size with hlt | hge
        · exact hlt
        · rw [Array.getD_eq_getD_getElem?, Array.getElem?_eq_none hge] at hv
          cases hv
      have hget : a.tmps[gd]? = some (.bool want) := by
        rw [Array.getElem?_eq_getElem hlt]
        rw [Array.getD_eq_getD_getElem?, Array.getElem?_eq_getElem hlt] at hv
        exact congrArg some hv
      have hyl : yielded ops a.tmps j = some want := by
        unfold yielded
        unfold dstOf at h3
        rw [h3]
        simp [hget]
      simp [Region.wanted, hgd, hyl]
  unfold wpOpIn
  rw [ho]
  simp only
  rw [if_pos hwant]
  refine ⟨fun _ _ => trivial, ?_⟩
  rw [Oper.semAt_eq _ _ _ (fun c hc => by rw [hop] at hc; cases hc), hrun, hinv.yl, hy1]
  refine ⟨fun hd => (by cases hd), RoundIn.mono (show RoundIn (wr F.rd) (0 - 1) P F.yl fn tmps assign body w _ from hy2) ?_⟩
  rintro e w' ⟨b, G', rfl, k1, k2, k3, k4⟩
  have hi := hinv.kp k1 trivial hE.lt (fun _ => hE.lt) (fun _ _ => hpt _) k2
  refine hK b ⟨G', g.ι, g.ov, g.yl⟩ _ _ (hi.val hd (SRel.dat (RepV.mk_bool b))) ?_
  cases b with
  | true => exact k3 rfl
  | false => exact k4 rfl r1 hn

theorem stepAll_wp {ops : Array Oper} {Q : Exit → Act → World → Prop} {K : List (List Nat × List Nat) → St → Option R}
    (hQ : ∀ fs sf g' a' w' r', K fs sf = some r' → Inv P C.ntmps F g' sf a' w' → J r' g'.G w' → Q .normal a' w') : ∀ (l : List Oper) (k : Nat) (s : St) (fs : List (List Nat × List Nat)) (r : R) {g : Gs} {a : Act} {w : World}, (∀ j o, l[j]? = some o → ops[k + j]? = some o) →
    Inv P C.ntmps F g s a w → J r g.G w → stepAll em C ops l s fs K = some r → wpOpsIn (wr F.rd) 0 P ops Q (List.range' k l.length) a w
  | [], k, s, fs, r, g, a, w, _, hinv, hJ, h => hQ fs s g a w r h hinv hJ
  | o :: l, k, s, fs, r, g, a, w, hl, hinv, hJ, h => by
    simp only [stepAll] at h
    have ho : ops[k]? = some o := by simpa using hl 0 o rfl
    have hl' : ∀ j o', l[j]? = some o' → ops[k + 1 + j]? = some o' := fun j o' hj => by
      have := hl (j + 1) o' (by simpa using hj)
      rw [show k + 1 + j = k + (j + 1) by omega]; exact this
    rw [List.length_cons, List.range'_succ, wpOpsIn_cons]
    rcases step_some h with ⟨e, s', hs', hact, h⟩ | ⟨es, x, r1, r2, s', hs', hem, h1, hn, h2, hc⟩
    · refine act1_wp hC hpins (hE.X r) ho ⟨hinv.eqv hs'.symm, hJ⟩ (hact.eqv hs'.symm) fun g' a' w' hi => ?_
      exact stepAll_wp hQ l (k + 1) _ _ r hl' hi.1 hi.2 h
    · refine emit1_wp hpins hE ho (hinv.eqv hs'.symm) hem hn hc hJ fun b g' a' w' hi hj => ?_
      cases b with
      | true => exact stepAll_wp hQ l (k + 1) _ _ r2 hl' hi hj h2
      | false => exact stepAll_wp hQ l (k + 1) _ _ r1 hl' hi hj h1

omit hpins hE hC in
theorem calmPart_spec {ops : Array Oper} {k : Nat} {l : List Oper} {es : List Eff} (hl : ∀ j o, l[j]? = some o → ops[k + j]? = some o) (hlen : es.length = l.length) (h : calmPart ops k l (es.map fpOf) = true) :
    ∀ i j oi oj, k ≤ i → i < j → j < k + l.length → ops[i]? = some oi → ops[j]? = some oj → i ∈ (befores ops.toList).getD j [] ∨ calm ops oi oj (fpOf (es.getD (i - k) dEff)) (fpOf (es.getD (j - k) dEff)) = true := by
  intro i j oi oj hki hij hjl hoi hoj
  unfold calmPart at h
  simp only [List.all_eq_true, Bool.or_eq_true] at h
  have hc := h (j - k) (List.mem_range.2 (by omega)) (i - k) (List.mem_range.2 (by omega))
  have get : ∀ m om, m - k < l.length → k ≤ m → ops[m]? = some om → l.getD (m - k) default = om := by
    intro m om h1 h2 h3
    have h4 : l[m - k]? = some (l[m - k]) := List.getElem?_eq_getElem h1
    have h5 := hl _ _ h4
    rw [show k + (m - k) = m by omega, h3] at h5
    rw [List.getD_eq_getElem?_getD, h4]
    exact (Option.some.inj h5).symm
  have e3 : ∀ m, m < l.length → (es.map fpOf).getD m ([], []) = fpOf (es.getD m dEff) := by
    intro m hm
    have hk' : m < es.length := by rw [hlen]; exact hm
    rw [List.getD_eq_getElem?_getD, List.getElem?_map, List.getD_eq_getElem?_getD, List.getElem?_eq_getElem hk']; rfl
  rw [get i oi (by omega) hki hoi, get j oj (by omega) (by omega) hoj, e3 (i - k) (by omega), e3 (j - k) (by omega), show k + (i - k) = i by omega, show k + (j - k) = j by omega] at hc
  rcases hc with hc | hc
  · exact .inl (mem_iff.1 hc)
  · exact .inr hc

theorem regionBar_wp {id : Nat} {ops : Array Oper} {p : Nat} (ha : aheadAll ops = true) (hbo : barOf ops = some p) {s : St} {K : St → Option R} {r : R} (h : regionBar em C ops p s K = some r) {g : Gs} {a : Act} {w : World} (hinv : Inv P C.ntmps F g s a w) (hJ : J r g.G w) {Q : Exit → Act → World → Prop}
    (hQ : ∀ sf g' a' w' r', K sf = some r' → Inv P C.ntmps F g' sf a' w' → J r' g'.G w' → Q .normal a' w') : (Code.region id ops true).wpIn (wr F.rd) 0 P Q a w := by
  unfold barOf at hbo
  have hp1 := List.find?_some hbo
  have hp2 : p < ops.size := by
    have := List.mem_of_find?_eq_some hbo
    simpa using List.mem_range.1 this
  simp only [Bool.and_eq_true] at hp1
  have hbar := hp1.2
  have hX := hE.X r
  unfold regionBar at h
  have hl1 : ∀ j o, (ops.toList.take p)[j]? = some o → ops[0 + j]? = some o := fun j o hj => by
    rw [List.getElem?_take] at hj
    split at hj
    · rw [Nat.zero_add]; simpa using hj
    · cases hj
  obtain ⟨es, sf, h1, h2, h3⟩ := stepAll_runs _ 0 s [] hl1 h
  rw [List.append_nil, List.reverse_reverse] at h3
  have hlen1 : (ops.toList.take p).length = p := by rw [List.length_take, Array.length_toList]; omega
  cases hc1 : calmPart ops 0 (ops.toList.take p) (es.map fpOf) with
  | false => rw [hc1] at h3; cases h3
  | true =>
    rw [hc1, cond_true] at h3
    have hop : ops.toList[p]? = some ops[p] := by rw [Array.getElem?_toList]; exact Array.getElem?_eq_getElem hp2
    have hop' : ops[p]? = some ops[p] := Array.getElem?_eq_getElem hp2
    rw [hop] at h3
    simp only at h3
    have hcalm1 := calmPart_spec hl1 h1 hc1
    have hl2 : ∀ j o, (ops.toList.drop (p + 1))[j]? = some o → ops[(p + 1) + j]? = some o := fun j o hj => by
      rw [List.getElem?_drop] at hj
      simpa using hj
    have hlen2 : (ops.toList.drop (p + 1)).length = ops.size - (p + 1) := by rw [List.length_drop, Array.length_toList]
    -- what is behind the operation
    have second : ∀ (e : Eff) (s1 : St) (r' : R), stepAll (EmR.no R) C ops (ops.toList.drop (p + 1)) (s1.app ops[p].dst e) [] (fun fs s => bif calmPart ops (p + 1) (ops.toList.drop (p + 1)) fs.reverse then K s else none) = some r' →
        ∀ (listed : Array Bool) (g : Gs) (a : Act) (w : World), listed.size = ops.size → (∀ i, i < p → listed.getD i true = true) → (∀ i, p ≤ i → i < ops.size → listed.getD i true = false) →
        (∀ i o, i < ops.size → listed.getD i true = true → ops[i]? = some o → ∀ e ∈ o.after, Region.binds .any e = true → listed.getD e.on false = true) →
        (∀ e ∈ ops[p].after, Region.binds .any e = true → listed.getD e.on false = true) →
        Inv P C.ntmps F g (s1.app ops[p].dst e) a w → J r' g.G w → wpAnyIn (wr F.rd) 0 P .any ops Q (ops.size - (p + 1)) (listed.setIfInBounds p true) a w := by
      intro e s1 r' hst listed g a w hsz hlo hhi hcl hpp hi hj
      obtain ⟨es2, sf2, k1, k2, k3⟩ := stepAll_runs _ (p + 1) _ [] hl2 hst
      rw [List.append_nil, List.reverse_reverse] at k3
      cases hc2 : calmPart ops (p + 1) (ops.toList.drop (p + 1)) (es2.map fpOf) with
      | false => rw [hc2] at k3; cases k3
      | true =>
        rw [hc2, cond_true] at k3
        have hcalm2 := calmPart_spec hl2 k1 hc2
        rw [hlen2] at k2 hcalm2
        have hset : ∀ i, i ≠ p → (listed.setIfInBounds p true).getD i true = listed.getD i true := fun i hi => getD_set_ne true (Ne.symm hi)
        have hself : (listed.setIfInBounds p true).getD p true = true := by
          rw [Array.getD_eq_getD_getElem?, Array.getElem?_setIfInBounds_self_of_lt (by omega)]; rfl
        have := runs_upto hC hpins (hE.X r') (Q := Q) ha ops.size (Nat.le_refl _) (fun h => absurd h (Nat.lt_irrefl _)) 0 (p + 1) (E := fun i => es2.getD (i - (p + 1)) dEff) (fun i j oi oj h1 h2 h3 => hcalm2 i j oi oj h1 h2 (by omega))
          (ops.size - (p + 1)) (listed.setIfInBounds p true) (List.range' (p + 1) (ops.size - (p + 1))) (by simp) (List.pairwise_lt_range') (fun i => ?_) (fun i hi => (List.mem_range'_1.1 hi).1) (by simpa using hsz) (fun i h1 h2 => absurd h1 (by omega)) ?_ ⟨hi, hj⟩ k2 (fun listed' g' a' w' q1 q2 q3 q4 q5 => ?_)
        · rwa [Nat.add_zero] at this
        · rw [List.mem_range'_1]
          constructor
          · rintro ⟨h1, h2⟩
            refine ⟨by omega, ?_⟩
            rw [hset i (by omega)]
            exact hhi i (by omega) (by omega)
          · rintro ⟨h1, h2⟩
            refine ⟨?_, by omega⟩
            rcases Nat.lt_or_ge i p with h | h
            · rw [hset i (by omega), hlo i h] at h2; cases h2
            · by_cases e : i = p
              · rw [e, hself] at h2; cases h2
              · omega
        · intro i o his hl ho e' he' hb
          by_cases e : i = p
          · subst e
            rw [hop'] at ho
            cases ho
            exact getD_set_true (hpp e' he' hb)
          · rw [hset i e] at hl
            exact getD_set_true (hcl i o his hl ho e' he' hb)
        · refine ⟨?_, hQ sf2 g' a' w' r' k3 q5.1 q5.2⟩
          cases hr : Region.ready .any ops listed' with
          | nil => rfl
          | cons x xs =>
            exfalso
            have hx : x ∈ Region.ready .any ops listed' := by rw [hr]; simp
            rw [mem_ready] at hx
            obtain ⟨h1, o, ho, _⟩ := hx
            rw [q2 x (Array.getElem?_eq_some_iff.1 ho).1] at h1
            cases h1
    -- the whole
    refine wpIn_region_any hC.mixed ?_
    rw [hlen1] at h2 hcalm1
    have hsplit : ops.size = p + ((ops.size - (p + 1)) + 1) := by omega
    have first := runs_upto hC hpins hX (Q := Q) ha p (by omega) (fun _ => hbar) ((ops.size - (p + 1)) + 1) 0 (E := fun i => es.getD (i - 0) dEff) (fun i j oi oj h1 h2 h3 => hcalm1 i j oi oj h1 h2 (by omega))
      p (Array.replicate ops.size false) (List.range' 0 p) (by simp) (List.pairwise_lt_range') (fun i => ?_) (fun i _ => Nat.zero_le _) (by simp) (fun i _ h2 => ?_) ?_ ⟨hinv.drew, hX _ _ _ _ hJ Kp.drew⟩ h2 (fun listed' g' a' w' q1 q2 q3 q4 q5 => ?_)
    · rw [← hsplit] at first
      exact first
    · rw [List.mem_range'_1]
      constructor
      · rintro ⟨_, hi⟩
        have hi' : i < ops.size := by omega
        exact ⟨by omega, by rw [Array.getD_eq_getD_getElem?, Array.getElem?_replicate, if_pos hi']; rfl⟩
      · rintro ⟨hi, _⟩
        exact ⟨by omega, by omega⟩
    · rw [Array.getD_eq_getD_getElem?, Array.getElem?_replicate, if_pos h2]; rfl
    · intro i o hi hl
      rw [Array.getD_eq_getD_getElem?, Array.getElem?_replicate, if_pos hi] at hl
      cases hl
    · -- the operation itself
      obtain ⟨b1, b2⟩ := isBar_spec hbar
      have hppred : ∀ e ∈ ops[p].after, Region.binds .any e = true → listed'.getD e.on false = true := by
        intro e he hb
        have hlt : e.on < p := by
          have ha' := ha
          unfold aheadAll at ha'
          rw [List.all_eq_true] at ha'
          have h3 := ha' p (List.mem_range.2 (by simpa using hp2))
          have h4 : ops.toList.getD p default = ops[p] := by rw [List.getD_eq_getElem?_getD, Array.getElem?_toList, hop']; rfl
          rw [h4, List.all_eq_true] at h3
          have h5 := h3 e (by simpa using he)
          rw [hb] at h5
          simpa using h5
        have := q2 e.on hlt
        have hsz : e.on < listed'.size := by omega
        rw [Array.getD_eq_getD_getElem?, Array.getElem?_eq_getElem hsz] at this ⊢
        exact this
      refine ⟨fun hnil => ?_, fun i hi => ?_⟩
      · exfalso
        have : p ∈ Region.ready .any ops listed' := by
          rw [mem_ready]
          exact ⟨q3 p (Nat.le_refl _) hp2, _, hop', hppred⟩
        rw [hnil] at this
        cases this
      · rw [mem_ready] at hi
        obtain ⟨hi1, o, ho, hpred⟩ := hi
        have hisz : i < ops.size := (Array.getElem?_eq_some_iff.1 ho).1
        have hip : i = p := by
          rcases Nat.lt_or_ge i p with hlt | hge
          · rw [q2 i hlt] at hi1; cases hi1
          · by_cases e : i = p
            · exact e
            · exfalso
              have hbef := befores_done ha (D := fun k => listed'.getD k false = true) (fun j oj hj hoj e he hb => by
                have hjs : j < ops.size := (Array.getElem?_eq_some_iff.1 hoj).1
                refine q4 j oj hjs ?_ hoj e he hb
                have : j < listed'.size := by omega
                rw [Array.getD_eq_getD_getElem?, Array.getElem?_eq_getElem this] at hj ⊢
                exact hj) i o ho hpred
              have h1 := hbef p (b2 i (by omega) (by simpa using hisz))
              have h2 := q3 p (Nat.le_refl _) hp2
              have hsz : p < listed'.size := by omega
              rw [Array.getD_eq_getD_getElem?, Array.getElem?_eq_getElem hsz] at h1 h2
              simp only [Option.getD_some] at h1 h2
              rw [h1] at h2; cases h2
        subst hip
        rcases step_some h3 with ⟨e, s', hs', hact, h⟩ | ⟨es', x, r1, r2, s', hs', hem, k1, hn, k2, hc⟩
        · refine act1_wp hC hpins hX hop' ⟨q5.1.eqv hs'.symm, q5.2⟩ (hact.eqv hs'.symm) fun g'' a'' w'' hi => ?_
          exact second e s' r h listed' g'' a'' w'' q1 q2 q3 q4 hppred hi.1 hi.2
        · refine emit1_wp hpins hE hop' (q5.1.eqv hs'.symm) hem hn hc q5.2 fun b g'' a'' w'' hi hj => ?_
          cases b with
          | true => exact second _ s' r2 k2 listed' g'' a'' w'' q1 q2 q3 q4 hppred hi hj
          | false => exact second _ s' r1 k1 listed' g'' a'' w'' q1 q2 q3 q4 hppred hi hj

theorem region_wp {id : Nat} {ops : Array Oper} {draw : Bool} {s : St} {K : St → Option R} {r : R} (h : region em C ops draw s K = some r) {g : Gs} {a : Act} {w : World} (hinv : Inv P C.ntmps F g s a w) (hJ : J r g.G w) {Q : Exit → Act → World → Prop}
    (hQ : ∀ sf g' a' w' r', K sf = some r' → Inv P C.ntmps F g' sf a' w' → J r' g'.G w' → Q .normal a' w') : (Code.region id ops draw).wpIn (wr F.rd) 0 P Q a w := by
  have hops : ∀ j o, ops.toList[j]? = some o → ops[0 + j]? = some o := fun j o hj => by rw [Nat.zero_add]; simpa using hj
  cases draw with
  | false =>
    simp only [region, cond_false] at h
    refine wpIn_region ?_
    rw [List.range_eq_range']
    have := stepAll_wp hC hpins hE (Q := Q) (fun fs sf g' a' w' r' => hQ sf g' a' w' r') ops.toList 0 s [] r hops hinv hJ h
    rw [Array.length_toList] at this
    exact this
  | true =>
    have hX := hE.X r
    simp only [region, cond_true] at h
    cases hb : aheadAll ops && noSelect ops with
    | false => rw [hb] at h; cases h
    | true =>
      rw [hb, cond_true] at h
      simp only [Bool.and_eq_true] at hb
      cases hbo : barOf ops with
      | some p =>
        rw [hbo] at h
        exact regionBar_wp hC hpins hE hb.1 hbo h hinv hJ hQ
      | none =>
      rw [hbo] at h
      obtain ⟨es, sf, h1, h2, h3⟩ := stepAll_runs ops.toList 0 s [] hops h
      rw [List.append_nil, List.reverse_reverse] at h3
      cases hcalm : calmAll ops (es.map fpOf) with
      | false => rw [hcalm] at h3; cases h3
      | true =>
        rw [hcalm, cond_true] at h3
        refine wpIn_region_any hC.mixed ?_
        have hlen : es.length = ops.size := by rw [h1, Array.length_toList]
        rw [Array.length_toList] at h2
        refine runs_any hC hpins hX hb.1 (E := fun i => es.getD (i - 0) dEff) ?_ ops.size (Array.replicate ops.size false) (List.range' 0 ops.size) (by simp) (List.pairwise_lt_range' (n := ops.size)) (fun i => ?_) (by simp) ?_ ⟨hinv.drew, hX _ _ _ _ hJ Kp.drew⟩ h2 fun g' a' w' hi => hQ sf g' a' w' r h3 hi.1 hi.2
        · intro i j oi oj hij hoi hoj
          unfold calmAll at hcalm
          simp only [List.all_eq_true, Bool.or_eq_true] at hcalm
          have hj : j < ops.toList.length := by rw [Array.length_toList]; exact (Array.getElem?_eq_some_iff.1 hoj).1
          have hc := hcalm j (List.mem_range.2 hj) i (List.mem_range.2 hij)
          have e1 : ops.toList.getD i default = oi := by rw [List.getD_eq_getElem?_getD, Array.getElem?_toList, hoi]; rfl
          have e2 : ops.toList.getD j default = oj := by rw [List.getD_eq_getElem?_getD, Array.getElem?_toList, hoj]; rfl
          have e3 : ∀ k, k < ops.size → (es.map fpOf).getD k ([], []) = fpOf (es.getD k dEff) := by
            intro k hk
            have hk' : k < es.length := by rw [hlen]; exact hk
            rw [List.getD_eq_getElem?_getD, List.getElem?_map, List.getD_eq_getElem?_getD, List.getElem?_eq_getElem hk']; rfl
          rw [Array.length_toList] at hj
          rw [e1, e2, e3 i (by omega), e3 j hj] at hc
          simp only [Nat.sub_zero]
          rcases hc with hc | hc
          · exact .inl (mem_iff.1 hc)
          · exact .inr hc
        · rw [List.mem_range'_1]
          constructor
          · rintro ⟨_, hi⟩
            have hi' : i < ops.size := by omega
            exact ⟨hi', by rw [Array.getD_eq_getD_getElem?, Array.getElem?_replicate, if_pos hi']; rfl⟩
          · rintro ⟨hi, _⟩
            exact ⟨by omega, by omega⟩
        · intro i o hi hl
          rw [Array.getD_eq_getD_getElem?, Array.getElem?_replicate, if_pos hi] at hl
          cases hl
end

/-! ### a loop's head -/
end Go.Vi
