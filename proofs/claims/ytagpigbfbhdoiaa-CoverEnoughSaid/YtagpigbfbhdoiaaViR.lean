/- Literals of slices; parts of an array of the run's own. -/
import Derived.Test.YtagpigbfbhdoiaaViQ
namespace Go.Vi
open Go.RowKit (Below)

theorem replicate_flatten_get {α : Type} (z : List α) : ∀ (n j : Nat), (List.replicate n z).flatten[j]? = if j < n * z.length then z[j % z.length]? else none
  | 0, j => by simp
  | n + 1, j => by
    rw [List.replicate_succ, List.flatten_cons, List.getElem?_append, Nat.succ_mul]
    by_cases h : j < z.length
    · rw [if_pos h, if_pos (by omega), Nat.mod_eq_of_lt h]
    · rw [if_neg h, replicate_flatten_get z n (j - z.length)]
      by_cases h2 : j - z.length < n * z.length
      · rw [if_pos h2, if_pos (by omega), ← Nat.mod_eq_sub_mod (by omega)]
      · rw [if_neg h2, if_neg (by omega)]

theorem range_zero (z : Array Value) (n : Nat) (hz : 0 < z.size) : ((Array.range (n * z.size)).map (z[· % z.size]!)).toList = (List.replicate n z.toList).flatten := by
  apply List.ext_getElem?
  intro j
  rw [replicate_flatten_get]
  simp only [Array.toList_map, Array.toList_range, List.getElem?_map, Array.length_toList]
  by_cases h : j < n * z.size
  · rw [if_pos h, List.getElem?_range h]
    have hm : j % z.size < z.size := Nat.mod_lt _ hz
    simp [hm]
  · rw [if_neg h, List.getElem?_eq_none (by simpa using h)]; rfl

section
variable {P : Program} {C : Ctx} (T : Types P C.tab) {N : Nat} {F : Fr} {g : Gs} {s : St} {a : Act} {w : World} (hinv : Inv P N F g s a w) {o : Oper} (hd : dstLt N F o.dst)
include hinv hd

/-- A new block that stays. -/
theorem Inv.fresh {cells : Array Value} {et : TypeId} {u : S} {v : Value} (hv : ∀ g' : Gs, Adv g.G w g'.G (w.alloc (.cells cells et)) → (∀ j, g'.G.st w.heap.size j) → SRel P s.heap g' (w.alloc (.cells cells et)) u v) :
    ∃ g', Inv P N F g' (s.app o.dst { val := u }) (a.put o.dst v) (w.alloc (.cells cells et)) := by
  let g' : Gs := ⟨fun b => if b = w.heap.size then .stays else g.G b, g.ι, g.ov, g.yl⟩
  have hG : ∀ b, b < w.heap.size → g'.G b = g.G b := fun b hb => by simp only [g']; rw [if_neg (by omega)]
  have ha : Adv g.G w g'.G (w.alloc (.cells cells et)) := ⟨fun b o' v hcell hs => by
    have hb := Cell.lt hcell
    refine ⟨by rw [Cell.of_block (heap_alloc hb)]; exact hcell, ?_⟩
    unfold Gh.st at *
    rw [hG b hb]; exact hs⟩
  refine ⟨g', hinv.app (e := { val := u }) hd ⟨fun _ m fz c h => ⟨m, fz, c, h, Nat.le_refl _, fun _ _ => rfl⟩, fun _ m h => ⟨m, h, Nat.le_refl _, fun _ => rfl⟩, rfl⟩ (hv g' ha (fun j => by unfold Gh.st; simp [g'])) ?_ (Stp.alloc _ hG (by show (if w.heap.size = w.heap.size then Own.stays else _).upto F.t; rw [if_pos rfl]; trivial))⟩
  exact hinv.heap.mono (fun b hb => heap_alloc hb) g' hG rfl rfl rfl

include T
theorem shown_buildSlice {t len : Nat} {parts : Array (Nat × Operand)} (hop : o.op = .buildSlice t len parts) {e : Eff} (he : (buildSliceS C t len (parts.toList.map fun (i, x) => (i, s.ev x))).is e) : Shown P N F s a w o e := by
  have hex : execOp a.eval o = (do pure (.value (← Instr.buildSlice t len (parts.map fun (i, x) => (i, a.eval x))))) := by unfold execOp; rw [hop]
  have hparts : (parts.map fun (i, x) => (i, a.eval x)).toList = parts.toList.map fun p => (p.1, a.eval p.2) := by simp
  unfold buildSliceS at he
  split at he
  · rename_i te hte
    split at he
    · rename_i ee hty
      cases hb : Nat.ble (len * ee.size) 16777216 && Nat.ble 1 ee.size with
      | false => rw [hb] at he; exact he.elim
      | true =>
        rw [hb, cond_true] at he
        simp only [Bool.and_eq_true] at hb
        have hsm : len * ee.size ≤ 16777216 := Nat.le_of_ble_eq_true hb.1
        have hpos : 1 ≤ ee.size := Nat.le_of_ble_eq_true hb.2
        unfold Out.opt at he
        split at he
        · rename_i u hu
          obtain ⟨_, rfl⟩ := he
          rw [Option.map_eq_some_iff] at hu
          obtain ⟨x', hx', rfl⟩ := hu
          obtain ⟨et, tee, i, k1, k2, k3, hi, hisz, hiz, _⟩ := T.slc hte hty
          have hzc : (valOf ee (zeroV ee)).cells = (zeroV ee).toArray := (Rep.zero g.G w ee).cells
          have hzsz : (zeroV ee).toArray.size = ee.size := by simpa using Rep.size _ _ _ (Rep.zero g.G w ee)
          have hzero : Each (Rep g.G w ee) (List.replicate len ee.zero) (List.replicate len (zeroV ee)) := Each.replicate (Rep.zero g.G w ee) len
          have hinit : ((Array.range (len * ee.size)).map ((zeroV ee).toArray[· % (zeroV ee).toArray.size]!)).toList = (List.replicate len (zeroV ee)).flatten := by
            have := range_zero (zeroV ee).toArray len (by omega)
            rw [hzsz] at this ⊢
            simpa using this
          obtain ⟨cells', css', q1, q2, q3, q4⟩ := fill_items hinv (place := fun i => some (i * ee.size, ee.size)) (fun _ => rfl) parts.toList (List.replicate len ee.zero) x' (List.replicate len (zeroV ee)) _ hx' hzero hinit
          have hlen : x'.length = len := by rw [q4]; simp
          have hrun : (execOp a.eval o).run P w = .ok (.value (.slice (some ⟨w.heap.size, 0, none⟩) len len)) (w.alloc (.cells cells' et)) := by
            rw [hex]
            have hn : ¬ (len * ee.size > 2 ^ 24) := by omega
            by_cases h0 : len * ee.size = 0
            · have hinit0 : ((Array.range (len * ee.size)).map ((#[] : Array Value)[· % (#[] : Array Value).size]!)) = ((Array.range (len * ee.size)).map ((zeroV ee).toArray[· % (zeroV ee).toArray.size]!)) := by rw [h0]; simp
              simp only [Instr.buildSlice, Sem.run_bind, run_underlying k1, Result.andThen_ok, sizeOf, typeInfo, run_program, hi, Sem.run_pure, hisz, if_neg hn, if_pos h0, hinit0, hparts, q1, newRow, run_newObj, World.alloc_eq]
            · simp only [Instr.buildSlice, Sem.run_bind, run_underlying k1, Result.andThen_ok, sizeOf, typeInfo, run_program, hi, Sem.run_pure, hisz, if_neg hn, if_neg h0, zeroValue, hiz, hzc, hparts, q1, newRow, run_newObj, World.alloc_eq]
          obtain ⟨g', hg'⟩ := hinv.fresh hd (cells := cells') (et := et) (u := .lst .clip ee x') (v := .slice (some ⟨w.heap.size, 0, none⟩) len len) (fun g' ha hst => by
            have hrep := repV_block (G := g'.G) (heap_alloc_new w (.cells cells' et)) (q2.mono fun p q hpq => Rep.adv ha ee p q hpq) (by rw [q3]; exact List.prefix_refl _) (fun j _ => hst j) (cap := len) (by omega)
            rw [hlen] at hrep
            exact SRel.of0 ⟨hrep, _, _, rfl⟩)
          exact .value hrun ⟨g', hg'⟩
        · exact he.elim
    · exact he.elim
  · exact he.elim

theorem shown_slice_arr {t : TypeId} {x : Operand} {lo hi mx : Option Operand} (hop : o.op = .slice t x lo hi mx) {te : TE} (hte : C.te t = some te) {n : Nat} {ee : Ty} (hty : te.ty = .arr n ee) {lo' hi' mx' : Option Int}
    (h1 : boundS s lo = some lo') (h2 : boundS s hi = some hi') (h3 : boundS s mx = some mx') {id k : Nat} {root : Ty} (hx : s.ev x = .ptr id k root []) {fz : Bool} {y : (Ty.arr n ee).den} (hbox : s.box id k = some (fz, .dat (.arr n ee) y))
    {pre : Bool} {ef : Eff} (hsl : sliceList ee y true lo' hi' mx' = .ok pre ef) (hpre : pre = true) :
    Shown P N F s a w o { ef with hw := [(id, .box k true (.dat (.arr n ee) y))], rd := [id] } := by
  have hxr := hinv.ev x
  rw [hx] at hxr
  obtain ⟨m, fz0, c0, p1, p2, p3, p4⟩ := hxr
  have hl := box_spec hbox
  obtain ⟨g2, j1, j2, j3, j4, j5, j7⟩ := hinv.heap.freeze1 hl
  obtain ⟨cs, et, q1, q2, q3⟩ := j1.box id k true _ (by rw [lookO_cons, if_pos rfl])
  rw [j4] at q1
  obtain ⟨hn, css, hflat, hes⟩ := q2
  have hrep : RepV g2.G w (.slc ee) y (.slice (some ⟨g.ι id k, 0, none⟩) (List.length y) n) :=
    repV_block q1 hes (by rw [hflat]; exact List.prefix_refl _) (fun j _ => j7 j) (by rw [hn]; exact Nat.le_refl _)
  obtain ⟨hnone, b0, b1, b2, b3, u, hu, hur⟩ := sliceList_spec (P := P) (H := (id, .box k true (.dat (.arr n ee) y)) :: s.heap) (whole := true) hrep (fun _ => hn.symm) (ef := ef) (lo := lo') (hi := hi') (mx := mx') (by rw [hsl]; exact ⟨hpre, rfl⟩)
  subst hu
  obtain ⟨et', tee, k1, k2, k3⟩ := T.arr hte hty
  subst k3
  obtain ⟨ie, hie, hiesz, _⟩ := T.info k2
  rw [hn] at b1 b2 hur
  have hb := run_bounds (P := P) (w := w) false n n (boundS_rel hinv h1) (boundS_rel hinv h2) (boundS_rel hinv h3) hnone b0 b1 b2 b3
  have hex : execOp a.eval o = (do pure (.value (← Instr.sliceAt t (a.eval x) (lo.map a.eval) (hi.map a.eval) (mx.map a.eval)))) := by unfold execOp; rw [hop]
  have hrun : (execOp a.eval o).run P w = .ok (.value (.slice (if (mx'.getD (n : Nat)).toNat = (lo'.getD 0).toNat then some ⟨g.ι id k, 0, none⟩ else (some ⟨g.ι id k, 0, none⟩ : Option Addr).map (·.add ((lo'.getD 0).toNat * tee.ty.size)))
      ((hi'.getD (n : Nat)).toNat - (lo'.getD 0).toNat) ((mx'.getD (n : Nat)).toNat - (lo'.getD 0).toNat))) w := by
    rw [hex, p4]
    simp only [Instr.sliceAt, Sem.run_bind, run_underlying k1, Result.andThen_ok, Instr.sureAddr, Sem.run_pure, hb, sizeOf, typeInfo, run_program, hie, hiesz, pathOff]
    split <;> rfl
  refine .value hrun ⟨g2, hinv.app (e := { val := u, hw := [(id, .box k true (.dat (.arr n tee.ty) y))], rd := [id] }) hd j2 hur j1 j3⟩
end
end Go.Vi
