/- Parts of slices and of strings. -/
import Derived.Test.YtagpigbfbhdoiaaViJ
namespace Go.Vi

def OptRel (v : Option Value) (i : Option Int) : Prop := match i with
  | none => v = none
  | some n => ∃ k, v = some (.int k n)

theorem run_bounds {P : Program} {w : World} (isS : Bool) (len cap : Nat) {lo hi mx : Option Value} {lo' hi' mx' : Option Int} (hlo : OptRel lo lo') (hhi : OptRel hi hi') (hmx : OptRel mx mx')
    (hnone : hi' = none → mx' = none) (h0 : 0 ≤ lo'.getD 0) (h1 : lo'.getD 0 ≤ hi'.getD len) (h2 : hi'.getD len ≤ mx'.getD cap) (h3 : mx'.getD cap ≤ cap) :
    (Instr.sliceBounds isS len cap lo hi mx).run P w = .ok ((lo'.getD 0).toNat, (hi'.getD len).toNat, (mx'.getD cap).toNat) w := by
  unfold Instr.sliceBounds
  cases mx' with
  | some m =>
    obtain ⟨km, rfl⟩ := hmx
    cases hi' with
    | none => exact absurd (hnone rfl) (by simp)
    | some h =>
      obtain ⟨kh, rfl⟩ := hhi
      simp only [Option.getD_some] at h1 h2 h3
      cases lo' with
      | none =>
        simp only [OptRel] at hlo
        subst hlo
        simp only [Option.getD_none] at h0 h1
        simp [run_sliceBound w km m cap _ (by omega) h3, run_sliceBound w kh h m.toNat _ h1 (by omega)]
      | some l =>
        obtain ⟨kl, rfl⟩ := hlo
        simp only [Option.getD_some] at h0 h1
        simp [run_sliceBound w km m cap _ (by omega) h3, run_sliceBound w kh h m.toNat _ (by omega) (by omega), run_sliceBound w kl l h.toNat _ h0 (by omega)]
  | none =>
    simp only [OptRel] at hmx
    subst hmx
    simp only [Option.getD_none] at h2 h3
    cases hi' with
    | none =>
      simp only [OptRel] at hhi
      subst hhi
      simp only [Option.getD_none] at h1 h2
      cases lo' with
      | none => simp only [OptRel] at hlo; subst hlo; simp
      | some l =>
        obtain ⟨kl, rfl⟩ := hlo
        simp only [Option.getD_some] at h0 h1
        simp [run_sliceBound w kl l len _ h0 h1]
    | some h =>
      obtain ⟨kh, rfl⟩ := hhi
      simp only [Option.getD_some] at h1 h2
      cases lo' with
      | none =>
        simp only [OptRel] at hlo
        subst hlo
        simp only [Option.getD_none] at h0 h1
        simp [run_sliceBound w kh h cap _ h1 h2]
      | some l =>
        obtain ⟨kl, rfl⟩ := hlo
        simp only [Option.getD_some] at h0 h1
        simp [run_sliceBound w kh h cap _ (by omega) h2, run_sliceBound w kl l h.toNat _ h0 (by omega)]

theorem flatten_drop {n : Nat} : ∀ {css : List (List Value)}, (∀ c ∈ css, c.length = n) → ∀ l, (css.drop l).flatten = css.flatten.drop (l * n)
  | _, _, 0 => by simp
  | [], _, l + 1 => by simp
  | c :: css, h, l + 1 => by
    have hc := h c (by simp)
    rw [List.drop_succ_cons, flatten_drop (fun d hd => h d (by simp [hd])) l, List.flatten_cons, Nat.succ_mul, Nat.add_comm, ← hc, List.drop_append, List.drop_of_length_le (Nat.le_add_right _ _), List.nil_append, Nat.add_sub_cancel_left]
theorem flatten_take {n : Nat} : ∀ {css : List (List Value)}, (∀ c ∈ css, c.length = n) → ∀ l, (css.take l).flatten = css.flatten.take (l * n)
  | _, _, 0 => by simp
  | [], _, l + 1 => by simp
  | c :: css, h, l + 1 => by
    have hc := h c (by simp)
    rw [List.take_succ_cons, List.flatten_cons, flatten_take (fun d hd => h d (by simp [hd])) l, List.flatten_cons, Nat.succ_mul, Nat.add_comm, ← hc, List.take_append, List.take_of_length_le (Nat.le_add_right _ _), Nat.add_sub_cancel_left]

/-- A part of a slice, as a value. -/
theorem RepV.sub {G : Gh} {w : World} {e : Ty} {xs : List e.den} {ao : Option Addr} {cap : Nat} (h : RepV G w (.slc e) xs (.slice ao xs.length cap)) {l k m : Nat} (h1 : l ≤ k) (h2 : k ≤ xs.length) (h3 : k ≤ m) (h4 : m ≤ cap) :
    RepV G w (.slc e) (Vi.sub xs l k) (.slice (if m = l then ao else ao.map (·.add (l * e.size))) (k - l) (m - l)) := by
  have hlen : (Vi.sub xs l k).length = k - l := by simp [Vi.sub]; omega
  obtain ⟨ao', cap', he, hcap, hrow⟩ := RepV.slc h
  cases he
  rw [← hlen]
  by_cases hm : m = l
  · rw [if_pos hm]
    have hnil : Vi.sub xs l k = [] := List.eq_nil_of_length_eq_zero (by omega)
    rw [hnil]
    refine RepV.mk_slc (by simp) ?_
    cases ao with
    | none => show m - l = 0; omega
    | some a => exact ⟨.inr (by omega), [], trivial, fun j v hj => by simp at hj⟩
  · rw [if_neg hm]
    cases ao with
    | none => simp only at hrow; omega
    | some a =>
      obtain ⟨b, off, spot⟩ := a
      obtain ⟨hspot, css, hes, hcells⟩ := hrow
      have hspot : spot = none := hspot.resolve_right (by omega)
      subst hspot
      rw [Option.map_some, Addr.add_lit]
      refine RepV.mk_slc (by omega) ⟨.inl rfl, (css.take k).drop l, (hes.take k).drop l, fun j v hj => ?_⟩
      have hs := hes.sizes
      rw [flatten_drop (fun c hc => hs c (List.mem_of_mem_take hc)), flatten_take hs, List.getElem?_drop, List.getElem?_take] at hj
      split at hj
      · have := hcells _ v hj
        rw [Nat.add_assoc]
        exact this
      · cases hj

section
variable {P : Program} {C : Ctx} (T : Types P C.tab) {N : Nat} {F : Fr} {g : Gs} {s : St} {a : Act} {w : World} (hinv : Inv P N F g s a w) {o : Oper} (hd : dstLt N F o.dst)
include hinv

theorem boundS_rel {x : Option Operand} {i : Option Int} (h : boundS s x = some i) : OptRel (x.map a.eval) i := by
  cases x with
  | none => cases h; rfl
  | some x =>
    have hx := hinv.ev x
    simp only [boundS] at h
    split at h
    · rename_i k n heq
      rw [heq] at hx
      cases h
      exact ⟨k, by rw [Option.map_some, RepV.int hx]⟩
    · cases h

omit hinv in
/-- What a part of a list is, and its bounds. -/
theorem sliceList_spec {H : Heap} {e : Ty} {xs : List e.den} {whole : Bool} {lo hi mx : Option Int} {ao : Option Addr} {cap : Nat} (hr : RepV g.G w (.slc e) xs (.slice ao xs.length cap))
    (hw : whole = true → cap = xs.length) {ef : Eff} (he : (sliceList e xs whole lo hi mx).is ef) :
    (hi = none → mx = none) ∧ 0 ≤ lo.getD 0 ∧ lo.getD 0 ≤ hi.getD (xs.length : Nat) ∧ hi.getD (xs.length : Nat) ≤ mx.getD (cap : Nat) ∧ mx.getD (cap : Nat) ≤ cap ∧
      ∃ u, ef = { val := u } ∧ SRel P H g w u (.slice (if (mx.getD (cap : Nat)).toNat = (lo.getD 0).toNat then ao else ao.map (·.add ((lo.getD 0).toNat * e.size))) ((hi.getD (xs.length : Nat)).toNat - (lo.getD 0).toNat) ((mx.getD (cap : Nat)).toNat - (lo.getD 0).toNat)) := by
  have hcap : xs.length ≤ cap := by obtain ⟨ao', cap', he, hcap, _⟩ := RepV.slc hr; cases he; exact hcap
  unfold sliceList at he
  split at he
  · obtain ⟨hp, rfl⟩ := he
    simp only [Bool.and_eq_true, decide_eq_true_eq] at hp
    simp only [Option.getD_none]
    refine ⟨by simp, hp.1, hp.2, by omega, Int.le_refl _, _, rfl, ?_⟩
    have hs := RepV.sub hr (l := (lo.getD 0).toNat) (k := xs.length) (m := cap) (by omega) (Nat.le_refl _) hcap (Nat.le_refl _)
    have hsub : Vi.sub xs (lo.getD 0).toNat xs.length = xs.drop (lo.getD 0).toNat := by simp [Vi.sub]
    rw [hsub] at hs
    simp only [Int.toNat_natCast]
    cases whole with
    | true =>
      have := hw rfl
      subst this
      exact SRel.of0 ⟨hs, _, _, rfl⟩
    | false => exact SRel.of0 hs
  · rename_i h
    obtain ⟨hp, rfl⟩ := he
    simp only [Bool.and_eq_true, decide_eq_true_eq] at hp
    simp only [Option.getD_none, Option.getD_some]
    refine ⟨fun hh => (by cases hh), hp.1, hp.2.1, by omega, Int.le_refl _, _, rfl, ?_⟩
    have hs := RepV.sub hr (l := (lo.getD 0).toNat) (k := h.toNat) (m := cap) (by omega) (by omega) (by omega) (Nat.le_refl _)
    simp only [Int.toNat_natCast]
    exact SRel.of0 hs
  · rename_i h m
    obtain ⟨hp, rfl⟩ := he
    simp only [Bool.and_eq_true, decide_eq_true_eq] at hp
    obtain ⟨p1, p2, p3, p4⟩ := hp
    subst p3
    simp only [Option.getD_some]
    refine ⟨fun hh => (by cases hh), p1, p2, Int.le_refl _, by omega, _, rfl, ?_⟩
    have hs := RepV.sub hr (l := (lo.getD 0).toNat) (k := h.toNat) (m := h.toNat) (by omega) (by omega) (by omega) (by omega)
    exact SRel.of0 ⟨hs, _, _, rfl⟩
  · exact he.elim

include hd T
theorem shown_slice_list {t : TypeId} {x : Operand} {lo hi mx : Option Operand} (hop : o.op = .slice t x lo hi mx) {te : TE} (hte : C.te t = some te) {e : Ty} (hty : te.ty = .slc e) {lo' hi' mx' : Option Int}
    (h1 : boundS s lo = some lo') (h2 : boundS s hi = some hi') (h3 : boundS s mx = some mx') {xs : List e.den} (hxs : asD (.slc e) (s.ev x) = some xs) {ef : Eff}
    (he : (sliceList e xs (match s.ev x with | .lst .clip _ _ => true | .nil => true | _ => false) lo' hi' mx').is ef) : Shown P N F s a w o ef := by
  have hx := hinv.ev x
  have hr := hx.asD hxs
  obtain ⟨ao, cap, e1, hcap, hrow⟩ := RepV.slc hr
  rw [e1] at hr
  have hwhole : (match s.ev x with | .lst .clip _ _ => true | .nil => true | _ => false) = true → cap = xs.length := by
    intro hw
    split at hw
    · rename_i e' ys heq
      rw [heq] at hx hxs
      obtain ⟨_, ao', n, hv⟩ := hx
      rw [e1] at hv
      cases hv; rfl
    · rename_i heq
      rw [heq] at hx
      have hv : a.eval x = .slice none 0 0 := hx
      rw [e1] at hv
      injection hv with q1 q2 q3
      omega
    · cases hw
  obtain ⟨hn, b0, b1, b2, b3, u, rfl, hu⟩ := sliceList_spec (P := P) (H := s.heap) hr hwhole he
  obtain ⟨et, tee, inf, k1, k2, k3, k4, k5, _⟩ := T.slc hte hty
  have hb := run_bounds (P := P) (w := w) true xs.length cap (boundS_rel hinv h1) (boundS_rel hinv h2) (boundS_rel hinv h3) hn b0 b1 b2 b3
  have hex : execOp a.eval o = (do pure (.value (← Instr.sliceAt t (a.eval x) (lo.map a.eval) (hi.map a.eval) (mx.map a.eval)))) := by unfold execOp; rw [hop]
  refine shown_val hinv hd hex ?_ hu
  rw [e1]
  simp only [Instr.sliceAt, Instr.slice, Sem.run_bind, run_underlying k1, Result.andThen_ok, hb, sizeOf, typeInfo, run_program, k4, Sem.run_pure, k5]

theorem shown_slice_str {t : TypeId} {x : Operand} {lo hi mx : Option Operand} (hop : o.op = .slice t x lo hi mx) {te : TE} (hte : C.te t = some te) (hty : te.ty = .str) {lo' hi' : Option Int}
    (h1 : boundS s lo = some lo') (h2 : boundS s hi = some hi') (h3 : boundS s mx = some none) {b : ByteArray} (hb : asD .str (s.ev x) = some b)
    (hpre : (decide (0 ≤ lo'.getD 0) && (decide (lo'.getD 0 ≤ hi'.getD (ByteArray.size b)) && decide (hi'.getD (ByteArray.size b) ≤ (ByteArray.size b : Int)))) = true) :
    Shown P N F s a w o { val := .dat .str (ByteArray.extract b (lo'.getD 0).toNat (hi'.getD (ByteArray.size b)).toNat) } := by
  have e1 := RepV.str ((hinv.ev x).asD hb)
  simp only [Bool.and_eq_true, decide_eq_true_eq] at hpre
  obtain ⟨p0, p1, p2⟩ := hpre
  have hmx : mx = none := by
    cases mx with
    | none => rfl
    | some m =>
      simp only [boundS] at h3
      split at h3 <;> cases h3
  subst hmx
  have hbd := run_bounds (P := P) (w := w) false b.size b.size (boundS_rel hinv h1) (boundS_rel hinv h2) (mx := none) (mx' := none) rfl (fun _ => rfl) p0 p1 (by simpa using p2) (by simp)
  obtain ⟨dd, hu, hdesc⟩ := T.under hte
  have hdd : dd = .string := by
    cases dd <;> simp [descOk, hty, Ty.beq] at hdesc
    rfl
  subst hdd
  have hex : execOp a.eval o = (do pure (.value (← Instr.sliceAt t (a.eval x) (lo.map a.eval) (hi.map a.eval) none))) := by unfold execOp; rw [hop]; rfl
  refine shown_val hinv hd hex (v := .string (b.extract (lo'.getD 0).toNat (hi'.getD b.size).toNat)) ?_ (SRel.dat (RepV.mk_str _))
  rw [e1]
  simp only [Instr.sliceAt, Instr.slice, Sem.run_bind, run_underlying hu, Result.andThen_ok, hbd, Sem.run_pure, Option.isSome_none, Bool.false_eq_true, if_false]
end
end Go.Vi
