/- An operation sees its operands, and of the heap the rows that it names. -/
import Derived.Test.YtagpigbfbhdoiaaViS
namespace Go.Vi

/-- Two states read alike. -/
def St.eqv (s s' : St) : Prop := (∀ t, look .poison s.slots t = look .poison s'.slots t) ∧ ∀ id, lookO s.heap id = lookO s'.heap id
theorem St.eqv.refl (s : St) : s.eqv s := ⟨fun _ => rfl, fun _ => rfl⟩
theorem St.eqv.symm {s s' : St} (h : s.eqv s') : s'.eqv s := ⟨fun t => (h.1 t).symm, fun id => (h.2 id).symm⟩
theorem St.eqv.trans {s s' s'' : St} (h : s.eqv s') (k : s'.eqv s'') : s.eqv s'' := ⟨fun t => (h.1 t).trans (k.1 t), fun id => (h.2 id).trans (k.2 id)⟩

theorem ev_eq {s s' : St} (h : ∀ t, look .poison s.slots t = look .poison s'.slots t) (x : Operand) : s.ev x = s'.ev x := by
  cases x with
  | tmp t => exact h t
  | _ => rfl

theorem box_eq {s s' : St} {id : Nat} (h : lookO s.heap id = lookO s'.heap id) (n : Nat) : s.box id n = s'.box id n := by unfold St.box; rw [h]
theorem nextBox_eq {s s' : St} {id : Nat} (h : lookO s.heap id = lookO s'.heap id) : nextBox s id = nextBox s' id := by unfold nextBox; rw [h]
theorem nextTok_eq {s s' : St} {id : Nat} (h : lookO s.heap id = lookO s'.heap id) : nextTok s id = nextTok s' id := by unfold nextTok; rw [h]

theorem boundS_eq {s s' : St} (x : Option Operand) (h : ∀ y, x = some y → s.ev y = s'.ev y) : boundS s x = boundS s' x := by
  cases x with
  | none => rfl
  | some y => simp only [boundS, h y rfl]

theorem map_ev {s s' : St} {l : List Operand} (h : ∀ x ∈ l, s.ev x = s'.ev x) : l.map s.ev = l.map s'.ev := List.map_congr_left h
theorem map_parts {s s' : St} {l : List (Nat × Operand)} (h : ∀ p ∈ l, s.ev p.2 = s'.ev p.2) : (l.map fun (i, x) => (i, s.ev x)) = (l.map fun (i, x) => (i, s'.ev x)) :=
  List.map_congr_left fun p hp => by simp only [h p hp]

theorem freeze_eq {s s' : St} : ∀ (l : List S) {us : List S} {hw : List (Nat × HC)} {rd : List Nat}, freeze s l = some (us, hw, rd) → (∀ id ∈ rd, lookO s.heap id = lookO s'.heap id) → freeze s' l = some (us, hw, rd)
  | [], _, _, _, h, _ => h
  | u :: l, us, hw, rd, h, hh => by
    unfold freeze at h ⊢
    split at h
    · cases ‹u :: l = []›
    · rename_i id n root l' heq
      cases heq
      split at h
      · rename_i fz σ x hbox
        cases hb : σ.beq root with
        | false => rw [hb] at h; cases h
        | true =>
          rw [hb, cond_true, Option.map_eq_some_iff] at h
          obtain ⟨⟨a, b, c⟩, hf, hres⟩ := h
          cases hres
          have hid : s'.box id n = some (fz, .dat σ x) := by rw [← box_eq (hh id (by simp)) n]; exact hbox
          simp only [hid, hb, cond_true]
          rw [freeze_eq _ hf (fun id' h' => hh id' (List.mem_cons_of_mem _ h'))]
          rfl
      · rename_i fz g e x hbox
        rw [Option.map_eq_some_iff] at h
        obtain ⟨⟨a, b, c⟩, hf, hres⟩ := h
        cases hres
        have hid : s'.box id n = some (fz, .lst g e x) := by rw [← box_eq (hh id (by simp)) n]; exact hbox
        simp only [hid]
        rw [freeze_eq _ hf (fun id' h' => hh id' (List.mem_cons_of_mem _ h'))]
        rfl
      · cases h
      · cases h
    · rename_i u' l' hne heq
      cases heq
      rw [Option.map_eq_some_iff] at h
      obtain ⟨⟨a, b, c⟩, hf, hres⟩ := h
      cases hres
      rw [freeze_eq (s' := s') l hf hh]; rfl

theorem cond_is {b : Bool} {x : Out} {e : Eff} {p : Prop} (h : (bif b then x else .fail).is e) (hp : x.is e → p) : p := by
  cases b
  · exact h.elim
  · exact hp h

theorem callM_local {C : Ctx} {s s' : St} {em : Em} {xs : List S} {e : Eff} (h : (callM C s em xs).is e) (hh : ∀ id ∈ e.rd, lookO s.heap id = lookO s'.heap id) : (callM C s' em xs).is e := by
  unfold callM at h ⊢
  split at h
  · rename_i id n root π us
    have hid : id ∈ e.rd := by
      split at h
      · split at h
        · split at h
          · refine cond_is h fun h => ?_
            obtain ⟨q, hq, hm⟩ := h
            obtain ⟨d, _, rfl⟩ := Option.map_eq_some_iff.1 hm
            simp
          · exact h.elim
        · exact h.elim
      · exact h.elim
    simp only [← box_eq (hh id hid) n]
    exact h
  · exact h.elim

/-- What an operation comes to hangs on its operands, and on the rows of the heap that it says. -/
theorem evalOp_local {C : Ctx} {o : Oper} {s s' : St} {e : Eff} (h : (evalOp C o s).is e) (hev : ∀ x ∈ o.op.operands, s.ev x = s'.ev x) (hh : ∀ id ∈ e.rd, lookO s.heap id = lookO s'.heap id) : (evalOp C o s').is e := by
  obtain ⟨dst, op, type, pos, after, guard⟩ := o
  cases op <;> simp only [Op.operands] at hev <;> simp only [evalOp] at h ⊢ <;> try (exact h.elim)
  case move x => rw [← hev x (by simp)]; exact h
  case assign x => rw [← hev x (by simp)]; exact h
  case pick c x y => rw [← hev c (by simp), ← hev x (by simp), ← hev y (by simp)]; exact h
  case alloc t =>
    cases dst with
    | none => exact h.elim
    | some d =>
      cases hte : C.te t with
      | none => rw [hte] at h; exact h.elim
      | some te =>
        rw [hte] at h
        simp only at h ⊢
        cases hn : nextBox s d with
        | none => rw [hn] at h; exact h.elim
        | some n =>
          rw [hn] at h
          obtain ⟨h1, rfl⟩ := h
          rw [← nextBox_eq (hh d (by simp)), hn]
          exact ⟨rfl, rfl⟩
  case box t x =>
    rw [← hev x (by simp)]
    cases dst with
    | none => exact h.elim
    | some d =>
      simp only at h ⊢
      cases hn : nextBox s d with
      | none => rw [hn] at h; exact h.elim
      | some n =>
        rw [hn] at h
        have hd : d ∈ e.rd := by
          split at h
          · rename_i n' _ heq
            split at h
            · split at h
              · obtain ⟨_, rfl⟩ := h; simp
              · exact h.elim
            · split at h
              · obtain ⟨_, rfl⟩ := h; simp
              · obtain ⟨_, rfl⟩ := h; simp
              · obtain ⟨_, rfl⟩ := h; simp
              · obtain ⟨_, rfl⟩ := h; simp
              · exact h.elim
          · exact h.elim
        rw [← nextBox_eq (hh d hd), hn]
        exact h
  case build t ps => rw [← map_parts (s := s) fun p hp => hev p.2 (by simp only [List.mem_toArray, List.mem_map]; exact ⟨p, hp, rfl⟩)]; exact h
  case buildSlice t n ps => rw [← map_parts (s := s) fun p hp => hev p.2 (by simp only [List.mem_toArray, List.mem_map]; exact ⟨p, hp, rfl⟩)]; exact h
  case load t x =>
    rw [← hev x (by simp)]
    unfold loadS at h ⊢
    split at h
    · rename_i id n root π heq
      have hid : id ∈ e.rd := by
        split at h
        · split at h
          · rename_i τ y _
            cases hb : tyIs C t τ && _ with
            | false => rw [hb] at h; exact h.elim
            | true => rw [hb] at h; obtain ⟨_, rfl⟩ := h; simp
          · exact h.elim
        · split at h
          · rename_i ee x _
            cases hb : tyIs C t (.slc _) with
            | false => rw [hb] at h; exact h.elim
            | true => rw [hb] at h; obtain ⟨_, rfl⟩ := h; simp
          · exact h.elim
        · split at h
          · cases hb : mem t C.fts with
            | false => rw [hb] at h; exact h.elim
            | true => rw [hb] at h; obtain ⟨_, rfl⟩ := h; simp
          · exact h.elim
        · split at h
          · cases hb : mem t C.pts with
            | false => rw [hb] at h; exact h.elim
            | true => rw [hb] at h; obtain ⟨_, rfl⟩ := h; simp
          · exact h.elim
        · split at h
          · cases hb : mem t C.fts with
            | false => rw [hb] at h; exact h.elim
            | true => rw [hb] at h; obtain ⟨_, rfl⟩ := h; simp
          · exact h.elim
        · split at h
          · cases hb : mem t C.fts with
            | false => rw [hb] at h; exact h.elim
            | true => rw [hb] at h; obtain ⟨_, rfl⟩ := h; simp
          · exact h.elim
        · exact h.elim
      simp only [← box_eq (hh id hid) n]
      exact h
    · exact h
    · exact h.elim
  case store t x y =>
    rw [← hev x (by simp), ← hev y (by simp)]
    unfold storeS at h ⊢
    split at h
    · rename_i id n root π heq
      have hid : id ∈ e.rd := by
        split at h
        · split at h
          · split at h
            · split at h
              · split at h
                · exact cond_is h fun h => by obtain ⟨_, rfl⟩ := h; simp
                · exact h.elim
              · exact h.elim
            · exact h.elim
          · exact h.elim
        · split at h
          · rename_i ee _ _
            cases hb : tyIs C t (.slc _) with
            | false => rw [hb] at h; exact h.elim
            | true =>
              rw [hb, cond_true] at h
              split at h
              · obtain ⟨_, rfl⟩ := h; simp
              · exact h.elim
          · exact h.elim
        · exact h.elim
      simp only [← box_eq (hh id hid) n]
      exact h
    · exact h.elim
  case nilCheck x => rw [← hev x (by simp)]; exact h
  case binOp op t x y yt => rw [← hev x (by simp), ← hev y (by simp)]; exact h
  case unOp op t x => rw [← hev x (by simp)]; exact h
  case convert src dst x => rw [← hev x (by simp)]; exact h
  case makeFunc f first caps =>
    rw [← map_ev (s := s) (l := first.toList) fun x hx => hev x (by simp at hx; simp [hx]), ← map_ev (s := s) (l := caps.toList) fun x hx => hev x (by simp at hx; simp [hx])]
    unfold makeFuncS at h ⊢
    split at h
    · split at h
      · rename_i cl hcl
        split at h
        · rename_i vs hw rd hfirst hfr
          split at h
          · rename_i cs hcs
            obtain ⟨_, rfl⟩ := h
            simp only [freeze_eq _ hfr hh, hfirst, hcs]
            exact ⟨rfl, rfl⟩
          · exact h.elim
        · exact h.elim
      · rename_i hcl
        split at h
        · rename_i sq vs hw rd hsq hfr
          split at h
          · rename_i fs cs hfs hcs
            obtain ⟨r, hr, rfl⟩ := h
            simp only [freeze_eq _ hfr hh, hsq, hfs, hcs]
            exact ⟨r, hr, rfl⟩
          · exact h.elim
        · exact h.elim
    · exact h.elim
  case slice t x lo hi mx =>
    have hx : s.ev x = s'.ev x := hev x (by simp)
    have hlo := boundS_eq (s := s) (s' := s') lo (fun y hy => hev y (by subst hy; simp))
    have hhi := boundS_eq (s := s) (s' := s') hi (fun y hy => hev y (by subst hy; simp))
    have hmx := boundS_eq (s := s) (s' := s') mx (fun y hy => hev y (by subst hy; simp))
    unfold sliceS at h ⊢
    rw [← hlo, ← hhi, ← hmx, ← hx]
    split at h
    · rename_i lo' hi' mx' te h1 h2 h3 hte
      (try simp only [h1, h2, h3, hte])
      split at h
      · exact h
      · rename_i n ee hty
        split at h
        · rename_i id k root hxx
          have hid : id ∈ e.rd := by
            split at h
            · split at h
              · cases hb : Ty.beq _ root with
                | false => rw [hb] at h; exact h.elim
                | true =>
                  rw [hb, cond_true] at h
                  split at h
                  · obtain ⟨_, rfl⟩ := h; simp
                  · exact h.elim
              · exact h.elim
            · exact h.elim
          simp only [← box_eq (hh id hid) k]
          exact h
        · exact h.elim
      · exact h
      · exact h.elim
    · exact h.elim
  case fieldAddr t x f => rw [← hev x (by simp)]; exact h
  case field t x f => rw [← hev x (by simp)]; exact h
  case indexAddr t x i => rw [← hev x (by simp), ← hev i (by simp)]; exact h
  case index t x i => rw [← hev x (by simp), ← hev i (by simp)]; exact h
  case extract x i => rw [← hev x (by simp)]; exact h
  case call c =>
    obtain ⟨callee, args, ts⟩ := c
    simp only [Call.operands] at hev
    cases callee with
    | invoke recv name => exact h.elim
    | value f =>
      have ha : args.toList.map s.ev = args.toList.map s'.ev := map_ev fun x hx => hev x (by simp at hx; simp [hx])
      simp only at h ⊢
      rw [← ha, ← hev f (by simp)]
      unfold callS at h ⊢
      split at h
      · split at h
        · rename_i en hen
          split at h
          · rename_i xs tk hxs htk
            have htk' : resTok s' dst en.rs = some tk := by
              obtain ⟨r, hr, rfl⟩ := h
              unfold resTok at htk ⊢
              cases hany : en.rs.any RTy.isFresh with
              | false => rw [hany] at htk; exact htk
              | true =>
                rw [hany, cond_true] at htk
                rw [cond_true]
                split at htk
                · rename_i d
                  cases hn : nextTok s (tokId d) with
                  | none => rw [hn] at htk; cases htk
                  | some n =>
                    rw [hn] at htk
                    cases htk
                    rw [← nextTok_eq (hh (tokId d) (by simp [resEff])), hn]
                · exact htk
            simp only [hxs, htk']
            exact h
          · exact h.elim
        · split at h
          · rename_i em hem
            exact callM_local h hh
          · exact h.elim
      · exact h
      · exact h
      · exact h
    | builtin b =>
      have ha : args.toList.map s.ev = args.toList.map s'.ev := map_ev fun x hx => hev x (by simp at hx; simp [hx])
      cases b <;> simp only at h ⊢ <;> try (exact h.elim)
      case len =>
        split at h
        · rename_i t x hts hargs
          have hx : s.ev x = s'.ev x := hev x (by
            have : x ∈ args.toList := by rw [hargs]; simp
            simp at this; simp [this])
          simp only [← hx]
          exact h
        · exact h.elim
      case min => rw [← ha]; exact h
      case max => rw [← ha]; exact h
      case append =>
        rw [← ha]
        unfold appendS at h ⊢
        split at h
        · rename_i d t t' x y hts hxs
          (try simp only [hts, hxs])
          split at h
          · rename_i te hte
            (try simp only [hte])
            split at h
            · rename_i ee hty
              (try simp only [hty])
              split at h
              · rename_i hw rd xs ys n htip hxs' hys' hn
                cases hb : Nat.beq t t' && (Nat.ble 1 ee.size && (Nat.ble 1 te.bytes && (lookO hw (tokId d)).isNone)) with
                | false => rw [hb] at h; exact h.elim
                | true =>
                  rw [hb, cond_true] at h
                  have hrd : ∀ id ∈ tokId d :: rd, lookO s.heap id = lookO s'.heap id := by
                    obtain ⟨_, rfl⟩ := h
                    exact hh
                  have htip' : tipOf s' x = some (hw, rd) := by
                    unfold tipOf at htip ⊢
                    split at htip
                    · exact htip
                    · exact htip
                    · rename_i T k e' xs''
                      split at htip
                      · rename_i m hl
                        cases hbb : Nat.beq m k with
                        | false => rw [hbb] at htip; cases htip
                        | true =>
                          rw [hbb] at htip
                          cases htip
                          rw [← hrd T (by simp), hl]
                          simp only [hbb, cond_true]
                      · cases htip
                    · cases htip
                  simp only [htip', hxs', hys', ← nextTok_eq (hrd (tokId d) (by simp)), hn, hb, cond_true]
                  exact h
              · exact h.elim
            · exact h.elim
          · exact h.elim
        · exact h.elim
end Go.Vi
