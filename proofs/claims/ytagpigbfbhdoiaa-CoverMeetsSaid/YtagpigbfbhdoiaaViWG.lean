/- Code: what the interpreter computes is what the code does. -/
import Derived.Test.YtagpigbfbhdoiaaViWF
namespace Go.Vi
open Go.RowKit (Below)

theorem keep_keys {s s' : St} {ks : List Nat × List Nat} (h : s.keep ks = some s') : ∀ p ∈ s'.slots, p.1 ∈ ks.1 := by
  intro p hp
  unfold St.keep at h
  split at h
  · simp only [cond_eq_ite] at h
    split at h
    · cases h
      obtain ⟨k, hk, rfl⟩ := List.mem_map.1 hp
      exact hk
    · cases h
  · cases h

theorem exec_sound {P : Program} {R : Type} {em : EmR R} {τ : Nat} {J : R → Gh → World → Prop} {n : Nat} : ∀ (code : Code) {C : Ctx} (_ : CtxOk P C) {F : Fr} (_ : F.pins = C.pins) (_ : EmOk P F τ em J) {s : St} {K : Ex → St → Option R} {Q : Exit → Act → World → Prop} {g : Gs} {a : Act} {w : World} {r : R},
    Inv P C.ntmps F g s a w → J r g.G w → exec em C n code s K = some r →
    (∀ e s' g' a' w' r', Inv P C.ntmps F g' s' a' w' → J r' g'.G w' → K e s' = some r' → Q (toExit e) a' w') → code.wpIn (wr F.rd) 0 P Q a w := by
  intro code
  induction code with
  | skip => intro C hC F hp hE s K Q g a w r hinv hJ h hK; exact wpIn_skip (hK .normal s g a w r hinv hJ h)
  | label l => intro C hC F hp hE s K Q g a w r hinv hJ h hK; exact wpIn_label (hK .normal s g a w r hinv hJ h)
  | region id ops draw =>
    intro C hC F hp hE s K Q g a w r hinv hJ h hK
    exact region_wp hC hp hE h hinv hJ fun sf g' a' w' r' hk hi hj => hK .normal sf g' a' w' r' hi hj hk
  | seq x y ihx ihy =>
    intro C hC F hp hE s K Q g a w r hinv hJ h hK
    refine wpIn_seq (ihx hC hp hE hinv hJ h fun e s' g' a' w' r' hi hj hk => ?_)
    cases e with
    | normal => exact ihy hC hp hE hi hj hk hK
    | exit id => exact hK (.exit id) s' g' a' w' r' hi hj hk
    | ret => exact hK .ret s' g' a' w' r' hi hj hk
  | cond c x y ihx ihy =>
    intro C hC F hp hE s K Q g a w r hinv hJ h hK
    simp only [exec] at h
    split at h
    · rename_i t
      split at h
      · rename_i b hb
        have hs := hinv.slots t
        rw [hb] at hs
        have hv : a.eval (.tmp t) = .bool b := RepV.bool hs
        have refined : ∀ v : Bool, b = v → St.eqv s { s with slots := (t, .dat .bool v) :: s.slots } := by
          intro v hv
          refine ⟨fun t' => ?_, fun _ => rfl⟩
          show _ = look .poison ((t, S.dat .bool v) :: s.slots) t'
          rw [look_cons]
          by_cases e : t = t'
          · rw [if_pos e, ← e, hb, hv]
          · rw [if_neg e]
        cases hbb : (b : Bool) with
        | true =>
          rw [hbb, cond_true] at h
          rw [hbb] at hv
          exact wpIn_cond_true hv (ihx hC hp hE (hinv.eqv (refined true hbb)) hJ h hK)
        | false =>
          rw [hbb, cond_false] at h
          rw [hbb] at hv
          exact wpIn_cond_false hv (ihy hC hp hE (hinv.eqv (refined false hbb)) hJ h hK)
      · cases h
    · rename_i b
      cases b with
      | true => exact wpIn_cond_true rfl (ihx hC hp hE hinv hJ h hK)
      | false => exact wpIn_cond_false rfl (ihy hC hp hE hinv hJ h hK)
    · cases h
  | block id c ih =>
    intro C hC F hp hE s K Q g a w r hinv hJ h hK
    refine wpIn_block (ih hC hp hE hinv hJ h fun e s' g' a' w' r' hi hj hk => ?_)
    cases e with
    | normal => exact hK .normal s' g' a' w' r' hi hj hk
    | ret => exact hK .ret s' g' a' w' r' hi hj hk
    | exit id' =>
      simp only at hk
      show (if id' = id then Q .normal a' w' else Q (.exit id') a' w')
      by_cases e : id' = id
      · rw [e, Nat.beq_refl, cond_true] at hk
        rw [if_pos e]
        exact hK .normal s' g' a' w' r' hi hj hk
      · have : Nat.beq id' id = false := by
          cases hb : Nat.beq id' id with
          | false => rfl
          | true => exact absurd (Nat.eq_of_beq_eq_true hb) e
        rw [this, cond_false] at hk
        rw [if_neg e]
        exact hK (.exit id') s' g' a' w' r' hi hj hk
  | loop c ih =>
    intro C hC F hp hE s K Q g a w r hinv hJ h hK
    simp only [exec] at h
    split at h
    · rename_i s0 hs0
      obtain ⟨g0, hg0, hinv0⟩ := hinv.keep hs0
      have key : ∀ (m : Nat) (s : St) (g : Gs) (a : Act) (w : World) (r : R), Inv P C.ntmps F g s a w → J r g.G w → iter (fun s K => exec em C n c s K) (fun s => s.keep (C.keep (headOf c))) K m s = some r → Code.roundsIn (wr F.rd) 0 P c Q m a w := by
        intro m
        induction m with
        | zero => intro s g a w r _ _ h; cases h
        | succ m ihm =>
          intro s g a w r hinv hJ h
          rw [roundsIn_succ]
          refine ih hC hp hE hinv hJ h fun e s' g' a' w' r' hi hj hk => ?_
          cases e with
          | normal =>
            simp only at hk
            split at hk
            · rename_i s'' hs''
              obtain ⟨g'', hg'', hi''⟩ := hi.keep hs''
              exact ihm s'' g'' a' w' r' hi'' (by rw [hg'']; exact hj) hk
            · cases hk
          | exit id => exact hK (.exit id) s' g' a' w' r' hi hj hk
          | ret => exact hK .ret s' g' a' w' r' hi hj hk
      exact wpIn_loop_rounds n (key n s0 g0 a w r hinv0 (by rw [hg0]; exact hJ) h)
    · cases h
  | scope c ih =>
    intro C hC F hp hE s K Q g a w r hinv hJ h hK
    refine wpIn_scope (ih hC hp hE hinv hJ h fun e s' g' a' w' r' hi hj hk => ?_)
    have := hK e s' g' a' w' r' hi hj hk
    cases e <;> exact this
  | rangeFunc f ps assign body iha ihb =>
    intro C hC F hp hE s K Q g a w r hinv hJ h hK
    simp only [exec] at h
    split at h
    · rename_i es xs hf
      split at h
      · rename_i s0 hs0
        cases hb : ps.toList.all (fun p => Nat.blt p C.ntmps && !mem p (C.keep (headR assign body)).1) && nodup ps.toList with
        | false => rw [hb] at h; cases h
        | true =>
          rw [hb, cond_true] at h
          simp only [Bool.and_eq_true, List.all_eq_true, Bool.not_eq_true'] at hb
          obtain ⟨hb1, hnd⟩ := hb
          have hentry : Inv P C.ntmps F g { slots := entrySlots s (C.keep (headR assign body)).1, heap := s.heap } a w := hinv.onSlots fun t u hl => by
            obtain ⟨_, rfl⟩ := lookO_keys (fun k => noTip (look .poison s.slots k)) _ t u hl
            exact (hinv.slots t).noTip
          obtain ⟨g0, hg0, hinv0⟩ := hentry.keep hs0
          have hs0keys := keep_keys hs0
          have hbase0 : ∀ t u, (t, u) ∈ baseSlots s0 → ∃ v, (t, v) ∈ s0.slots ∧ u = noTip v := by
            intro t u hm
            obtain ⟨p, hp, e⟩ := List.mem_map.1 hm
            cases e
            exact ⟨p.2, hp, rfl⟩
          have hinvb : Inv P C.ntmps F g0 { slots := baseSlots s0, heap := s0.heap } a w := hinv0.onSlots fun t u hl => by
            have hl' : ∀ (l : List (Nat × S)), lookO (l.map fun p => (p.1, noTip p.2)) t = some u → ∃ v, lookO l t = some v ∧ u = noTip v := by
              intro l
              induction l with
              | nil => intro h; cases h
              | cons p l ih =>
                obtain ⟨k, v⟩ := p
                intro h
                rw [List.map_cons, lookO_cons] at h
                rw [lookO_cons]
                by_cases e : k = t
                · rw [if_pos e] at h ⊢
                  cases h
                  exact ⟨v, rfl, rfl⟩
                · rw [if_neg e] at h ⊢
                  exact ih h
            obtain ⟨v, hv, rfl⟩ := hl' _ hl
            have := hinv0.slots t
            rw [look_lookO, hv] at this
            exact this.noTip
          have hseq : SeqRel P g0.G w es xs (a.eval f) := by
            have := hinv.ev f
            rw [hf] at this
            rw [hg0]
            exact this
          refine rangeFunc_sound (base := baseSlots s0) (ks := C.keep (headR assign body)) hE (fun t u hm => ?_) (fun p hp => by simpa using (hb1 p hp).1) hnd (fun p hp hk => ?_) ?_ ?_ hinvb (by rw [hg0]; exact hJ) hseq h hK
          · obtain ⟨v, _, rfl⟩ := hbase0 t u hm
            rcases noTip_plain v with h1 | ⟨id, n, root, π, h1, _⟩
            · exact .inl h1
            · exact .inr ⟨id, n, root, π, h1⟩
          · obtain ⟨q, hq, e⟩ := List.mem_map.1 hk
            obtain ⟨q', hq', e'⟩ := List.mem_map.1 hq
            have h1 := hs0keys q' hq'
            have h2 := (hb1 p hp).2
            have : p = q'.1 := by rw [← e, ← e']
            rw [this, mem_iff.2 h1] at h2
            cases h2
          · -- one round
            intro x F1 l rc O g1 h1 lps tm W K' r' Q' hrd hobjs hO hpins hE1 hst hi1 hj1 hlps hbody hK'
            simp only [hlps] at hbody
            have hC1 : CtxOk P { C with pins := ptrSlots (baseSlots s0) } := ⟨hC.types, hC.fts, hC.pts, hC.fns, hC.cls, hC.sqs, hC.ems, hC.mixed⟩
            have e1 : wr (some l) = wr F1.rd := by rw [hrd]
            rw [e1]
            refine iha hC1 (F := F1) hpins hE1 hi1 hj1 hbody fun e s' g' a' w' r'' hi hj hk => ?_
            cases e with
            | exit id => cases hk
            | ret => cases hk
            | normal =>
              simp only at hk
              have hl := hi.objs l (.loop rc) (by rw [hobjs]; exact List.mem_cons_self)
              refine ⟨_, run_beginRound hl.1 hst, ?_⟩
              have hi2 := Inv.putObj (O := []) (O' := (l, .loop { rc with state := .busy }) :: O) (ds := a'.defers) (o' := .loop { rc with state := .busy }) hi hl.1 rfl hl.2.2 (by
                obtain ⟨OM, om1, om2, om3⟩ := hi.defers.lt
                refine om3 _ _ fun l' o ho => ?_
                obtain ⟨q1, q2, q3⟩ := om2 l' o ho
                have hne : l' ≠ l := by
                  intro e0
                  have h2 := om1 _ ho
                  simp only at h2
                  rw [h2, e0, hl.1] at q1
                  cases q1
                exact ⟨by rw [World.putObj_heap_other hne]; exact q1, q2, q3⟩) (fun l' o ho => by
                rcases List.mem_cons.1 ho with ho | ho
                · cases ho
                  exact ⟨World.putObj_heap_same (Array.getElem?_eq_some_iff.1 hl.1).1, rfl, hl.2.2⟩
                · obtain ⟨q1, q2, q3⟩ := hi.objs l' o (by rw [hobjs]; exact List.mem_cons_of_mem _ ho)
                  exact ⟨by rw [World.putObj_heap_other (hO _ ho)]; exact q1, q2, q3⟩) (fun l' hl' => by
                rw [hrd] at hl'
                cases hl'
                exact ⟨_, List.mem_cons_self⟩)
              have hE2 : EmOk P { F1 with objs := (l, .loop { rc with state := .busy }) :: O } τ em J := ⟨hE1.lt, hE1.ab, hE1.y⟩
              have hj2 : J r'' g'.G (w'.putObj l (.loop { rc with state := .busy })) := hE1.ab _ _ _ _ _ hj (Kp.putObj hl.1 rfl (fun hu => by
                rw [hl.2.2] at hu
                have hu : F1.m ≤ τ := hu
                have := hE1.lt
                omega))
              exact ihb hC1 (F := { F1 with objs := (l, .loop { rc with state := .busy }) :: O }) hpins hE2 hi2 hj2 hk hK'
          · intro x s K r h
            cases hps : parSlots ps.toList es x with
            | none => rw [hps] at h; cases h
            | some l => exact ⟨l, rfl⟩
      · cases h
    · cases h
  | exit id => intro C hC F hp hE s K Q g a w r hinv hJ h hK; exact wpIn_exit (hK (.exit id) s g a w r hinv hJ h)
  | ret => intro C hC F hp hE s K Q g a w r hinv hJ h hK; exact wpIn_ret (hK .ret s g a w r hinv hJ h)
  | _ => intro C hC F hp hE s K Q g a w r hinv hJ h hK; cases h
end Go.Vi
