/- Code and functions: what the interpreter computes is what the call returns. -/
import Derived.Test.YtpiboooclejjcaaViV
namespace Go.Vi
open Go.RowKit (Below)

theorem tokId_inj {a b : Nat} (h : tokId a = tokId b) : a = b := by unfold tokId at h; omega

/-- At a loop's head. -/
theorem Inv.keep {P : Program} {N : Nat} {G0 : Gh} {w0 : World} {g : Gs} {s s' : St} {a : Act} {w : World} (hinv : Inv P N G0 w0 g s a w) {ks : List Nat × List Nat} (h : s.keep ks = some s') : ∃ g', Inv P N G0 w0 g' s' a w := by
  unfold St.keep at h
  split at h
  · rename_i ka kb kh hks hkh
    cases hb : ka.all (ptrIn ks.2) && ks.2.all (fun k => Nat.blt k 100000) with
    | false => rw [hb] at h; cases h
    | true =>
      rw [hb, cond_true] at h
      cases h
      simp only [Bool.and_eq_true, List.all_eq_true] at hb
      obtain ⟨hptr, hids⟩ := hb
      obtain ⟨s1, s2, s3, s4, s5⟩ := keepSlots_spec s ks.1 [] ka kb hks
      obtain ⟨t1, t2⟩ := keepHeap_spec s ks.2 kh hkh
      have hidlt : ∀ id ∈ ks.2, id < 100000 := fun id hid => by simpa using hids id hid
      -- the rows of the new heap
      have lookBox : ∀ id ∈ ks.2, lookO (kb ++ kh) id = lookO kh id := by
        intro id hid
        rw [lookO_append]
        cases hl : lookO kb id with
        | none => rfl
        | some hc =>
          obtain ⟨k, _, h2, _⟩ := s2 id hc hl
          have := hidlt id hid
          unfold tokId at h2
          omega
      have boxIn : ∀ id n fz c, lookO (kb ++ kh) id = some (.box n fz c) → id ∈ ks.2 ∧ n = 0 ∧ ∃ m c0, lookO s.heap id = some (.box m fz c0) ∧ (c = c0 ∨ ∃ k e x, c0 = .lst k e x ∧ c = .dat (.slc e) x) := by
        intro id n fz c hl
        rw [lookO_append] at hl
        cases hlb : lookO kb id with
        | some hc =>
          obtain ⟨k, _, _, h3, _⟩ := s2 id hc hlb
          rw [hlb, h3] at hl
          cases hl
        | none =>
          rw [hlb, Option.none_or] at hl
          obtain ⟨q1, m, fz', c0, c', q2, q3, q4⟩ := t1 id _ hl
          cases q2
          exact ⟨q1, rfl, m, c0, q3, q4⟩
      have tokIn : ∀ T n, lookO (kb ++ kh) T = some (.tok n) → ∃ k ∈ ks.1, T = tokId k ∧ n = 0 ∧ ∃ e x, keepTag s k (look .poison s.slots k) = .lst (.tip (tokId k) 0) e x := by
        intro T n hl
        rw [lookO_append] at hl
        cases hlb : lookO kb T with
        | some hc =>
          obtain ⟨k, h1, h2, h3, h4⟩ := s2 T hc hlb
          rw [hlb, h3] at hl
          cases hl
          exact ⟨k, h1, h2, rfl, h4⟩
        | none =>
          rw [hlb, Option.none_or] at hl
          obtain ⟨q1, m, fz', c0, c', q2, q3, q4⟩ := t1 T _ hl
          cases q2
      -- the number of a variable
      let cur : Nat → Nat := fun id => match lookO s.heap id with | some (.box m _ _) => m | _ => 0
      have hcur : ∀ id m fz c, lookO s.heap id = some (.box m fz c) → cur id = m := fun id m fz c hl => by simp [cur, hl]
      let esz : S → Nat := fun v => match v with | .lst _ e _ => e.size | _ => 0
      let g' : Gs := ⟨g.G, fun id _ => g.ι id (cur id), fun T => (a.tmps.getD (T - 100000) undef, esz (look .poison s.slots (T - 100000)))⟩
      have hov : ∀ k, g'.ov (tokId k) = (a.tmps.getD k undef, esz (look .poison s.slots k)) := fun k => by simp [g', tokId]
      have dat0 : ∀ {u : S} {v : Value}, SRel0 P s.heap g w u v → (∀ τ x, u = .dat τ x → SRel0 P (kb ++ kh) g' w (.dat τ x) v) := fun hu τ x e => by subst e; exact hu
      -- slots
      have hslots : ∀ t, SRel P (kb ++ kh) g' w (look .poison ka t) (a.tmps.getD t undef) := by
        intro t
        rw [look_lookO]
        cases hl : lookO ka t with
        | none => exact SRel.of0 (s := .poison) trivial
        | some v =>
          obtain ⟨ht, hv⟩ := s1 t v hl
          have hmem := hptr _ (lookO_mem hl)
          have hold := hinv.slots t
          simp only [Option.getD_some]
          rw [hv]
          rw [hv] at hmem
          unfold ptrIn at hmem
          have htok := s3 t ht
          generalize hu : look .poison s.slots t = u at *
          unfold keepTag at hmem htok ⊢
          split
          · rename_i e x
            obtain ⟨hr, ao, n, hn⟩ := hold
            refine SRel.of0 ⟨hr, 0, ?_, Nat.le_refl _, fun _ => ?_⟩
            · rw [lookO_append, htok ⟨e, x, rfl⟩]; rfl
            · rw [hov, hu]
          · rename_i T n e x
            obtain ⟨hr, m, hm, hle, hovT⟩ := hold
            simp only [hm] at htok ⊢
            cases hb : Nat.beq m n with
            | true =>
              rw [hb] at htok
              refine SRel.of0 ⟨hr, 0, ?_, Nat.le_refl _, fun _ => ?_⟩
              · rw [lookO_append, htok ⟨e, x, rfl⟩]; rfl
              · rw [hov, hu]
            | false => exact SRel.of0 hr
          · rename_i id n root π
            split
            · rename_i p hbox
              obtain ⟨m, fz, c, h1, h2, h3, h4⟩ := hold
              obtain ⟨fz', c'⟩ := p
              have hb2 := box_spec hbox
              simp only [hbox] at hmem
              have hid := mem_iff.1 hmem
              obtain ⟨hc, hhc⟩ := t2 id hid
              obtain ⟨_, m', fz'', c0, c1, q2, q3, q4⟩ := t1 id hc hhc
              subst q2
              refine SRel.of0 ⟨0, fz'', c1, by rw [lookBox id hid]; exact hhc, Nat.le_refl _, h3, ?_⟩
              rw [h4]
              have : g'.ι id 0 = g.ι id n := by simp only [g']; rw [hcur id n fz' c' hb2]
              rw [this]
            · exact SRel.of0 (s := .poison) trivial
          · exact SRel.of0 (s := .poison) trivial
          · rename_i hn1 hn2 hn3 hn4
            cases u with
            | lst k e x => cases k with
              | clip => exact absurd rfl (hn1 _ _)
              | nn => exact hold
              | tip T n => exact absurd rfl (hn2 _ _ _ _)
            | ptr id n root π => exact absurd rfl (hn3 _ _ _ _)
            | tup l => exact absurd rfl (hn4 _)
            | dat τ x => exact hold
            | cptr τ x => exact hold
            | fn ps rs f => exact hold
            | fref f => exact hold
            | nil => exact hold
            | nilf => exact hold
            | gone => exact hold
            | poison => exact hold
      -- the slice of a right
      have htip : ∀ k ∈ ks.1, (∃ e x, keepTag s k (look .poison s.slots k) = .lst (.tip (tokId k) 0) e x) → (∃ ao n, a.tmps.getD k undef = .slice ao n n) ∨
          ∃ T n e x m, look .poison s.slots k = .lst (.tip T n) e x ∧ lookO s.heap T = some (.tok m) ∧ g.ov T = (a.tmps.getD k undef, e.size) ∧ T ∈ tokOf s (look .poison s.slots k) := by
        intro k hk hex
        have hold := hinv.slots k
        obtain ⟨e0, x0, hex⟩ := hex
        generalize hu : look .poison s.slots k = u at *
        unfold keepTag at hex
        split at hex
        · obtain ⟨hr, ao, n, hn⟩ := hold
          exact .inl ⟨ao, n, hn⟩
        · rename_i T n e x
          obtain ⟨hr, m, hm, hle, hovT⟩ := hold
          simp only [hm] at hex
          cases hb : Nat.beq m n with
          | true =>
            have hmn := Nat.eq_of_beq_eq_true hb
            refine .inr ⟨T, n, e, x, m, rfl, hm, hovT hmn, ?_⟩
            simp [tokOf, hm, hb]
          | false => rw [hb] at hex; cases hex
        · split at hex <;> cases hex
        · cases hex
        · rename_i hn1 hn2 hn3 hn4
          exact absurd hex (hn2 _ _ _ _)
      refine ⟨g', hslots, hinv.size, hinv.defers, ⟨?_, ?_, ?_, ?_⟩, hinv.fwd⟩
      · intro id n fz c hl
        obtain ⟨hid, rfl, m, c0, h1, h2⟩ := boxIn id n fz c hl
        obtain ⟨cs, et, q1, q2, q3, q4⟩ := hinv.heap.box id m fz c0 h1
        have hιeq : g'.ι id 0 = g.ι id m := by simp only [g']; rw [hcur id m fz c0 h1]
        refine ⟨cs, et, by rw [hιeq]; exact q1, ?_, by rw [hιeq]; exact q3, by rw [hιeq]; exact q4⟩
        rcases h2 with rfl | ⟨k, e, x, rfl, rfl⟩
        · cases c with
          | dat τ x => exact q2
          | fn ps rs f => exact q2
          | lst k e x =>
            -- a list's content is data by then
            exfalso
            have hhl := hl
            rw [lookBox id hid] at hhl
            obtain ⟨_, m', fz'', c0, c1, r2, r3, r4⟩ := t1 id _ hhl
            cases r2
            have : ∀ (l : List Nat) (h : List (Nat × HC)), keepHeap s l = some h → ∀ id n fz k e x, lookO h id ≠ some (.box n fz (.lst k e x)) := by
              intro l
              induction l with
              | nil => intro h hk id n fz k e x; cases hk; simp [lookO]
              | cons k0 l ih =>
                intro h hk id n fz k e x
                simp only [keepHeap] at hk
                split at hk
                all_goals first
                  | (rw [Option.map_eq_some_iff] at hk
                     obtain ⟨h', hrec, rfl⟩ := hk
                     rw [lookO_cons]
                     split
                     · simp
                     · exact ih h' hrec id n fz k e x)
                  | cases hk
            exact this ks.2 kh hkh id _ _ _ _ _ hhl
          | _ => exact q2.elim
        · obtain ⟨v, r1, r2⟩ := q2
          have hrep : RepV g.G w (.slc e) x v := by cases k <;> exact r2.1
          have hcells := RepV.cells hrep
          obtain ⟨ao, cap, ev, _⟩ := RepV.slc hrep
          have : v.cells.toList = [v] := by rw [ev]; rfl
          rw [this] at hcells
          show Rep g.G w (.slc e) x cs.toList
          rw [r1]; exact hcells
      · intro T n hl
        obtain ⟨k, hk, rfl, rfl, hex⟩ := tokIn T n hl
        rcases htip k hk hex with ⟨ao, n, hn⟩ | ⟨T, n, e, x, m, h1, h2, h3, h4⟩
        · exact ⟨ao, n, n, by rw [hov]; exact hn, Nat.le_refl _, .inl rfl⟩
        · obtain ⟨ao, k', c, q1, q2, q3⟩ := hinv.heap.tok T m h2
          rw [h3] at q1 q3
          refine ⟨ao, k', c, by rw [hov]; exact q1, q2, ?_⟩
          rw [hov, h1]
          exact q3
      · intro id n fz c id' n' fz' c' h1 h2 hne
        obtain ⟨_, rfl, m, c0, q1, _⟩ := boxIn id n fz c h1
        obtain ⟨_, rfl, m', c0', q1', _⟩ := boxIn id' n' fz' c' h2
        simp only [g']
        rw [hcur id m fz c0 q1, hcur id' m' fz' c0' q1']
        exact hinv.heap.apart _ _ _ _ _ _ _ _ q1 q1' hne
      · intro T n T' n' h1 h2 hne b hb hb'
        obtain ⟨k, hk, rfl, rfl, hex⟩ := tokIn T n h1
        obtain ⟨k', hk', rfl, rfl, hex'⟩ := tokIn T' n' h2
        have hkk : k ≠ k' := fun e => hne (by rw [e])
        rw [hov] at hb hb'
        rcases htip k hk hex with ⟨ao, n, hn⟩ | ⟨T1, n1, e1, x1, m1, p1, p2, p3, p4⟩
        · rw [hn, roomOf] at hb
          cases ao <;> simp at hb
        · rcases htip k' hk' hex' with ⟨ao, n, hn⟩ | ⟨T2, n2, e2, x2, m2, q1, q2, q3, q4⟩
          · rw [hn, roomOf] at hb'
            cases ao <;> simp at hb'
          · have hTT : T1 ≠ T2 := fun e => s5 k hk k' hk' hkk T1 p4 (e ▸ q4)
            have hro : ∀ (v : Value) (p q : Nat), roomOf (v, p) = roomOf (v, q) := fun v p q => rfl
            refine hinv.heap.rooms T1 m1 T2 m2 p2 q2 hTT b ?_ ?_
            · rw [p3]; exact hb
            · rw [q3]; exact hb'
  · cases h

def toExit : Ex → Exit
  | .normal => .normal
  | .exit id => .exit id
  | .ret => .ret

section
variable {P : Program} {C : Ctx} (hC : CtxOk P C) {G0 : Gh} {w0 : World}
include hC

theorem exec_sound {R : Type} {n : Nat} {r : R} : ∀ (code : Code) {s : St} {K : Ex → St → Option R} {Q : Exit → Act → World → Prop} {g : Gs} {a : Act} {w : World}, Inv P C.ntmps G0 w0 g s a w → exec C n code s K = some r →
    (∀ e s' g' a' w', Inv P C.ntmps G0 w0 g' s' a' w' → K e s' = some r → Q (toExit e) a' w') → code.wp P Q a w := by
  intro code
  induction code with
  | skip => intro s K Q g a w hinv h hK; exact wp_skip (hK .normal s g a w hinv h)
  | region id ops draw =>
    intro s K Q g a w hinv h hK
    exact region_wp hC h hinv fun sf g' a' w' hk hi => hK .normal sf g' a' w' hi hk
  | seq x y ihx ihy =>
    intro s K Q g a w hinv h hK
    refine wp_seq (ihx hinv h fun e s' g' a' w' hi hk => ?_)
    cases e with
    | normal => exact ihy hi hk hK
    | exit id => exact hK (.exit id) s' g' a' w' hi hk
    | ret => exact hK .ret s' g' a' w' hi hk
  | cond c x y ihx ihy =>
    intro s K Q g a w hinv h hK
    simp only [exec] at h
    split at h
    · rename_i t
      split at h
      · rename_i b hb
        have hs := hinv.slots t
        rw [hb] at hs
        have hv : a.eval (.tmp t) = .bool b := RepV.bool hs
        have refined : ∀ v : Bool, b = v → St.eqv s { s with slots := (t, .dat .bool v) :: s.slots } := by
          intro v hv
          refine ⟨fun t' => ?_, fun _ => rfl⟩
          show _ = look .poison ((t, S.dat .bool v) :: s.slots) t'
          rw [look_cons]
          by_cases e : t = t'
          · rw [if_pos e, ← e, hb, hv]
          · rw [if_neg e]
        cases hbb : (b : Bool) with
        | true =>
          rw [hbb, cond_true] at h
          rw [hbb] at hv
          exact wp_cond_true hv (ihx (hinv.eqv (refined true hbb)) h hK)
        | false =>
          rw [hbb, cond_false] at h
          rw [hbb] at hv
          exact wp_cond_false hv (ihy (hinv.eqv (refined false hbb)) h hK)
      · cases h
    · rename_i b
      cases b with
      | true => exact wp_cond_true rfl (ihx hinv h hK)
      | false => exact wp_cond_false rfl (ihy hinv h hK)
    · cases h
  | block id c ih =>
    intro s K Q g a w hinv h hK
    refine wp_block (ih hinv h fun e s' g' a' w' hi hk => ?_)
    cases e with
    | normal => exact hK .normal s' g' a' w' hi hk
    | ret => exact hK .ret s' g' a' w' hi hk
    | exit id' =>
      simp only at hk
      show (if id' = id then Q .normal a' w' else Q (.exit id') a' w')
      by_cases e : id' = id
      · rw [e, Nat.beq_refl, cond_true] at hk
        rw [if_pos e]
        exact hK .normal s' g' a' w' hi hk
      · have : Nat.beq id' id = false := by
          cases hb : Nat.beq id' id with
          | false => rfl
          | true => exact absurd (Nat.eq_of_beq_eq_true hb) e
        rw [this, cond_false] at hk
        rw [if_neg e]
        exact hK (.exit id') s' g' a' w' hi hk
  | loop c ih =>
    intro s K Q g a w hinv h hK
    simp only [exec] at h
    split at h
    · rename_i s0 hs0
      obtain ⟨g0, hinv0⟩ := hinv.keep hs0
      have key : ∀ (m : Nat) (s : St) (g : Gs) (a : Act) (w : World), Inv P C.ntmps G0 w0 g s a w → iter (fun s K => exec C n c s K) (fun s => s.keep (C.keep (headOf c))) K m s = some r → Code.rounds P c Q m a w := by
        intro m
        induction m with
        | zero => intro s g a w _ h; cases h
        | succ m ihm =>
          intro s g a w hinv h
          rw [rounds_succ]
          refine ih hinv h fun e s' g' a' w' hi hk => ?_
          cases e with
          | normal =>
            simp only at hk
            split at hk
            · rename_i s'' hs''
              obtain ⟨g'', hi''⟩ := hi.keep hs''
              exact ihm s'' g'' a' w' hi'' hk
            · cases hk
          | exit id => exact hK (.exit id) s' g' a' w' hi hk
          | ret => exact hK .ret s' g' a' w' hi hk
      exact wp_loop_rounds n (key n s0 g0 a w hinv0 h)
    · cases h
  | exit id => intro s K Q g a w hinv h hK; exact wp_exit (hK (.exit id) s g a w hinv h)
  | ret => intro s K Q g a w hinv h hK; exact wp_ret (hK .ret s g a w hinv h)
  | _ => intro s K Q g a w hinv h hK; cases h
end
end Go.Vi
