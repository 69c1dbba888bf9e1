/- '==' of structs and arrays is the equality of what they hold. -/
import Derived.Test.YtagpigbfbhdoiaaViF
import Derived.ChangeKeysEq
namespace Go.Vi

section
variable {P : Program} {tab : List (Nat × TE)} (T : Types P tab) {G : Gh} {wr : World}
include T

/-- Items of types below a depth are compared rightly. -/
def EqAt (P : Program) (tab : List (Nat × TE)) (G : Gh) (wr : World) (d : Nat) : Prop :=
  ∀ t te, lookO tab t = some te → te.ty.eqs = true → te.ty.depth < d → ∀ (x y : te.ty.den) cx cy, Rep G wr te.ty x cx → Rep G wr te.ty y cy → ∀ w,
    (Op.equalIn d t (valOf te.ty cx) (valOf te.ty cy)).run P w = .ok (beqT te.ty x y) w

theorem eqFields_tail {d : Nat} (ih : EqAt P tab G wr d) : ∀ (nf : Nat) (σ : Ty) (x y : σ.den) (fs : List Field) (base : Nat) (cx cy : Array Value),
    nfOk nf σ = true → fs.length = nf → σ.eqs = true → σ.depth ≤ d →
    (∀ (k : Nat) f, fs[k]? = some f → f.name ≠ "_" ∧ f.offset = base + fldOff nf k σ ∧ ∃ τ tef, fldTy nf k σ = some τ ∧ lookO tab f.type = some tef ∧ tef.ty = τ ∧ τ.size ≠ 0) →
    Rep G wr σ x ((cx.toList.drop base).take σ.size) → Rep G wr σ y ((cy.toList.drop base).take σ.size) → ∀ w,
    (Op.eqFields d cx cy fs).run P w = .ok (beqT σ x y) w := by
  have one : ∀ (f : Field) (fs : List Field) (τ : Ty) (tef : TE) (x y : τ.den) (cx cy : Array Value) (o : Nat), f.name ≠ "_" → f.offset = o → lookO tab f.type = some tef → tef.ty = τ → τ.eqs = true → τ.depth < d →
      Rep G wr τ x ((cx.toList.drop o).take τ.size) → Rep G wr τ y ((cy.toList.drop o).take τ.size) → ∀ w b, (Op.eqFields d cx cy fs).run P w = .ok b w →
      (Op.eqFields d cx cy (f :: fs)).run P w = .ok (beqT τ x y && b) w := by
    intro f fs τ tef x y cx cy o hn ho hl hty he hd hx hy w b hrest
    subst hty
    subst ho
    have p1 := run_part T (g := ⟨G, fun _ _ => 0, fun _ => (undef, 0), 0⟩) (w := wr) hl hx w
    have p2 := run_part T (g := ⟨G, fun _ _ => 0, fun _ => (undef, 0), 0⟩) (w := wr) hl hy w
    have p3 := ih f.type tef hl he hd x y _ _ hx hy w
    simp only [Op.eqFields, hn, ne_eq, not_false_eq_true, if_true, Sem.run_bind, p1, p2, p3, Result.andThen_ok]
    cases beqT tef.ty x y
    · simp
    · simpa using hrest
  intro nf
  induction nf using Nat.strongRecOn with
  | _ nf ihn =>
    intro σ x y fs base cx cy hok hlen he hd hf hx hy w
    match nf, σ, x, y, hok, hlen, hf, ihn with
    | 0, .unit, x, y, _, hlen, _, _ =>
      obtain rfl := List.eq_nil_of_length_eq_zero hlen
      simp [Op.eqFields, beqT]
    | 1, .one a, x, y, _, hlen, hf, _ =>
      match fs, hlen with
      | [f], _ =>
        obtain ⟨h1, h2, τ, tef, h3, h4, h5, h6⟩ := hf 0 f rfl
        simp only [fldTy, Option.some.injEq] at h3
        subst h3
        simp only [fldOff, Nat.add_zero] at h2
        have := one f [] a tef x y cx cy base h1 h2 h4 h5 (by simpa [Ty.eqs] using he) (by simp [Ty.depth] at hd; omega) hx hy w true (by simp [Op.eqFields])
        rw [this]; simp [beqT]
    | 2, .pair a b, x, y, _, hlen, hf, _ =>
      match fs, hlen with
      | [f, f'], _ =>
        simp only [Ty.eqs, Bool.and_eq_true] at he
        simp only [Ty.depth] at hd
        obtain ⟨h1, h2, τ, tef, h3, h4, h5, h6⟩ := hf 0 f rfl
        obtain ⟨g1, g2, τ', tef', g3, g4, g5, g6⟩ := hf 1 f' rfl
        simp only [fldTy, Option.some.injEq] at h3 g3
        subst h3; subst g3
        simp only [fldOff, Nat.add_zero] at h2 g2
        have hx0 := fldGet_rep 2 0 (.pair a b) x a x.1 rfl _ hx
        have hx1 := fldGet_rep 2 1 (.pair a b) x b x.2 rfl _ hx
        have hy0 := fldGet_rep 2 0 (.pair a b) y a y.1 rfl _ hy
        have hy1 := fldGet_rep 2 1 (.pair a b) y b y.2 rfl _ hy
        simp only [fldOff, Ty.size] at hx0 hx1 hy0 hy1
        rw [take_drop_take_drop _ _ _ _ _ (by omega)] at hx0 hx1 hy0 hy1
        simp only [Nat.add_zero] at hx0 hy0
        have q := one f' [] b tef' x.2 y.2 cx cy (base + a.size) g1 g2 g4 g5 he.2 (by omega) hx1.1 hy1.1 w true (by simp [Op.eqFields])
        have := one f [f'] a tef x.1 y.1 cx cy base h1 h2 h4 h5 he.1 (by omega) hx0.1 hy0.1 w _ q
        rw [this]; simp [beqT]
    | n + 3, .pair a b, x, y, hok, hlen, hf, ihn =>
      match fs, hlen with
      | f :: fs, hlen =>
        simp only [Ty.eqs, Bool.and_eq_true] at he
        simp only [Ty.depth] at hd
        obtain ⟨h1, h2, τ, tef, h3, h4, h5, h6⟩ := hf 0 f rfl
        simp only [fldTy, Option.some.injEq] at h3
        subst h3
        simp only [fldOff, Nat.add_zero] at h2
        obtain ⟨c1, c2, e1, hx0, hx1⟩ := hx
        obtain ⟨d1, d2, e2, hy0, hy1⟩ := hy
        have s1 := Rep.size _ _ _ hx0
        have s2 := Rep.size _ _ _ hx1
        have s3 := Rep.size _ _ _ hy0
        have s4 := Rep.size _ _ _ hy1
        simp only [Ty.size] at e1 e2
        have ex0 : (cx.toList.drop base).take a.size = c1 := by
          have := congrArg (fun l => (l.drop 0).take a.size) e1
          simp only [List.drop_zero, List.take_take, Nat.min_eq_left (Nat.le_add_right a.size b.size)] at this
          rw [this, ← s1]; simp
        have ex1 : (cx.toList.drop (base + a.size)).take b.size = c2 := by
          have := congrArg (fun l => (l.drop a.size).take b.size) e1
          rw [take_drop_take_drop _ _ _ _ _ (by omega)] at this
          rw [this, ← s1, ← s2]; simp
        have ey0 : (cy.toList.drop base).take a.size = d1 := by
          have := congrArg (fun l => (l.drop 0).take a.size) e2
          simp only [List.drop_zero, List.take_take, Nat.min_eq_left (Nat.le_add_right a.size b.size)] at this
          rw [this, ← s3]; simp
        have ey1 : (cy.toList.drop (base + a.size)).take b.size = d2 := by
          have := congrArg (fun l => (l.drop a.size).take b.size) e2
          rw [take_drop_take_drop _ _ _ _ _ (by omega)] at this
          rw [this, ← s3, ← s4]; simp
        have q := ihn (n + 2) (by omega) b x.2 y.2 fs (base + a.size) cx cy (by simpa [nfOk] using hok) (by simpa using hlen) he.2 (by omega)
          (fun k f' hk => by
            obtain ⟨k1, k2, τ', tef', k3, k4, k5, k6⟩ := hf (k + 1) f' (by simpa using hk)
            simp only [fldTy, fldOff] at k2 k3
            exact ⟨k1, by omega, τ', tef', k3, k4, k5, k6⟩) (by rw [ex1]; exact hx1) (by rw [ey1]; exact hy1) w
        have := one f fs a tef x.1 y.1 cx cy base h1 h2 h4 h5 he.1 (by omega) (by rw [ex0]; exact hx0) (by rw [ey0]; exact hy0) w _ q
        rw [this]; simp [beqT]

theorem eqItems_all {d : Nat} (ih : EqAt P tab G wr d) {et : Nat} {tee : TE} (hl : lookO tab et = some tee) (he : tee.ty.eqs = true) (hd : tee.ty.depth < d) (cx cy : Array Value) :
    ∀ (n k : Nat) (xs ys : List tee.ty.den), xs.length = n → ys.length = n →
    (∀ i, i < n → Rep G wr tee.ty (xs.getD i tee.ty.zero) ((cx.toList.drop ((k + i) * tee.ty.size)).take tee.ty.size)) →
    (∀ i, i < n → Rep G wr tee.ty (ys.getD i tee.ty.zero) ((cy.toList.drop ((k + i) * tee.ty.size)).take tee.ty.size)) → ∀ w,
    (Op.eqItems d et tee.ty.size cx cy (List.range' k n)).run P w = .ok (beqL (beqT tee.ty) xs ys) w
  | 0, k, [], [], _, _, _, _, w => by simp [Op.eqItems, beqL]
  | n + 1, k, x :: xs, y :: ys, h1, h2, hx, hy, w => by
    have hx0 := hx 0 (by omega)
    have hy0 := hy 0 (by omega)
    have q := eqItems_all ih hl he hd cx cy n (k + 1) xs ys (by simpa using h1) (by simpa using h2)
      (fun i hi => by have := hx (i + 1) (by omega); rw [show k + 1 + i = k + (i + 1) by omega]; simpa using this)
      (fun i hi => by have := hy (i + 1) (by omega); rw [show k + 1 + i = k + (i + 1) by omega]; simpa using this) w
    have p1 := run_part T (g := ⟨G, fun _ _ => 0, fun _ => (undef, 0), 0⟩) (w := wr) hl hx0 w
    have p2 := run_part T (g := ⟨G, fun _ _ => 0, fun _ => (undef, 0), 0⟩) (w := wr) hl hy0 w
    have p3 := ih et tee hl he hd _ _ _ _ hx0 hy0 w
    simp only [Nat.add_zero] at p1 p2 p3
    simp only [List.range'_succ, Op.eqItems, Sem.run_bind, p1, p2, p3, Result.andThen_ok, beqL]
    have ex : (x :: xs).getD 0 tee.ty.zero = x := rfl
    have ey : (y :: ys).getD 0 tee.ty.zero = y := rfl
    rw [ex, ey]
    cases beqT tee.ty x y
    · simp
    · simpa using q

theorem eqAt : ∀ d, EqAt P tab G wr d
  | 0 => fun _ _ _ _ h => absurd h (by omega)
  | d + 1 => by
    intro t te hl he hd x y cx cy hx hy w
    obtain ⟨dd, hu, hdesc⟩ := T.under hl
    by_cases ha : te.ty.agg = true
    · have hvx : valOf te.ty cx = .agg cx.toArray := by simp [valOf, ha]
      have hvy : valOf te.ty cy = .agg cy.toArray := by simp [valOf, ha]
      rw [hvx, hvy]
      by_cases harr : ∃ n e, te.ty = .arr n e
      · obtain ⟨n, e, hty⟩ := harr
        obtain ⟨et, tee, h1, h2, h3⟩ := T.arr hl hty
        subst h3
        obtain ⟨i, hi, hsz, _⟩ := T.info h2
        rw [run_equalIn_array w d cx.toArray cy.toArray h1 hi]
        have hc : P.cellsOf et = tee.ty.size := by simp [Program.cellsOf, hi, hsz]
        rw [hc, List.range_eq_range']
        obtain ⟨ty, nf, bytes⟩ := te
        subst hty
        obtain ⟨hn, css, rfl, hex⟩ := hx
        obtain ⟨hm, dss, rfl, hey⟩ := hy
        simp only [Ty.eqs] at he
        simp only [Ty.depth] at hd
        have := eqItems_all T (eqAt d) h2 he (by omega) css.flatten.toArray dss.flatten.toArray n 0 x y hn hm
          (fun i hi => by rw [Nat.zero_add]; exact (hex.item i (by omega)).1) (fun i hi => by rw [Nat.zero_add]; exact (hey.item i (by omega)).1) w
        rw [this]; rfl
      · obtain ⟨fs, h1, h0, h2, h3⟩ := T.struct hl ha (fun n e h => harr ⟨n, e, h⟩)
        have hfo : P.fieldsOf t = fs := by simp [Program.fieldsOf, h1]
        rw [run_equalIn_struct w d t cx.toArray cy.toArray (by rw [hfo]; exact h1) (T.held hl), hfo]
        have sx := Rep.size _ _ _ hx
        have sy := Rep.size _ _ _ hy
        have := eqFields_tail T (eqAt d) te.nf te.ty x y fs.toList 0 cx.toArray cy.toArray h0 (by simpa using h2) he (by omega)
          (fun k f hk => by
            obtain ⟨k1, k2, τ, tef, k3, k4, k5, k6⟩ := h3 k f (by simpa using hk)
            exact ⟨k1, by omega, τ, tef, k3, k4, k5, k6⟩) (by simp only [List.drop_zero]; rw [List.take_of_length_le (by omega)]; exact hx) (by simp only [List.drop_zero]; rw [List.take_of_length_le (by omega)]; exact hy) w
        exact this
    · have ha' : te.ty.agg = false := by simpa using ha
      obtain ⟨ty, nf, bytes⟩ := te
      cases ty <;> simp only [Ty.agg, Bool.true_eq_false] at ha' <;> simp only [Ty.eqs, Bool.false_eq_true] at he
      case int k =>
        simp only [Rep] at hx hy
        subst hx; subst hy
        have hk : ∃ k', dd = .int k' := by
          cases dd <;> simp [descOk, Ty.beq] at hdesc
          exact ⟨_, rfl⟩
        obtain ⟨k', rfl⟩ := hk
        exact run_equalIn_int w d t k k' x y hu
      case bool =>
        simp only [Rep] at hx hy
        subst hx; subst hy
        have hk : dd = .bool := by
          cases dd <;> simp [descOk, Ty.beq] at hdesc
          rfl
        subst hk
        exact run_equalIn_bool' w d t x y hu
      case str =>
        simp only [Rep] at hx hy
        subst hx; subst hy
        have hk : dd = .string := by
          cases dd <;> simp [descOk, Ty.beq] at hdesc
          rfl
        subst hk
        have := run_equalIn_string (P := P) w d t x y hu
        simp only [valOf, Ty.agg, Bool.false_eq_true, if_false, List.headD_cons, beqT]
        rw [this, beq_toListBytes]
end
end Go.Vi
