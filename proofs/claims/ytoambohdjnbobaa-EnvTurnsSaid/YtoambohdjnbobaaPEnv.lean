/- The plain laws of the environments. -/
import Derived.Test.YtoambohdjnbobaaW
import Derived.Test.YtoambohdjnbobaaViLoop
namespace Go.Fn
open Go Go.Vi

def idxOf {α : Type} (p : α → Bool) : Nat → List α → Int
  | _, [] => -1
  | i, x :: xs => bif p x then (i : Int) else idxOf p (i + 1) xs
theorem idx_nonneg {α : Type} (p : α → Bool) : ∀ (xs : List α) (i : Nat), decide (idxOf p i xs ≥ 0) = xs.any p
  | [], _ => rfl
  | x :: xs, i => by
    unfold idxOf
    cases h : p x with
    | true => simp [h]
    | false => simp only [cond_false, List.any_cons, h, Bool.false_or]; exact idx_nonneg p xs (i + 1)
def idxStep {α : Type} (p : α → Bool) : Nat → α → Unit → Option Int ⊕ Unit := fun i x _ => bif p x then .inl (some (i : Int)) else .inr ()
theorem idx_loop {α : Type} (p : α → Bool) : ∀ (xs : List α) (i : Nat), loopL (idxStep p) (fun _ => some (-1)) i xs () = some (idxOf p i xs)
  | [], _ => rfl
  | x :: xs, i => by
    unfold loopL idxOf idxStep
    cases h : p x with
    | true => rfl
    | false => simp only [cond_false]; exact idx_loop p xs (i + 1)

theorem index_int (n : Nat) (s : List Int) (v : Int) (hL : s.length ≤ 9223372036854775807) (hn : s.length < n) : slices_Index_int n s v = some (idxOf (fun x => v == x) 0 s) := by
  show slices_Index_int.l0 n s v s.length n 0 = _
  rw [← idx_loop]
  refine loopL_start (σ := Unit) (fun m _ i => slices_Index_int.l0 n s v s.length m i) s (fun m _ i x hx => ?_) (fun m _ => ?_) hn ()
  · simp only [slices_Index_int.l0, slices_Index_int.s0, lt_of hx, decide_true, cond_true, inRange_of hx, getD_of hx, succ_of hx hL, idxStep]
    cases (v == x) <;> rfl
  · simp only [slices_Index_int.l0, slices_Index_int.s0, Int.lt_irrefl, decide_false, cond_false]
theorem contains_int (n : Nat) (s : List Int) (v : Int) (hL : s.length ≤ 9223372036854775807) (hn : s.length < n) : slices_Contains_int n s v = some (s.any fun x => v == x) := by
  unfold slices_Contains_int
  rw [index_int n s v hL hn, obind_some, idx_nonneg]

def up (e : Env) (port : Int) : Bool := !(e.2.any fun x => port == x)
theorem env_up (n : Nat) (e : Env) (port : Int) (hL : e.2.length ≤ 9223372036854775807) (hn : e.2.length < n) : env_Up n e port = some (up e port) := by
  unfold env_Up
  rw [contains_int n e.2 port hL hn, obind_some]; rfl
theorem ref_up_loop (v : Int) : ∀ (xs : List Int) (i : Nat), loopL (fun _ x (_ : Unit) => bif x == v then .inl (some false) else .inr ()) (fun _ => some true) i xs () = some (!(xs.any fun x => v == x))
  | [], _ => rfl
  | x :: xs, i => by
    unfold loopL
    rw [show (x == v) = (v == x) by rw [Bool.eq_iff_iff, beq_iff_eq, beq_iff_eq]; exact eq_comm, List.any_cons]
    cases h : (v == x) with
    | true => rfl
    | false => simp only [cond_false, Bool.false_or]; exact ref_up_loop v xs (i + 1)
theorem ref_up (n : Nat) (e : Env) (port : Int) (hL : e.2.length ≤ 9223372036854775807) (hn : e.2.length < n) : ref29_Up n e port = some (up e port) := by
  show ref29_Up.l0 n port e n 0 = _
  unfold up
  rw [← ref_up_loop port e.2 0]
  refine loopL_start (σ := Unit) (fun m _ i => ref29_Up.l0 n port e m i) e.2 (fun m _ i x hx => ?_) (fun m _ => ?_) hn ()
  · simp only [ref29_Up.l0, ref29_Up.s0, lt_of hx, decide_true, cond_true, inRange_of hx, getD_of hx, succ_of hx hL]
    cases (x == port) <;> rfl
  · simp only [ref29_Up.l0, ref29_Up.s0, Int.lt_irrefl, decide_false, cond_false]

theorem index_bucket (n : Nat) (s : List Bucket) (f : Bucket → Option Bool) (p : Bucket → Bool) (hf : ∀ x, f x = some (p x)) (hL : s.length ≤ 9223372036854775807) (hn : s.length < n) : slices_IndexFunc_Bucket n s f = some (idxOf p 0 s) := by
  show slices_IndexFunc_Bucket.l0 n s f s.length n 0 = _
  rw [← idx_loop]
  refine loopL_start (σ := Unit) (fun m _ i => slices_IndexFunc_Bucket.l0 n s f s.length m i) s (fun m _ i x hx => ?_) (fun m _ => ?_) hn ()
  · simp only [slices_IndexFunc_Bucket.l0, slices_IndexFunc_Bucket.s0, lt_of hx, decide_true, cond_true, inRange_of hx, getD_of hx, succ_of hx hL, idxStep, hf, obind_some]
    cases p x <;> rfl
  · simp only [slices_IndexFunc_Bucket.l0, slices_IndexFunc_Bucket.s0, Int.lt_irrefl, decide_false, cond_false]

theorem world_up (n : Nat) (e : Env) (g : Group) (h1 : e.2.length < n) (h2 : g.2.2.length < n) (hn : n ≤ 9223372036854775807) : env_world_up n (e, g) = some (idxOf (fun x : Bucket => up e x.2.1) 0 g.2.2) := by
  unfold env_world_up
  rw [index_bucket n g.2.2 _ (fun x : Bucket => up e x.2.1) (fun x => by
    unfold env_world_up_1
    rw [env_up n e x.2.1 (by omega) h1]; rfl) (by omega) h2]
  rfl

theorem equal_int_loop (n : Nat) (s : List Int) (hL : s.length ≤ 9223372036854775807) : ∀ (k m : Nat) (i : Int), 0 ≤ i → i + k = s.length → k < m → slices_Equal_int.l0 n s s s.length m i = some true
  | 0, m + 1, i, _, hi, _ => by
    simp only [slices_Equal_int.l0, slices_Equal_int.s0, show ¬ i < (s.length : Int) by omega, decide_false, cond_false]
  | k + 1, m + 1, i, h0, hi, hm => by
    have e1 : IntKind.wrap .i64 (i + 1) = i + 1 := w64 (by omega) (by omega)
    simp only [slices_Equal_int.l0, slices_Equal_int.s0, show i < (s.length : Int) by omega, decide_true, cond_true, inRange_true h0 (show i < (s.length : Int) by omega), bne_self_eq_false, cond_false, e1]
    exact equal_int_loop n s hL k m (i + 1) (by omega) (by omega) (by omega)
theorem equal_int_self (n : Nat) (s : List Int) (hL : s.length ≤ 9223372036854775807) (hn : s.length < n) : slices_Equal_int n s s = some true := by
  simp only [slices_Equal_int, slices_Equal_int.s, bne_self_eq_false, cond_false]
  exact equal_int_loop n s hL s.length n 0 (by omega) (by omega) hn
end Go.Fn
