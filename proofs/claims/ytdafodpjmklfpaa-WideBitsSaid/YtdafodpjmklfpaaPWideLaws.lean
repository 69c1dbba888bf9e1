/- The plain laws of numbers. -/
import Derived.Test.YtdafodpjmklfpaaPWide5
import Derived.Test.YtdafodpjmklfpaaPWide3
import Derived.Test.YtdafodpjmklfpaaPWide4
import Derived.Test.YtdafodpjmklfpaaPWide4r
import Derived.Test.YtdafodpjmklfpaaPMany2
namespace Go.Fn
open Go Go.Vi

theorem wide_awake (k : Nat) : law02_awake (k + 10) = some true := by kernel_rfl

theorem pureWideOne : ∀ x : pdens (law02_WideOne.τs.map PTy.data), WfP law02_WideOne.τs x → ∃ n, law02_WideOne.g n x = some true := by
  rintro ⟨a, i⟩ ⟨ha, _⟩
  obtain ⟨a, rfl⟩ := Wd_wf ha
  refine ⟨200 + 10, ?_⟩
  show law02_WideOne (200 + 10) (Wd a) i = some true
  unfold law02_WideOne
  simp only [wide_bit, ref02_bit, wide_has, ref02_has, wide_lowest, ref02_lowest (200 + 10) (by omega), wide_awake, obind_some, Wd_beq, beq_self_eq_true, cond_true]

theorem pureWideBits : ∀ x : pdens (law02_WideBits.τs.map PTy.data), WfP law02_WideBits.τs x → ∃ n, law02_WideBits.g n x = some true := by
  rintro ⟨a, b⟩ ⟨ha, hb⟩
  obtain ⟨a, rfl⟩ := Wd_wf ha
  obtain ⟨b, rfl⟩ := Wd_wf hb
  refine ⟨200 + 10, ?_⟩
  show law02_WideBits (200 + 10) (Wd a) (Wd b) = some true
  unfold law02_WideBits
  simp only [wide_and, ref02_and, wide_or, ref02_or, wide_xor, ref02_xor, wide_less, ref02_less, wide_zero, ref02_zero, wide_many, ref02_many (200 + 10) (by omega), wide_awake, obind_some, Wd_beq, beq_self_eq_true, cond_true]

theorem cnt_or_and (a b : W128) : cnt a + cnt b = cnt (a ||| b) + cnt (a &&& b) := by
  unfold cnt
  generalize List.range 128 = l
  induction l with
  | nil => rfl
  | cons x l ih =>
    rw [List.countP_cons, List.countP_cons, List.countP_cons, List.countP_cons, BitVec.getLsbD_or, BitVec.getLsbD_and]
    cases a.getLsbD x <;> cases b.getLsbD x <;> simp <;> omega
theorem pureWideCounts : ∀ x : pdens (law02_WideCounts.τs.map PTy.data), WfP law02_WideCounts.τs x → ∃ n, law02_WideCounts.g n x = some true := by
  rintro ⟨a, b⟩ ⟨ha, hb⟩
  obtain ⟨a, rfl⟩ := Wd_wf ha
  obtain ⟨b, rfl⟩ := Wd_wf hb
  refine ⟨200 + 10, ?_⟩
  show law02_WideCounts (200 + 10) (Wd a) (Wd b) = some true
  unfold law02_WideCounts
  have e : (cnt a : Int) + (cnt b : Int) = (cnt (a ||| b) : Int) + (cnt (a &&& b) : Int) := by have := cnt_or_and a b; omega
  have e1 : (a &&& ~~~b ||| a &&& b) = a := by
    apply bits_ext
    intro i
    simp only [BitVec.getLsbD_or, BitVec.getLsbD_and, BitVec.getLsbD_not]
    by_cases hi : i < 128
    · simp only [hi, decide_true, Bool.true_and]
      cases a.getLsbD i <;> cases b.getLsbD i <;> rfl
    · rw [BitVec.getLsbD_of_ge a i (by omega)]; rfl
  have e2 : (a ^^^ b ^^^ b) = a := by rw [BitVec.xor_assoc, BitVec.xor_self, BitVec.xor_zero]
  simp only [wide_and, wide_or, wide_xor, wide_less, wide_many, wide_awake, obind_some, Wd_beq, e, e1, e2, beq_self_eq_true, cond_true]

theorem clamp16 (n : Int) : ∃ k : Nat, k ≤ 16 ∧ minI (maxI n 0) 16 = (k : Int) := by
  unfold minI maxI
  by_cases h1 : n ≤ 0
  · exact ⟨0, by omega, by split <;> split <;> omega⟩
  · by_cases h2 : n ≤ 16
    · exact ⟨n.toNat, by omega, by split <;> split <;> omega⟩
    · exact ⟨16, by omega, by split <;> split <;> omega⟩
def putStep (a : WideI) (i : Nat) (x : List Int) : List Int :=
  List.set (List.set x i (IntKind.wrap .u8 (shrI .u64 a.1 ((8 * (7 - i) : Nat) : Int)))) (8 + i) (IntKind.wrap .u8 (shrI .u64 a.2 ((8 * (7 - i) : Nat) : Int)))
theorem put_fold (a : W128) : (List.range' 0 8).foldl (fun x i => putStep (Wd a) i x) (List.replicate 16 0) = bytesW a 16 := by
  have : (List.range' 0 8).foldl (fun x i => putStep (Wd a) i x) (List.replicate 16 0) =
    ((List.range 8).reverse.map fun i => IntKind.wrap .u8 (shrI .u64 (Wd a).1 ((8 * i : Nat) : Int))) ++ ((List.range 8).reverse.map fun i => IntKind.wrap .u8 (shrI .u64 (Wd a).2 ((8 * i : Nat) : Int))) := rfl
  rw [this]
  have e1 : ((List.range 8).reverse.map fun i => IntKind.wrap .u8 (shrI .u64 (Wd a).1 ((8 * i : Nat) : Int))) = (List.range 8).reverse.map fun i => byteW a (8 + i) := List.map_congr_left fun i _ => byte_hi a i
  have e2 : ((List.range 8).reverse.map fun i => IntKind.wrap .u8 (shrI .u64 (Wd a).2 ((8 * i : Nat) : Int))) = (List.range 8).reverse.map (byteW a) := List.map_congr_left fun i hi => byte_lo a i (by simpa using hi)
  rw [e1, e2]; rfl
theorem wide_put (n : Nat) (hn : 8 < n) (b : List Int) (a : W128) (size : Int) (hb : b.length ≤ 5000) : ∃ k : Nat, k ≤ 16 ∧ minI (maxI size 0) 16 = (k : Int) ∧ wide_Put n b (Wd a) size = some (b ++ bytesW a k) := by
  obtain ⟨k, hk, e⟩ := clamp16 size
  refine ⟨k, hk, e, ?_⟩
  show wide_Put.l0 n b size (Wd a) n 0 (List.replicate 16 0) = _
  rw [loopN_start (step := fun i x => .inr (putStep (Wd a) i x)) (fin := fun x => wide_Put.s0 n (fun _ _ => none) b size 8 (Wd a) x) (fun m x i => wide_Put.l0 n b size (Wd a) m i x) 8
    (fun m s i hi => by
      have w1 : IntKind.wrap .i64 (8 * (i : Int)) = 8 * (i : Int) := w64 (by omega) (by omega)
      have w2 : IntKind.wrap .i64 (56 - 8 * (i : Int)) = ((8 * (7 - i) : Nat) : Int) := by rw [w64 (by omega) (by omega)]; omega
      have w3 : IntKind.wrap .i64 (8 + (i : Int)) = 8 + (i : Int) := w64 (by omega) (by omega)
      have w4 : IntKind.wrap .i64 ((i : Int) + 1) = (i : Int) + 1 := w64 (by omega) (by omega)
      have w5 : decide (((8 * (7 - i) : Nat) : Int) < 0) = false := decide_eq_false (by omega)
      have w6 : Int.toNat (8 + (i : Int)) = 8 + i := by omega
      simp only [wide_Put.l0, wide_Put.s0, show (i : Int) < 8 by omega, decide_true, cond_true, w1, w2, w3, w4, w5, w6, Bool.not_false, inRange_true (show (0 : Int) ≤ (i : Int) by omega) (show (i : Int) < ((16 : Nat) : Int) by omega), inRange_true (show (0 : Int) ≤ 8 + (i : Int) by omega) (show 8 + (i : Int) < ((16 : Nat) : Int) by omega), Int.toNat_natCast, putStep])
    (fun m s => by simp only [wide_Put.l0, wide_Put.s0]; rfl) hn, loopN_fold, put_fold]
  have w1 : IntKind.wrap .i64 (16 - (k : Int)) = ((16 - k : Nat) : Int) := by rw [w64 (by omega) (by omega)]; omega
  have hd : (bytesW a 16).drop (16 - k) = bytesW a k := by
    have := bytesW_drop a (16 - k) k
    rwa [show k + (16 - k) = 16 by omega] at this
  unfold wide_Put.s0
  have hk2 : ((16 - k : Nat) : Int) ≤ ((16 : Nat) : Int) := by omega
  have c1 : decide ((List.length ([] : List Int) + List.length b) * 1 ≤ 140737488355328) = true := decide_eq_true (by simp; omega)
  have c2 : decide ((List.length b + k) * 1 ≤ 140737488355328) = true := decide_eq_true (by omega)
  simp only [show ¬ (8 : Int) < 8 by omega, decide_false, cond_false, c1, cond_true, e, w1, bytesW_length, hk2, decide_true, show (0 : Int) ≤ ((16 - k : Nat) : Int) by omega, Bool.true_and, Int.toNat_natCast, hd, c2, List.nil_append]

theorem ref_part (a : W128) (i : Nat) (hi : i < 16) : ref02_part (Wd a) (i : Int) = some (byteW a i) := by
  unfold ref02_part
  by_cases h : i < 8
  · have w1 : IntKind.wrap .u64 (IntKind.wrap .i64 (8 * (i : Int))) = ((8 * i : Nat) : Int) := by rw [w64 (by omega) (by omega), wu64 (by omega) (by omega)]; omega
    simp only [show (i : Int) < 8 by omega, decide_true, cond_true, w1, show ¬ ((8 * i : Nat) : Int) < 0 by omega, decide_false, Bool.not_false, byte_lo a i h]
  · have w1 : IntKind.wrap .i64 ((i : Int) - 8) = (i : Int) - 8 := w64 (by omega) (by omega)
    have w2 : IntKind.wrap .u64 (IntKind.wrap .i64 (8 * ((i : Int) - 8))) = ((8 * (i - 8) : Nat) : Int) := by rw [w64 (by omega) (by omega), wu64 (by omega) (by omega)]; omega
    simp only [show ¬ (i : Int) < 8 by omega, decide_false, cond_false, w1, w2, show ¬ ((8 * (i - 8) : Nat) : Int) < 0 by omega, decide_false, Bool.not_false, cond_true, byte_hi a (i - 8), show 8 + (i - 8) = i by omega]
theorem ref_put_loop (n : Nat) (a : W128) : ∀ (k m : Nat) (out : List Int), k ≤ 16 → k < m → out.length + k ≤ 6000 → ref02_Put.l0 n (Wd a) m out ((k : Int) - 1) = some (out ++ bytesW a k)
  | 0, m + 1, out, _, _, _ => by
    simp only [ref02_Put.l0, ref02_Put.s0]
    simp [bytesW]
  | k + 1, m + 1, out, h1, h2, h3 => by
    have e : ((k + 1 : Nat) : Int) - 1 = (k : Int) := by omega
    have c : decide ((List.length out + List.length ([byteW a k] : List Int)) * 1 ≤ 140737488355328) = true := decide_eq_true (by simp; omega)
    simp only [ref02_Put.l0, ref02_Put.s0, e, show (k : Int) ≥ 0 by omega, decide_true, cond_true, ref_part a k (by omega), obind_some, c, w64 (n := (k : Int) - 1) (by omega) (by omega)]
    rw [ref_put_loop n a k m _ (by omega) (by omega) (by simp; omega), bytesW_succ]
    simp
theorem ref_put (n : Nat) (hn : 16 < n) (b : List Int) (a : W128) (size : Int) (hb : b.length ≤ 5000) {k : Nat} (hk : k ≤ 16) (e : minI (maxI size 0) 16 = (k : Int)) : ref02_Put n b (Wd a) size = some (b ++ bytesW a k) := by
  unfold ref02_Put ref02_Put.s
  have c1 : decide ((List.length ([] : List Int) + List.length b) * 1 ≤ 140737488355328) = true := decide_eq_true (by simp; omega)
  simp only [c1, cond_true, e, w64 (n := (k : Int) - 1) (by omega) (by omega), List.nil_append]
  exact ref_put_loop n a k n b hk (by omega) (by omega)

def getOk (b : List Int) (size : Int) : Bool := decide (0 ≤ size) && (decide (size ≤ 16) && decide (size ≤ (b.length : Int)))
theorem wide_get (n : Nat) (hn : 16 < n) (b : List Int) (size : Int) : wide_Get n b size = bif getOk b size then some (Wd (getW (b.take size.toNat)), true) else some ((0, 0), false) := by
  unfold wide_Get wide_Get.s getOk
  by_cases h0 : size < 0
  · simp only [h0, decide_true, show ¬ 0 ≤ size by omega, decide_false]; rfl
  by_cases h1 : size ≤ 16 ∧ size ≤ (b.length : Int)
  · obtain ⟨k, rfl⟩ := Int.eq_ofNat_of_zero_le (show 0 ≤ size by omega)
    have hm : decide (((k : Nat) : Int) > minI ((List.length b : Nat) : Int) 16) = false := by
      apply decide_eq_false
      unfold minI; split <;> omega
    have hl : (sub b 0 k).length = k := by unfold sub; simp; omega
    have hs : sub b 0 k = b.take k := by unfold sub; simp
    simp only [h0, h1.1, h1.2, hm, decide_true, decide_false, show (0 : Int) ≤ ((k : Nat) : Int) by omega, Bool.true_and, Int.toNat_natCast, beq_self_eq_true, cond_true, cond_false, hl]
    rw [hs]
    have hl2 : (b.take k).length = k := by rw [← hs]; exact hl
    rw [loopN_start (step := fun i (a : WideI) => .inr (bitsI .or .u64 (shlI .u64 a.1 8) (shrI .u64 a.2 56), bitsI .or .u64 (shlI .u64 a.2 8) (IntKind.wrap .u64 (List.getD (b.take k) i 0)))) (fin := fun a => some (a, true)) (fun m a i => wide_Get.l0 n (b.take k) (k : Int) (0, 0) m i a) k
      (fun m s i hi => by
        simp only [wide_Get.l0, wide_Get.s0, show (i : Int) < (k : Int) by omega, decide_true, cond_true, inRange_true (show (0 : Int) ≤ (i : Int) by omega) (show (i : Int) < (((b.take k).length : Nat) : Int) by omega), w64 (n := (i : Int) + 1) (by omega) (by omega), Int.toNat_natCast])
      (fun m s => by simp only [wide_Get.l0, wide_Get.s0, Int.lt_irrefl, decide_false, cond_false]) (by omega)]
    have := loopN_list (R := WideI × Bool) (fun (a : WideI) v => (bitsI .or .u64 (shlI .u64 a.1 8) (shrI .u64 a.2 56), bitsI .or .u64 (shlI .u64 a.2 8) (IntKind.wrap .u64 v))) 0 (fun a => some (a, true)) (b.take k) k 0 (0, 0) (by omega)
    rw [this, List.drop_zero, List.take_of_length_le (Nat.le_of_eq hl2)]
    refine congrArg (fun z => some (z, true)) ?_
    have key : ∀ (l : List Int) (x : W128), l.foldl (fun (a : WideI) v => (bitsI .or .u64 (shlI .u64 a.1 8) (shrI .u64 a.2 56), bitsI .or .u64 (shlI .u64 a.2 8) (IntKind.wrap .u64 v))) (Wd x) = Wd (l.foldl getStep x) := by
      intro l
      induction l with
      | nil => intro x; rfl
      | cons v l ih => intro x; rw [List.foldl_cons, get_step, ih, List.foldl_cons]
    exact key _ 0
  · have hm : decide (size > minI ((List.length b : Nat) : Int) 16) = true := by
      apply decide_eq_true
      unfold minI; split <;> omega
    have hz : (decide (size ≤ 16) && decide (size ≤ ((b.length : Nat) : Int))) = false := by
      rw [Bool.and_eq_false_iff]
      by_cases h : size ≤ 16
      · exact .inr (decide_eq_false fun h' => h1 ⟨h, h'⟩)
      · exact .inl (decide_eq_false h)
    simp only [h0, hm, hz, decide_false, Bool.and_false, cond_true, cond_false, beq_self_eq_true]
theorem ref_get (n : Nat) (hn : 16 < n) (b : List Int) (size : Int) : ref02_Get n b size = bif getOk b size then some (Wd (getW (b.take size.toNat)), true) else some ((0, 0), false) := by
  unfold ref02_Get ref02_Get.s getOk
  by_cases h0 : size < 0
  · simp only [h0, decide_true, show ¬ 0 ≤ size by omega, decide_false]; rfl
  by_cases h1 : size ≤ 16
  · by_cases h2 : size ≤ (b.length : Int)
    · obtain ⟨k, rfl⟩ := Int.eq_ofNat_of_zero_le (show 0 ≤ size by omega)
      simp only [h0, h1, h2, show ¬ ((k : Nat) : Int) > 16 by omega, show ¬ ((k : Nat) : Int) > (b.length : Int) by omega, decide_true, decide_false, show (0 : Int) ≤ ((k : Nat) : Int) by omega, Bool.true_and, Int.toNat_natCast, beq_self_eq_true, cond_true, cond_false]
      rw [loopN_start (step := fun i (a : WideI) => .inr (bitsI .or .u64 (shlI .u64 a.1 8) (shrI .u64 a.2 56), bitsI .or .u64 (shlI .u64 a.2 8) (IntKind.wrap .u64 (List.getD b i 0)))) (fin := fun a => some (a, true)) (fun m a i => ref02_Get.l0 n b (k : Int) (0, 0) m i a) k
        (fun m s i hi => by
          simp only [ref02_Get.l0, ref02_Get.s0, show (i : Int) < (k : Int) by omega, decide_true, cond_true, inRange_true (show (0 : Int) ≤ (i : Int) by omega) (show (i : Int) < ((b.length : Nat) : Int) by omega), w64 (n := (i : Int) + 1) (by omega) (by omega), Int.toNat_natCast])
        (fun m s => by simp only [ref02_Get.l0, ref02_Get.s0, Int.lt_irrefl, decide_false, cond_false]) (by omega)]
      have := loopN_list (R := WideI × Bool) (fun (a : WideI) v => (bitsI .or .u64 (shlI .u64 a.1 8) (shrI .u64 a.2 56), bitsI .or .u64 (shlI .u64 a.2 8) (IntKind.wrap .u64 v))) 0 (fun a => some (a, true)) b k 0 (0, 0) (by omega)
      rw [this, List.drop_zero]
      refine congrArg (fun z => some (z, true)) ?_
      have key : ∀ (l : List Int) (x : W128), l.foldl (fun (a : WideI) v => (bitsI .or .u64 (shlI .u64 a.1 8) (shrI .u64 a.2 56), bitsI .or .u64 (shlI .u64 a.2 8) (IntKind.wrap .u64 v))) (Wd x) = Wd (l.foldl getStep x) := by
        intro l
        induction l with
        | nil => intro x; rfl
        | cons v l ih => intro x; rw [List.foldl_cons, get_step, ih, List.foldl_cons]
      exact key _ 0
    · simp only [h0, h1, h2, show ¬ size > 16 by omega, show size > (b.length : Int) by omega, decide_true, decide_false, Bool.and_false, beq_self_eq_true, cond_true, cond_false]
  · simp only [h0, h1, show size > 16 by omega, decide_true, decide_false, Bool.false_and, Bool.and_false, beq_self_eq_true, cond_true, cond_false]; rfl

theorem pureWideBack : ∀ x : pdens (law02_WideBack.τs.map PTy.data), WfP law02_WideBack.τs x → ∃ n, law02_WideBack.g n x = some true := by
  rintro ⟨a, k⟩ ⟨ha, hk⟩
  obtain ⟨a, rfl⟩ := Wd_wf ha
  refine ⟨200 + 10, ?_⟩
  show law02_WideBack (200 + 10) (Wd a) k = some true
  have main : ∀ k : Int, 0 ≤ k ∧ k ≤ 255 → law02_WideBack (200 + 10) (Wd a) k = some true := by
    intro k hk
    unfold law02_WideBack
    have hm : k.tmod 17 = k % 17 := Int.tmod_eq_emod_of_nonneg hk.1
    obtain ⟨s, hs⟩ : ∃ s : Nat, k.tmod 17 = (s : Int) ∧ s ≤ 16 := ⟨(k.tmod 17).toNat, by omega, by omega⟩
    have w1 : IntKind.wrap .i64 (k.tmod 17) = (s : Int) := by rw [hs.1]; exact w64 (by omega) (by omega)
    have w2 : IntKind.wrap .i64 (8 * (s : Int)) = ((8 * s : Nat) : Int) := by rw [w64 (by omega) (by omega)]; omega
    obtain ⟨k', hk', e', hp⟩ := wide_put (200 + 10) (by omega) [] (a &&& lowW (8 * s)) (s : Int) (by simp)
    have hks : k' = s := by
      have : minI (maxI (s : Int) 0) 16 = (s : Int) := by unfold minI maxI; split <;> split <;> omega
      omega
    subst hks
    rw [List.nil_append] at hp
    have hg := wide_get (200 + 10) (by omega) (bytesW (a &&& lowW (8 * k')) k') (k' : Int)
    have hok : getOk (bytesW (a &&& lowW (8 * k')) k') (k' : Int) = true := by
      unfold getOk
      rw [bytesW_length]
      simp; omega
    have ha2 : (a &&& lowW (8 * k')) &&& lowW (8 * k') = a &&& lowW (8 * k') := by rw [BitVec.and_assoc, BitVec.and_self]
    rw [hok, cond_true, Int.toNat_natCast, List.take_of_length_le (by rw [bytesW_length]; omega), getW_bytes, ha2] at hg
    simp only [w1, w2, wide_lowest, obind_some, wide_and, Int.toNat_natCast, hp, hg, Wd_beq, beq_self_eq_true, cond_true, wide_awake]
  exact main k (wf_u8.1 hk)

theorem pureWidePuts : ∀ x : pdens (law02_WidePuts.τs.map PTy.data), WfP law02_WidePuts.τs x → ∃ n, law02_WidePuts.g n x = some true := by
  rintro ⟨b, a, size⟩ ⟨_, ha, _⟩
  obtain ⟨a, rfl⟩ := Wd_wf ha
  refine ⟨5000 + 10, ?_⟩
  show law02_WidePuts (5000 + 10) b (Wd a) size = some true
  have main : ∀ (b : List Int) (size : Int), law02_WidePuts (5000 + 10) b (Wd a) size = some true := by
    intro b size
    unfold law02_WidePuts
    by_cases hl : ((b.length : Nat) : Int) > 4000
    · simp only [hl, decide_true, cond_true, wide_awake, obind_some]
    · have hc : slices_Clone_byte b = some b := by
        unfold slices_Clone_byte
        rw [show decide ((List.length ([] : List Int) + List.length b) * 1 ≤ 140737488355328) = true from decide_eq_true (by simp; omega)]; rfl
      have c1 : decide ((List.length b + List.length ([9, 8, 7, 6] : List Int)) * 1 ≤ 140737488355328) = true := decide_eq_true (by simp; omega)
      have c2 : decide (((List.length b : Nat) : Int) ≤ ((List.length (b ++ ([9, 8, 7, 6] : List Int)) : Nat) : Int)) = true := decide_eq_true (by simp; omega)
      have hs : sub (b ++ ([9, 8, 7, 6] : List Int)) 0 (Int.toNat ((List.length b : Nat) : Int)) = b := by unfold sub; simp
      obtain ⟨k, hk, e, hp⟩ := wide_put (5000 + 10) (by omega) b a size (by omega)
      have hr := ref_put (5000 + 10) (by omega) b a size (by omega) hk e
      have q1 := equal_byte_self (5000 + 10) (b ++ bytesW a k) (by simp [bytesW_length]; omega) (by simp [bytesW_length]; omega)
      have q2 := equal_byte_self (5000 + 10) (b ++ ([9, 8, 7, 6] : List Int)) (by simp; omega) (by simp; omega)
      simp only [hl, decide_false, cond_false, hc, obind_some, c1, cond_true, show (0 : Int) ≤ ((List.length b : Nat) : Int) by omega, decide_true, Bool.true_and, c2, hs, hp, hr, q1, q2, wide_get _ (show 16 < 5000 + 10 by omega), ref_get _ (show 16 < 5000 + 10 by omega), beq_self_eq_true]
      have h0 : beqT TWide (0, 0) (0, 0) = true := rfl
      cases getOk b size <;> simp only [cond_true, cond_false, obind_some, Wd_beq, h0, beq_self_eq_true, wide_awake]
  exact main b size
end Go.Fn
