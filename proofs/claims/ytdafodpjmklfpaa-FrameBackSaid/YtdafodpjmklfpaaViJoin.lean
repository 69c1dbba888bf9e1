/- bytes.Join, by the kit's own proof (draft). -/
import Derived.Test.YtdafodpjmklfpaaViX
import Derived.Shelf.Bytes.SlJoin
namespace Go.Vi
open Go.RowKit (Below)
open Go.Proofs

abbrev U8 : Ty := .int .u8
def toBytes (l : List Int) : List UInt8 := l.map fun n => UInt8.ofNat n.toNat
theorem toBytes_get {l : List Int} (hb : ∀ n ∈ l, 0 ≤ n ∧ n ≤ 255) {i : Nat} {x : UInt8} (h : (toBytes l)[i]? = some x) : l[i]? = some (x.toNat : Int) := by
  unfold toBytes at h
  rw [List.getElem?_map, Option.map_eq_some_iff] at h
  obtain ⟨n, h1, rfl⟩ := h
  have := hb n (List.mem_of_getElem? h1)
  rw [h1]
  congr 1
  rw [UInt8.toNat_ofNat']
  omega
/-- A slice of bytes, as the kit tells it. -/
theorem holds_of_rep {G : Gh} {w : World} {l : List Int} {v : Value} (h : RepV G w (.slc U8) l v) (hb : ∀ n ∈ l, 0 ≤ n ∧ n ≤ 255) : Lib.HoldsBytes w v (toBytes l) := by
  obtain ⟨ao, cap, hv, hc, hrow⟩ := RepV.slc h
  have hlen : (toBytes l).length = l.length := List.length_map ..
  refine ⟨ao, cap, by rw [hlen]; exact hv, fun e => ?_, fun a e i x hi => ?_⟩
  · subst e
    simp only at hrow
    have : l.length = 0 := by have hc : List.length (α := Int) l ≤ cap := hc; omega
    exact List.eq_nil_of_length_eq_zero (by rw [hlen]; exact this)
  · subst e
    obtain ⟨hsp, css, hcs, hcells⟩ := hrow
    have hx := toBytes_get hb hi
    have hpos : 0 < cap := by
      have h1 : i < l.length := (List.getElem?_eq_some_iff.1 hx).1
      have hc : List.length (α := Int) l ≤ cap := hc
      omega
    have hsp : a.spot = none := hsp.resolve_right (by omega)
    have hfl : css.flatten = l.map (fun n => Value.int .u8 n) := by
      clear hcells hx hi hc hv h hlen hb
      revert css
      induction l with
      | nil => intro css hcs; cases css with
        | nil => rfl
        | cons _ _ => exact hcs.elim
      | cons n l ih => intro css hcs; cases css with
        | nil => exact hcs.elim
        | cons c css =>
          have h1 : c = [Value.int .u8 n] := hcs.1
          rw [List.flatten_cons, ih css hcs.2, h1]; rfl
    have hj := (hcells i (.int .u8 (x.toNat : Int)) (by rw [hfl, List.getElem?_map, hx]; rfl)).1
    obtain ⟨b, o, sp⟩ := a
    cases hsp
    rw [Addr.add_lit]
    exact hj

theorem toBytes_inj : ∀ {a b : List Int}, (∀ n ∈ a, 0 ≤ n ∧ n ≤ 255) → (∀ n ∈ b, 0 ≤ n ∧ n ≤ 255) → toBytes a = toBytes b → a = b
  | [], [], _, _, _ => rfl
  | [], _ :: _, _, _, h => by cases h
  | _ :: _, [], _, _, h => by cases h
  | x :: a, y :: b, ha, hb, h => by
    have h : UInt8.ofNat x.toNat :: toBytes a = UInt8.ofNat y.toNat :: toBytes b := h
    injection h with h1 h2
    have := congrArg UInt8.toNat h1
    rw [UInt8.toNat_ofNat', UInt8.toNat_ofNat'] at this
    have hx := ha x (by simp)
    have hy := hb y (by simp)
    rw [toBytes_inj (fun n hn => ha n (List.mem_cons_of_mem _ hn)) (fun n hn => hb n (List.mem_cons_of_mem _ hn)) h2, show x = y by omega]
/-- A new slice of bytes, as the kit tells it, is a slice with the right to its room. -/
theorem res_of_fresh {P : Program} {G : Gh} {w w' : World} {m t : Nat} {v : Value} {l : List Int} (hm : m ≤ t) (hlv : Lv t G w) (hf : Lib.FreshBytes w.heap.size w' v (toBytes l)) (hb : Below w.heap.size w w') (hl : ∀ n ∈ l, 0 ≤ n ∧ n ≤ 255) :
    ∃ G', Fwd G w G' w' ∧ Lv t G' w' ∧ ResP P G' w' m w.heap.size (.fresh U8) l v := by
  obtain ⟨g, cap, zs, rfl, hg, hle, _, hz, hzr, hbs, hcell, hfz⟩ := hf
  have hlen : (toBytes l).length = l.length := List.length_map ..
  rw [hlen] at hle hbs ⊢
  have htake : zs.take l.length = l := toBytes_inj (fun n hn => by have := hzr n (List.mem_of_mem_take hn); omega) hl hbs
  obtain ⟨G', hG'⟩ : ∃ G' : Gh, G' = fun b => if b < w.heap.size then G b else if b = g then .room m l.length else .stays := ⟨_, rfl⟩
  have hGo : ∀ b, b < w.heap.size → G' b = G b := fun b hb => by rw [hG']; exact if_pos hb
  have hGg : G' g = .room m l.length := by rw [hG']; show (if g < w.heap.size then G g else if g = g then Own.room m l.length else .stays) = _; rw [if_neg (by omega), if_pos rfl]
  have hGn : ∀ b, ¬ b < w.heap.size → b ≠ g → G' b = .stays := fun b h1 h2 => by rw [hG']; simp only; rw [if_neg h1, if_neg h2]
  have hx : ∀ i x, l[i]? = some x → w'.cell? ⟨g, i, none⟩ = some (.int .u8 x) := fun i x hi => by
    have h1 : i < l.length := (List.getElem?_eq_some_iff.1 hi).1
    have h2 := hcell i (by omega)
    have h3 : zs[i]? = some x := by rw [← htake, List.getElem?_take, if_pos h1] at hi; exact hi
    rw [h2, List.getD_eq_getElem?_getD, h3]; rfl
  have hflat : (l.map fun n => [Value.int .u8 n]).flatten = l.map (fun n => Value.int .u8 n) := by
    clear hx hGg hG' htake hbs hle hlen hl hb
    induction l with
    | nil => rfl
    | cons n l ih => rw [List.map_cons, List.flatten_cons, ih]; rfl
  refine ⟨G', ⟨hb, hGo⟩, fun b hb' => ?_, ?_, ?_⟩
  · by_cases h1 : b < w.heap.size
    · rw [hGo b h1]; exact hlv b h1
    · by_cases h2 : b = g
      · rw [h2, hGg]; exact hm
      · rw [hGn b h1 h2]; trivial
  · refine RepV.mk_slc (e := U8) (xs := l) hle ⟨.inl rfl, l.map fun n => [Value.int .u8 n], ?_, fun j v hj => ?_⟩
    · clear hx hGg hG' htake hbs hle hlen hl hb hflat
      induction l with
      | nil => trivial
      | cons n l ih => exact ⟨rfl, ih⟩
    · rw [hflat, List.getElem?_map, Option.map_eq_some_iff] at hj
      obtain ⟨x, h1, rfl⟩ := hj
      refine ⟨?_, ?_⟩
      · have := hx j x h1
        unfold Cell
        simp only [Nat.zero_add]
        exact this
      · simp only [Nat.zero_add]
        unfold Gh.st
        rw [hGg]
        exact (List.getElem?_eq_some_iff.1 h1).1
  · refine ⟨some ⟨g, 0, none⟩, l.length, cap, rfl, hle, ?_⟩
    by_cases hc : l.length = cap
    · exact .inl hc
    · have hpos : 0 < cap := by omega
      have h1 := hcell (cap - 1) (by omega)
      unfold World.cell? at h1
      cases hob : w'.heap[g]? with
      | none => simp [hob] at h1
      | some ob =>
        cases ob with
        | cells cur et fz =>
          simp [hob] at h1
          refine .inr ⟨g, cur, (et, fz), rfl, by rw [hGg, show U8.size = 1 from rfl, Nat.mul_one], hg, hob, ?_, fun j hj h2 => ?_⟩
          · have := (Array.getElem?_eq_some_iff.1 h1).1
            show cap * 1 ≤ cur.size
            omega
          · have h3 := hfz j (by rw [show U8.size = 1 from rfl, Nat.mul_one] at hj; exact hj)
            unfold World.frozen? at h3
            simp [hob] at h3
            simp only at h2
            omega
        | _ => simp [hob] at h1

def isByte (n : Int) : Bool := decide (0 ≤ n) && decide (n ≤ 255)
def joinG (l : List (List Int)) (sep : List Int) : Option (List Int) :=
  bif decide (sep.length = 0) && (l.all (fun x => x.all isByte) && (decide (l.flatten.length ≤ 140737488355328) && decide (l.length ≤ 140737488355328))) then some l.flatten else none
theorem join_flat : ∀ (ls : List (List UInt8)), Lib.join ls [] = ls.flatten
  | [] => rfl
  | x :: r => by
    rw [Lib.join_cons, List.flatten_cons]
    congr 1
    unfold Lib.joinTail
    congr 1
    simp
theorem toBytes_flat (l : List (List Int)) : toBytes l.flatten = (l.map toBytes).flatten := by
  unfold toBytes
  rw [List.map_flatten]
theorem lens_flat (ls : List (List UInt8)) : Lib.lens ls = ls.flatten.length := by
  unfold Lib.lens
  rw [List.length_flatten]
/-- One cell for each part. -/
theorem parts_cells {G : Gh} {w : World} : ∀ (l : List (List Int)) (css : List (List Value)), Each (Rep G w (.slc U8)) l css → ∃ vs : List Value, css.flatten = vs ∧ vs.length = l.length ∧ ∀ (i : Nat) (v : Value) (x : List Int), vs[i]? = some v → l[i]? = some x → RepV G w (.slc U8) x v
  | [], [], _ => ⟨[], rfl, rfl, fun i v x h _ => by simp at h⟩
  | x :: l, c :: css, ⟨h1, h2⟩ => by
    obtain ⟨vs, e1, e2, e3⟩ := parts_cells l css h2
    obtain ⟨ao, cap, hc, hr⟩ := h1
    have hv : RepV G w (.slc U8) x (.slice ao (List.length (α := Int) x) cap) := ⟨_, ⟨ao, cap, rfl, hr⟩, rfl⟩
    refine ⟨.slice ao (List.length (α := Int) x) cap :: vs, by rw [List.flatten_cons, e1, hc]; rfl, by simp [e2], fun i v y h3 h4 => ?_⟩
    cases i with
    | zero =>
      simp only [List.getElem?_cons_zero, Option.some.injEq] at h3 h4
      subst h3; subst h4
      exact hv
    | succ i =>
      rw [List.getElem?_cons_succ] at h3 h4
      exact e3 i v y h3 h4
  | [], _ :: _, h => h.elim
  | _ :: _, [], h => h.elim

theorem soundE_join {P : Program} {ρ : Shelf.Ren} (L : SlLaysJ.n14 P ρ) (hcall : Callable P (ρ.f 14)) : SoundE P (ρ.f 14) ⟨[.data (.slc (.slc U8)), .data (.slc U8)], [.fresh U8], fun x => joinG x.1 x.2⟩ := by
  refine ⟨hcall, fun m t G w hm hlv x vs hA r hr => ?_⟩
  obtain ⟨l, sep⟩ := x
  obtain ⟨v0, _, rfl, h0, v1, rfl, h1⟩ := hA
  have h0 : RepV G w (.slc (.slc U8)) l v0 := h0
  have h1 : RepV G w (.slc U8) sep v1 := h1
  have hr : joinG l sep = some r := hr
  unfold joinG at hr
  cases hc : decide (sep.length = 0) && (l.all (fun x => x.all isByte) && (decide (l.flatten.length ≤ 140737488355328) && decide (l.length ≤ 140737488355328))) with
  | false => rw [hc] at hr; cases hr
  | true =>
    rw [hc, cond_true] at hr
    cases hr
    simp only [Bool.and_eq_true, decide_eq_true_eq, List.all_eq_true] at hc
    obtain ⟨hs0, hby, hsum, hlen⟩ := hc
    have hs0 : sep = [] := List.eq_nil_of_length_eq_zero hs0
    subst hs0
    have hbx : ∀ x ∈ l, ∀ n ∈ x, 0 ≤ n ∧ n ≤ 255 := fun x hx n hn => by
      have := hby x hx n hn
      simpa [isByte] using this
    have hbf : ∀ n ∈ l.flatten, 0 ≤ n ∧ n ≤ 255 := fun n hn => by
      obtain ⟨x, hx, hn⟩ := List.mem_flatten.1 hn
      exact hbx x hx n hn
    have fin : ∀ v' w', Lib.FreshBytes w.heap.size w' v' (toBytes l.flatten) → Below w.heap.size w w' → ∃ us G', Ending.returned v' = .returned (tupVal us) ∧ Fwd G w G' w' ∧ Lv t G' w' ∧ ResPs P G' w' m w.heap.size [.fresh U8] l.flatten us := by
      intro v' w' hf hb
      obtain ⟨G', q1, q2, q3⟩ := res_of_fresh (P := P) hm hlv hf hb hbf
      exact ⟨[v'], G', rfl, q1, q2, v', rfl, q3⟩
    obtain ⟨ao, cap, rfl, hcap, hrow⟩ := RepV.slc h0
    have hcap : l.length ≤ cap := hcap
    show Calls P (ρ.f 14) #[.slice ao l.length cap, v1] w _
    match l, ao with
    | [], ao =>
      refine (Any.bytes_Join_none L ao cap v1 w).mono ?_
      rintro e w' ⟨rfl, rfl⟩
      exact fin _ _ ⟨w.heap.size, 0, [], rfl, Nat.le_refl _, Nat.le_refl _, Nat.zero_le _, rfl, (fun x hx => by cases hx), rfl, (fun i hi => by omega), fun i hi => by omega⟩ ((Below.refl _ w).alloc (Nat.le_refl _) _)
    | x :: l, none => simp only at hrow; simp only [List.length_cons] at hcap; omega
    | x :: l, some a =>
      obtain ⟨hsp, css, hcs, hcells⟩ := hrow
      have hsp : a.spot = none := hsp.resolve_right (by simp only [List.length_cons] at hcap; omega)
      obtain ⟨b, o, sp⟩ := a
      cases hsp
      obtain ⟨vs, e1, e2, e3⟩ := parts_cells (x :: l) css hcs
      rw [e1] at hcells
      have hP : Lib.PartsAt w ⟨b, o, none⟩ vs ((x :: l).map toBytes) := ⟨by rw [e2, List.length_map], fun i v hv => by rw [Addr.add_lit]; exact (hcells i v hv).1, fun i v y hv hy => by
        rw [List.getElem?_map, Option.map_eq_some_iff] at hy
        obtain ⟨z, hz, rfl⟩ := hy
        exact holds_of_rep (e3 i v z hv hz) (hbx z (List.mem_of_getElem? hz))⟩
      by_cases h2 : l = []
      · subst h2
        obtain ⟨p, c0, l0, hl0, hcell, hnil, hb0⟩ := hP.get 0 (by simp)
        have hl0 : toBytes x = l0 := by simpa using hl0
        have hfl : toBytes ([x] : List (List Int)).flatten = l0 := by rw [← hl0]; simp
        have hcell : w.cell? ⟨b, o, none⟩ = some (.slice p l0.length c0) := by simpa [Addr.add_lit] using hcell
        by_cases hz : l0.length = 0
        · rw [hz] at hcell
          refine (Any.bytes_Join_one_empty L b o cap p c0 v1 w hcell).mono ?_
          rintro e w' ⟨rfl, rfl⟩
          have hxl : x = [] := by
            have : (toBytes x).length = 0 := by rw [hl0]; exact hz
            exact List.eq_nil_of_length_eq_zero (by simpa [toBytes] using this)
          subst hxl
          exact ⟨[.slice none 0 0], G, rfl, ⟨Below.refl _ _, fun _ _ => rfl⟩, hlv, _, rfl, RepV.mk_slc (e := U8) (xs := []) (Nat.le_refl 0) rfl, none, 0, 0, rfl, Nat.le_refl _, .inl rfl⟩
        · cases p with
          | none => rw [hnil rfl] at hz; exact absurd rfl hz
          | some ad =>
            have hle : l0.length ≤ 140737488355328 := by rw [← hfl]; simpa [toBytes] using hsum
            refine (Any.bytes_Join_one L b o cap ad c0 l0 v1 w hcell (fun i y hy => hb0 ad rfl i y hy) (by omega) hle).mono ?_
            rintro e w' ⟨v', rfl, hf, hb⟩
            exact fin v' w' (by rw [hfl]; exact hf) hb
      · have h2' : 2 ≤ (x :: l).length := by
          have : l.length ≠ 0 := fun e => h2 (List.eq_nil_of_length_eq_zero e)
          simp only [List.length_cons]; omega
        have hS : Lib.HoldsBytes w v1 [] := holds_of_rep h1 (fun n hn => by cases hn)
        refine (Any.bytes_Join_many L b o (x :: l).length cap vs ((x :: l).map toBytes) v1 [] w (List.length_map ..) h2' hP hcap hS hlen ?_).mono ?_
        · rw [lens_flat, ← toBytes_flat, List.length_nil, Nat.zero_mul, Nat.add_zero]
          rw [show (toBytes (x :: l).flatten).length = (x :: l).flatten.length from List.length_map ..]
          exact hsum
        · rintro e w' ⟨v', rfl, hf, hb⟩
          rw [join_flat, ← toBytes_flat] at hf
          exact fin v' w' hf hb
end Go.Vi
