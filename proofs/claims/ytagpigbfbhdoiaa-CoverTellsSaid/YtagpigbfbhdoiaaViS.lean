/- One operation: what the interpreter says is what the model does. -/
import Derived.Test.YtagpigbfbhdoiaaViR
namespace Go.Vi

theorem evalOp_sound {P : Program} {C : Ctx} (hC : CtxOk P C) {N : Nat} {F : Fr} {g : Gs} {s : St} {a : Act} {w : World} (hinv : Inv P N F g s a w) {o : Oper} (hd : dstLt N F o.dst)
    {e : Eff} (he : (evalOp C o s).is e) : Shown P N F s a w o e := by
  have T := hC.types
  unfold evalOp at he
  split at he
  · rename_i x hop
    obtain ⟨_, rfl⟩ := he
    exact shown_move hinv hd (.inl hop)
  · rename_i x hop
    obtain ⟨_, rfl⟩ := he
    exact shown_move hinv hd (.inr hop)
  · rename_i c x y hop
    exact shown_pick hinv hd hop he
  · rename_i t hop
    split at he
    · rename_i d te hdst hte
      split at he
      · rename_i n hn
        obtain ⟨_, rfl⟩ := he
        exact shown_alloc T hinv hd hop hdst hte hn
      · exact he.elim
    · exact he.elim
  · rename_i t x hop
    exact shown_box hinv hd hop he
  · rename_i t parts hop
    exact shown_build T hinv hd hop he
  · rename_i t len parts hop
    exact shown_buildSlice T hinv hd hop he
  · rename_i t x hop
    exact shown_load T hinv hd hC.fts hC.pts hop he
  · rename_i t x y hop
    exact shown_store T hinv hd hop he
  · rename_i x hop
    exact shown_nilCheck hinv hd hop he
  · rename_i op t x y yt hop
    exact shown_bin T hinv hd hC.fts hop he
  · rename_i op t x hop
    exact shown_un hinv hd hop he
  · rename_i src dst x hop
    exact shown_convert T hinv hd hop he
  · rename_i f first caps hop
    exact shown_makeFunc hC hinv hd hop he
  · rename_i t x lo hi mx hop
    unfold sliceS at he
    split at he
    · rename_i lo' hi' mx' te h1 h2 h3 hte
      split at he
      · rename_i ee hty
        split at he
        · rename_i xs hxs
          exact shown_slice_list T hinv hd hop hte hty h1 h2 h3 hxs he
        · exact he.elim
      · rename_i n ee hty
        split at he
        · rename_i id k root hx
          split at he
          · rename_i fz σ y hbox
            split at he
            · rename_i ys hc
              cases castD_some hc
              cases hb : (Ty.arr n ee).beq root with
              | false => rw [hb] at he; exact he.elim
              | true =>
                rw [hb, cond_true] at he
                split at he
                · rename_i pre ef hsl
                  obtain ⟨hp, rfl⟩ := he
                  exact shown_slice_arr T hinv hd hop hte hty h1 h2 h3 hx hbox hsl hp
                · exact he.elim
            · exact he.elim
          · exact he.elim
        · exact he.elim
      · rename_i hty
        split at he
        · split at he
          · rename_i b hb
            obtain ⟨hp, rfl⟩ := he
            exact shown_slice_str T hinv hd hop hte hty h1 h2 h3 hb hp
          · exact he.elim
        · exact he.elim
      · exact he.elim
    · exact he.elim
  · rename_i t x f hop
    exact shown_fieldAddr T hinv hd hop he
  · rename_i t x f hop
    exact shown_field T hinv hd hop he
  · rename_i t x i hop
    exact shown_indexAddr T hinv hd hop he
  · rename_i t x i hop
    exact shown_index T hinv hd hop he
  · rename_i x i hop
    exact shown_extract hinv hd hop he
  · rename_i b args ts hop
    split at he
    · split at he
      · rename_i t x hts hargs
        have hts' : ts = #[t] := by apply Array.ext'; exact hts
        subst hts'
        exact shown_len T hinv hd hop hargs he
      · exact he.elim
    · have hap : ∀ (ts' : List Nat) (as' : List Operand), ts.toList = ts' → args.toList = as' → (appendS C s o.dst ts' (as'.map s.ev)).is e → Shown P N F s a w o e := by
        intro ts' as' h1 h2 he
        match ts', as', h1, h2, he with
        | [t, t'], [x, y], h1, h2, he =>
          have h1' : ts = #[t, t'] := by apply Array.ext'; exact h1
          have h2' : args = #[x, y] := by apply Array.ext'; exact h2
          subst h1'; subst h2'
          exact shown_append hinv hd T hop he
        | [], _, _, _, he => cases hdst : o.dst <;> rw [hdst] at he <;> exact he.elim
        | [_], _, _, _, he => cases hdst : o.dst <;> rw [hdst] at he <;> exact he.elim
        | _ :: _ :: _ :: _, _, _, _, he => cases hdst : o.dst <;> rw [hdst] at he <;> exact he.elim
        | [_, _], [], _, _, he => cases hdst : o.dst <;> rw [hdst] at he <;> exact he.elim
        | [_, _], [_], _, _, he => cases hdst : o.dst <;> rw [hdst] at he <;> exact he.elim
        | [_, _], _ :: _ :: _ :: _, _, _, he => cases hdst : o.dst <;> rw [hdst] at he <;> exact he.elim
      exact hap _ _ rfl rfl he
    · refine shown_minmax hinv hd .min minI Builtin.min2 (fun ts t cs vs v r h => ?_) (fun k l p q => ?_) hop he
      · simp only [builtin, Builtin.min_, h]
      · rfl
    · refine shown_minmax hinv hd .max maxI Builtin.max2 (fun ts t cs vs v r h => ?_) (fun k l p q => ?_) hop he
      · simp only [builtin, Builtin.max_, h]
      · rfl
    · exact he.elim
  · rename_i f args ts hop
    exact shown_call hC hinv hd hop he
  · exact he.elim
end Go.Vi
