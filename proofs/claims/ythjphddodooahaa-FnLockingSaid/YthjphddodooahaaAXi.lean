/- The executor is sound: operations together, and regions in their order. No condition beyond each law's own; nothing of the program. -/
import Derived.Test.YthjphddodooahaaAXh
namespace Go.Proofs.Ythjphddodooahaa.AX
open Go

theorem all_flat {zs : List Value} (h : zs.all flatB = true) : ∀ z ∈ zs, flatB z = true := by simpa using h
section
variable {P : Program} {o : Oper} {a : Act} {w : World} {K : Act → World → Prop} {Q : Exit → Act → World → Prop} {ρ : Map} {n : Nat} {T : Tm} {H H' : Heap} {v : Value}
/-- Whatever operation it is, but a call. -/
theorem op_sound {xo : XOp} (hc : cop P n o.op = some xo) (hT : TRel ρ n T a) (hR : Rel ρ H w) (hs : step T H xo = some (v, H')) : Sound P o a w K Q ρ H v H' := by
  cases hop : o.op with
  | move x =>
    rw [hop] at hc
    simp only [cop, Option.map_eq_some_iff] at hc
    obtain ⟨y, hy, rfl⟩ := hc
    exact s_mov (.inl hop) hy hT hR hs
  | assign x =>
    rw [hop] at hc
    simp only [cop, Option.map_eq_some_iff] at hc
    obtain ⟨y, hy, rfl⟩ := hc
    exact s_mov (.inr hop) hy hT hR hs
  | pick c x y =>
    rw [hop] at hc
    simp only [cop, Option.bind_eq_bind, Option.bind_eq_some_iff, Option.pure_def, Option.some.injEq] at hc
    obtain ⟨c', hc', x', hx', y', hy', rfl⟩ := hc
    exact s_pick hop hc' hx' hy' hT hR hs
  | alloc e =>
    rw [hop] at hc
    simp only [cop, Option.bind_eq_some_iff] at hc
    obtain ⟨zs, hz, hc⟩ := hc
    split at hc
    · rename_i hf
      injection hc with hc
      subst hc
      exact s_new hop hz (all_flat hf) hR hs
    · cases hc
  | box e x =>
    rw [hop] at hc
    simp only [cop, Option.map_eq_some_iff] at hc
    obtain ⟨y, hy, rfl⟩ := hc
    exact s_box hop hy hT hR hs
  | build t parts =>
    rw [hop] at hc
    simp only [cop] at hc
    split at hc
    · rename_i fs hu
      simp only [Option.bind_eq_bind, Option.bind_eq_some_iff] at hc
      obtain ⟨zs, hz, places, hp, ps, hps, hc⟩ := hc
      split at hc
      · rename_i hf
        injection hc with hc
        subst hc
        exact s_agg hop hu hz (all_flat hf) hp hps hT hR hs
      · cases hc
    · cases hc
  | buildSlice t len parts =>
    rw [hop] at hc
    simp only [cop] at hc
    split at hc
    · rename_i e hu
      simp only [Option.bind_eq_bind, Option.bind_eq_some_iff] at hc
      obtain ⟨i, hi, z, hz, hc⟩ := hc
      split at hc
      · cases hc
      · rename_i hcond
        simp only [Option.bind_eq_some_iff, Option.pure_def, Option.some.injEq] at hc
        obtain ⟨ps, hps, rfl⟩ := hc
        have h1 : ¬ len * i.size > 2 ^ 24 := fun h => hcond (.inl h)
        have h2 : z.cells.toList.all flatB = true := Classical.byContradiction fun h => hcond (.inr h)
        exact s_bsl hop hu hi hz (all_flat h2) rfl h1 hps hT hR hs
    · cases hc
  | load t p =>
    rw [hop] at hc
    simp only [cop, Option.bind_eq_bind, Option.bind_eq_some_iff] at hc
    obtain ⟨x, hx, ag, hag, hc⟩ := hc
    cases ag with
    | true =>
      simp only [Option.bind_eq_some_iff, Option.pure_def, Option.some.injEq] at hc
      obtain ⟨m, hm, rfl⟩ := hc
      exact s_loadN hop hx hag hm hT hR hs
    | false =>
      simp only [Option.pure_def, Option.some.injEq] at hc
      subst hc
      exact s_load1 hop hx hag hT hR hs
  | store t p x =>
    rw [hop] at hc
    simp only [cop, Option.bind_eq_bind, Option.bind_eq_some_iff, Option.pure_def, Option.some.injEq] at hc
    obtain ⟨m, hm, y, hy, z, hz, rfl⟩ := hc
    exact s_store hop hy hz hm hT hR hs
  | nilCheck x =>
    rw [hop] at hc
    simp only [cop, Option.map_eq_some_iff] at hc
    obtain ⟨y, hy, rfl⟩ := hc
    exact s_nilc hop hy hT hR hs
  | binOp op t x y yt =>
    rw [hop] at hc
    simp only [cop] at hc
    split at hc
    · simp only [Option.bind_eq_bind, Option.bind_eq_some_iff, Option.pure_def, Option.some.injEq] at hc
      obtain ⟨x', hx', y', hy', rfl⟩ := hc
      exact s_bin hop hx' hy' hT hR hs
    · simp only [Option.bind_eq_bind, Option.bind_eq_some_iff, Option.pure_def, Option.some.injEq] at hc
      obtain ⟨x', hx', y', hy', rfl⟩ := hc
      exact s_bin hop hx' hy' hT hR hs
    · simp only [Option.bind_eq_bind, Option.bind_eq_some_iff, Option.pure_def, Option.some.injEq] at hc
      obtain ⟨x', hx', y', hy', rfl⟩ := hc
      exact s_bin hop hx' hy' hT hR hs
    · rename_i hu
      split at hc
      · simp only [Option.bind_eq_bind, Option.bind_eq_some_iff, Option.pure_def, Option.some.injEq] at hc
        obtain ⟨x', hx', y', hy', rfl⟩ := hc
        exact s_binB (neg := false) rfl hop hu hx' hy' hT hR hs
      · simp only [Option.bind_eq_bind, Option.bind_eq_some_iff, Option.pure_def, Option.some.injEq] at hc
        obtain ⟨x', hx', y', hy', rfl⟩ := hc
        exact s_binB (neg := true) rfl hop hu hx' hy' hT hR hs
      · cases hc
    · cases hc
  | unOp op t x =>
    rw [hop] at hc
    simp only [cop, Option.map_eq_some_iff] at hc
    obtain ⟨y, hy, rfl⟩ := hc
    exact s_un hop hy hT hR hs
  | convert s d x =>
    rw [hop] at hc
    simp only [cop] at hc
    split at hc
    · rename_i k0 k hs0 hd
      simp only [Option.map_eq_some_iff] at hc
      obtain ⟨y, hy, rfl⟩ := hc
      exact s_toInt hop hs0 hd hy hT hR hs
    · rename_i k0 k hs0 hd
      simp only [Option.map_eq_some_iff] at hc
      obtain ⟨y, hy, rfl⟩ := hc
      exact s_toFlt hop hs0 hd hy hT hR hs
    · rename_i k0 k hs0 hd
      split at hc
      · rename_i hkk
        subst hkk
        simp only [Option.map_eq_some_iff] at hc
        obtain ⟨y, hy, rfl⟩ := hc
        exact s_flt hop hs0 hd hy hT hR hs
      · cases hc
    · cases hc
  | makeSlice t l c =>
    rw [hop] at hc
    simp only [cop] at hc
    split at hc
    · rename_i e hu
      simp only [Option.bind_eq_bind, Option.bind_eq_some_iff] at hc
      obtain ⟨i, hi, z, hz, hc⟩ := hc
      split at hc
      · rename_i hcond
        simp only [Option.bind_eq_some_iff, Option.pure_def, Option.some.injEq] at hc
        obtain ⟨l', hl', c', hc', rfl⟩ := hc
        exact s_mks hop hu hi hz hcond.1 hcond.2.1 hcond.2.2.1 (all_flat hcond.2.2.2) hl' hc' hT hR hs
      · cases hc
    · cases hc
  | slice t x lo hi mx =>
    rw [hop] at hc
    simp only [cop] at hc
    split at hc
    · rename_i e hu
      simp only [Option.bind_eq_bind, Option.bind_eq_some_iff, Option.pure_def, Option.some.injEq] at hc
      obtain ⟨m, hm, x', hx', lo', hlo, hi', hhi, mx', hmx, rfl⟩ := hc
      exact s_slc hop hu hm hx' hlo hhi hmx hT hR hs
    · rename_i hu
      split at hc
      · simp only [Option.bind_eq_bind, Option.bind_eq_some_iff, Option.pure_def, Option.some.injEq] at hc
        obtain ⟨x', hx', lo', hlo, hi', hhi, rfl⟩ := hc
        exact s_sstr hop hu hx' hlo hhi hT hR hs
      · cases hc
    · cases hc
  | fieldAddr s x f =>
    rw [hop] at hc
    simp only [cop] at hc
    split at hc
    · rename_i fs hu
      simp only [Option.bind_eq_bind, Option.bind_eq_some_iff] at hc
      obtain ⟨fd, hf, m, hm, hc⟩ := hc
      split at hc
      · cases hc
      · rename_i hm0
        simp only [Option.bind_eq_some_iff, Option.pure_def, Option.some.injEq] at hc
        first
          | (obtain ⟨y, hy, rfl⟩ := hc
             exact s_fad hop hu hf hm hm0 hy hT hR hs)
          | (obtain ⟨_, y, hy, rfl⟩ := hc
             exact s_fad hop hu hf hm hm0 hy hT hR hs)
    · cases hc
  | field s x f =>
    rw [hop] at hc
    simp only [cop] at hc
    split at hc
    · rename_i fs hu
      simp only [Option.bind_eq_bind, Option.bind_eq_some_iff] at hc
      obtain ⟨fd, hf, ag, hag, hc⟩ := hc
      cases ag with
      | true =>
        simp only [Option.bind_eq_some_iff, Option.pure_def, Option.some.injEq] at hc
        obtain ⟨m, hm, y, hy, rfl⟩ := hc
        exact s_fdvN hop hu hf hag hm hy hT hR hs
      | false =>
        simp only [Option.bind_eq_some_iff, Option.pure_def, Option.some.injEq] at hc
        obtain ⟨y, hy, rfl⟩ := hc
        exact s_fdv1 hop hu hf hag hy hT hR hs
    · cases hc
  | indexAddr t x i =>
    rw [hop] at hc
    simp only [cop] at hc
    split at hc
    · rename_i e hu
      simp only [Option.bind_eq_bind, Option.bind_eq_some_iff, Option.pure_def, Option.some.injEq] at hc
      obtain ⟨m, hm, y, hy, z, hz, rfl⟩ := hc
      exact s_idx hop hu hm hy hz hT hR hs
    · cases hc
  | index t x i =>
    rw [hop] at hc
    simp only [cop] at hc
    split at hc
    · rename_i hu
      simp only [Option.bind_eq_bind, Option.bind_eq_some_iff, Option.pure_def, Option.some.injEq] at hc
      obtain ⟨y, hy, z, hz, rfl⟩ := hc
      exact s_sidx hop hu hy hz hT hR hs
    · cases hc
  | extract x i =>
    rw [hop] at hc
    simp only [cop, Option.map_eq_some_iff] at hc
    obtain ⟨y, hy, rfl⟩ := hc
    exact s_ext hop hy hT hR hs
  | call c =>
    rw [hop] at hc
    obtain ⟨callee, args, ats⟩ := c
    cases callee with
    | value f =>
      cases f with
      | func f =>
        simp only [cop] at hc
        split at hc
        · split at hc
          · cases hc
          · simp only [Option.map_eq_some_iff] at hc
            obtain ⟨ys, _, rfl⟩ := hc
            simp [step] at hs
        · cases hc
      | _ => simp [cop] at hc
    | invoke r m => simp [cop] at hc
    | builtin b =>
      cases b with
      | len =>
        simp only [cop] at hc
        split at hc
        · rename_i x e hargs hu
          simp only [Option.map_eq_some_iff] at hc
          obtain ⟨y, hy, rfl⟩ := hc
          simp only [Option.bind_eq_some_iff] at hu
          obtain ⟨t, ht, hu⟩ := hu
          have ha : args = #[x] := by rw [← Array.toList_inj]; exact hargs
          subst ha
          exact s_len hop ht hu hy hT hR hs
        · rename_i x hargs hu
          simp only [Option.map_eq_some_iff] at hc
          obtain ⟨y, hy, rfl⟩ := hc
          simp only [Option.bind_eq_some_iff] at hu
          obtain ⟨t, ht, hu⟩ := hu
          have ha : args = #[x] := by rw [← Array.toList_inj]; exact hargs
          subst ha
          exact s_lenS hop ht hu hy hT hR hs
        · cases hc
      | append =>
        simp only [cop] at hc
        split at hc
        · rename_i s x st xt hargs hats
          split at hc
          · rename_i e hu
            simp only [Option.bind_eq_bind, Option.bind_eq_some_iff] at hc
            obtain ⟨i, hi, z, hz, hc⟩ := hc
            split at hc
            · rename_i hcond
              simp only [Option.bind_eq_some_iff, Option.pure_def, Option.some.injEq] at hc
              obtain ⟨s', hs', x', hx', rfl⟩ := hc
              obtain ⟨rfl, h1, h2, h3⟩ := hcond
              have ha : args = #[s, x] := by rw [← Array.toList_inj]; exact hargs
              have hb : ats = #[st, st] := by rw [← Array.toList_inj]; exact hats
              subst ha
              subst hb
              exact s_app hop hu hi hz h1 h3 hs' hx' hT hR hs
            · cases hc
          · cases hc
        · cases hc
      | max =>
        simp only [cop] at hc
        split at hc
        · rename_i x y hargs
          simp only [Option.bind_eq_bind, Option.bind_eq_some_iff, Option.pure_def, Option.some.injEq] at hc
          obtain ⟨x', hx', y', hy', rfl⟩ := hc
          have ha : args = #[x, y] := by rw [← Array.toList_inj]; exact hargs
          subst ha
          exact s_mm (mx := true) hop hx' hy' hT hR hs
        · cases hc
      | min =>
        simp only [cop] at hc
        split at hc
        · rename_i x y hargs
          simp only [Option.bind_eq_bind, Option.bind_eq_some_iff, Option.pure_def, Option.some.injEq] at hc
          obtain ⟨x', hx', y', hy', rfl⟩ := hc
          have ha : args = #[x, y] := by rw [← Array.toList_inj]; exact hargs
          subst ha
          exact s_mm (mx := false) hop hx' hy' hT hR hs
        · cases hc
      | _ => simp [cop] at hc
  | _ => rw [hop] at hc; simp [cop] at hc
end
end Go.Proofs.Ythjphddodooahaa.AX
