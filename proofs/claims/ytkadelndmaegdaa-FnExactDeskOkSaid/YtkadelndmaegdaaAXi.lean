/- The executor is sound: operations together, and regions in their order. No condition beyond each law's own; nothing of the program. -/
import Derived.Test.YtkadelndmaegdaaAXh
import Derived.Laws.StructEq
namespace Go.Proofs.Ytkadelndmaegdaa.AX
open Go

theorem all_flat {zs : List Value} (h : zs.all flatB = true) : ∀ z ∈ zs, flatB z = true := by simpa using h
section
variable {P : Program} {o : Oper} {a : Act} {w : World} {K : Act → World → Prop} {Q : Exit → Act → World → Prop} {ρ : Map} {n : Nat} {T : Tm} {H H' : Heap} {v : Value}
theorem caps_sound (hT : TRel ρ n T a) : ∀ (xs : List Operand) (ys : List XArg), xs.mapM (carg n) = some ys → (ys.all fun x => oneCell (ev T x) && noTup (ev T x)) = true → All2 (VL ρ) (ys.map (ev T)) (xs.map a.eval)
  | [], ys, h, _ => by simp at h; subst h; exact .nil
  | x :: xs, ys, h, hq => by
    simp only [List.mapM_cons, Option.bind_eq_bind, Option.bind_eq_some_iff, Option.pure_def, Option.some.injEq] at h
    obtain ⟨y, hy, ys', hys, rfl⟩ := h
    simp only [List.all_cons, Bool.and_eq_true] at hq
    exact .cons ((ev_sound hy hT).leaf_ hq.1.1 hq.1.2) (caps_sound hT xs ys' hys hq.2)
theorem s_clo {g : FuncId} {caps : Array Operand} {ys : List XArg} (ho : o.op = .makeFunc (.func g) #[] caps) (hys : cargs n caps = some ys) (hT : TRel ρ n T a) (hR : Rel ρ H w) (hs : step T H (.clo g ys) = some (v, H')) : Sound P o a w K Q ρ H v H' := by
  simp only [step] at hs
  split at hs
  · rename_i hq
    simp only [Option.some.injEq, Prod.mk.injEq] at hs
    obtain ⟨rfl, rfl⟩ := hs
    intro hk
    have hr : (execOp a.eval o).run P w = .ok (.value (.func (.func g) #[] (caps.map a.eval))) w := by simp [execOp, ho, Instr.makeFunc]
    refine wp_of_run hr (hk _ _ _ (.fn ?_) (Next.refl hR))
    simpa using caps_sound hT _ _ hys hq
  · cases hs
theorem byteVs_sound : ∀ {l cs : List Value} {zs : List Int}, All2 (VL ρ) l cs → byteVs l = some zs → cs = zs.map (Value.int .u8)
  | [], _, zs, .nil, h => by
    simp only [byteVs, Option.some.injEq] at h
    subst h
    rfl
  | a :: l, _, zs, .cons h1 h2, h => by
    cases a with
    | int k z =>
      cases k <;> simp only [byteVs, Option.map_eq_some_iff, reduceCtorEq] at h
      obtain ⟨ys, h3, rfl⟩ := h
      have e := byteVs_sound h2 h3
      cases h1 with
      | flat _ => rw [e]; rfl
    | _ => simp [byteVs] at h
theorem s_b2s {s d e : TypeId} {x : Operand} {y : XArg} (ho : o.op = .convert s d x) (hs0 : P.underlying s = some (.slice e)) (he : P.underlying e = some (.int .u8)) (hd : P.underlying d = some .string) (hx : carg n x = some y) (hT : TRel ρ n T a) (hR : Rel ρ H w) (hs : step T H (.b2s y) = some (v, H')) : Sound P o a w K Q ρ H v H' := by
  intro hk
  have h1 := ev_sound hx hT
  simp only [step, Option.map_eq_some_iff, Prod.mk.injEq] at hs
  obtain ⟨u, hu, rfl, rfl⟩ := hs
  have fin : (convert s d (a.eval x)).run P w = .ok (.string u) w → o.wp P a w K Q := fun hr => by
    refine wp_of_run (w' := w) (v' := .string u) ?_ (hk _ _ _ (.one (.leaf (.flat rfl))) (Next.refl hR))
    simp [execOp, ho, hr]
  unfold byts at hu
  split at hu
  · rename_i e1
    rw [e1] at h1
    rw [h1.nilslice] at fin
    injection hu with hu
    subst hu
    exact fin (run_convert_bytes_nil w s e hs0 he 0 0 d hd)
  · rename_i i off m sz e1
    rw [e1] at h1
    split at hu
    · rename_i hm
      injection hu with hu
      subst hu hm
      have hz : ∀ ad c, a.eval x = .slice (some ad) 0 c → o.wp P a w K Q := fun ad c e2 => fin (by
        have hlc := run_loadCells_list (P := P) w ad [] (by simp)
        rw [e2, run_convert_bytes_string w s d e _ 0 c hs0 he hd, run_bytesToString w ad 0 c [] (by simpa using hlc)]
        rfl)
      rcases h1.slice with ⟨b, L, c, _, _, _, e2⟩ | ⟨_, ⟨ad, e2⟩, _⟩
      · exact hz _ _ e2
      · exact hz _ _ e2
    · rename_i hm
      split at hu
      · rename_i ob hob
        split at hu
        · rename_i hl
          obtain ⟨rfl, hl⟩ := hl
          simp only [Option.map_eq_some_iff] at hu
          obtain ⟨zs, hz, rfl⟩ := hu
          rcases h1.slice with ⟨b, L, c, hr, _, _, e2⟩ | ⟨h0, _⟩
          · obtain ⟨cs, h2, h3, h4⟩ := seg_of hR hob hr off m hl
            have e3 := byteVs_sound h3 hz
            have hlc := run_loadCells_list (P := P) w (b.add off) cs h4
            rw [h2, e3] at hlc
            refine fin ?_
            rw [e2, run_convert_bytes_string w s d e _ m c hs0 he hd, run_bytesToString w _ m c zs hlc, foldl_push_bytes]
            simp [strOfNums, ByteArray.empty, ByteArray.emptyWithCapacity]
            rfl
          · exact absurd h0 hm
        · cases hu
      · cases hu
  · cases hu
theorem eqFields_sound {d : Nat} {xs ys xs' ys' : Array Value} (hx : All2 (VL ρ) xs.toList xs'.toList) (hy : All2 (VL ρ) ys.toList ys'.toList) : ∀ {fs : List Field} {os : List (Nat × Nat)} {r : Bool}, cmpOffs P fs = some os → ceqs xs ys os = some r → (Op.eqFields (d + 1) xs' ys' fs).run P w = .ok r w
  | [], os, r, h, hr => by
    simp only [cmpOffs, Option.some.injEq] at h
    subst h
    simp only [ceqs, Option.some.injEq] at hr
    subst hr
    simp [Op.eqFields]
  | f :: fs, os, r, h, hr => by
    simp only [cmpOffs] at h
    split at h
    · cases h
    · rename_i hname
      have key : ∀ tag os', cmpOffs P fs = some os' → os = (f.offset, tag) :: os' → (∀ (b : Bool) (u v u' v' : Value), ceq tag u v = some b → VL ρ u u' → VL ρ v v' → (Op.equalIn (d + 1) f.type u' v').run P w = .ok b w) → (isAgg f.type).run P w = .ok false w → (Op.eqFields (d + 1) xs' ys' (f :: fs)).run P w = .ok r w := by
        rintro tag os' h1 rfl heq hag
        simp only [ceqs] at hr
        split at hr
        · rename_i u v hu hv
          obtain ⟨u', hu', hru⟩ := hx.get f.offset u (by simpa using hu)
          obtain ⟨v', hv', hrv⟩ := hy.get f.offset v (by simpa using hv)
          have hu2 : xs'[f.offset]? = some u' := by simpa using hu'
          have hv2 : ys'[f.offset]? = some v' := by simpa using hv'
          have p1 : (part f.type xs' f.offset).run P w = .ok u' w := by simp [part, hag, hu2]
          have p2 : (part f.type ys' f.offset).run P w = .ok v' w := by simp [part, hag, hv2]
          split at hr
          · rename_i hc
            have e1 := heq true u v u' v' hc hru hrv
            have e2 := eqFields_sound (d := d) hx hy h1 hr
            simp [Op.eqFields, hname, p1, p2, e1, e2]
          · rename_i hc
            have e1 := heq false u v u' v' hc hru hrv
            injection hr with hr
            subst hr
            simp [Op.eqFields, hname, p1, p2, e1]
          · cases hr
        · cases hr
      split at h
      · rename_i os' hu hos
        injection h with h
        refine key 0 os' hos h.symm (fun b u v u' v' hc h1 h2 => ?_) (by simp [isAgg, run_underlying hu])
        cases u <;> cases v <;> simp only [ceq, reduceCtorEq, Option.some.injEq] at hc
        subst hc
        cases h1; cases h2
        exact run_equalIn_bool' w d f.type _ _ hu
      · rename_i k os' hu hos
        injection h with h
        refine key 1 os' hos h.symm (fun b u v u' v' hc h1 h2 => ?_) (by simp [isAgg, run_underlying hu])
        cases u <;> cases v <;> simp only [ceq, reduceCtorEq] at hc
        split at hc
        · rename_i hk
          subst hk
          injection hc with hc
          subst hc
          cases h1; cases h2
          rw [run_equalIn_int w d f.type _ _ _ _ hu]
          congr 1
        · cases hc
      · rename_i os' hu hos
        injection h with h
        refine key 2 os' hos h.symm (fun b u v u' v' hc h1 h2 => ?_) (by simp [isAgg, run_underlying hu])
        cases u <;> cases v <;> simp only [ceq, reduceCtorEq, Option.some.injEq] at hc
        subst hc
        cases h1; cases h2
        exact run_equalIn_string w d f.type _ _ hu
      · cases h
theorem s_cmp {neg : Bool} {op : BinOp} {t yt : TypeId} {x y : Operand} {x' y' : XArg} {fs : Array Field} {os : List (Nat × Nat)} (hop : op = if neg then .neq else .eql) (ho : o.op = .binOp op t x y yt) (hu : P.underlying t = some (.struct fs)) (hst : P.stoodInHeld t = false) (hg : P.eqGuardType P.depth t = false) (hos : cmpOffs P fs.toList = some os) (hx : carg n x = some x') (hy : carg n y = some y')
    (hT : TRel ρ n T a) (hR : Rel ρ H w) (hs : step T H (.cmp neg os x' y') = some (v, H')) : Sound P o a w K Q ρ H v H' := by
  intro hk
  have h1 := ev_sound hx hT
  have h2 := ev_sound hy hT
  simp only [step] at hs
  split at hs
  · rename_i xs ys e1 e2
    rw [e1] at h1
    rw [e2] at h2
    obtain ⟨xs', f1, r1⟩ := h1.agg_
    obtain ⟨ys', f2, r2⟩ := h2.agg_
    simp only [Option.map_eq_some_iff, Prod.mk.injEq] at hs
    obtain ⟨b, hb, rfl, rfl⟩ := hs
    have hfo : P.fieldsOf t = fs := by simp [Program.fieldsOf, hu]
    have heq : (Op.equalIn 10000 t (.agg xs') (.agg ys')).run P w = .ok b w := by
      rw [run_equalIn_struct w 9999 t xs' ys' (by rw [hfo]; exact hu) hst, hfo]
      exact eqFields_sound (d := 9998) r1 r2 hos hb
    refine wp_of_run (w' := w) (v' := .bool (b != neg)) ?_ (hk _ _ _ (.one (.leaf (.flat rfl))) (Next.refl hR))
    have hgd := run_eqGuard_agg (P := P) w op t x y xs' ys' hg
    cases neg with
    | false =>
      have hop' : op = .eql := by simpa using hop
      subst hop'
      have hr := run_eql_struct (P := P) w t xs' ys'
      rw [heq] at hr
      simp only [execOp, ho, f1, f2, Sem.run_bind]
      simp [hgd, hr]
    | true =>
      have hop' : op = .neq := by simpa using hop
      subst hop'
      have hr := run_neq_struct (P := P) w t xs' ys'
      rw [heq] at hr
      simp only [execOp, ho, f1, f2, Sem.run_bind]
      simp [hgd, hr]
  · cases hs
/-- Whatever operation it is, but a call. -/
theorem op_sound {xo : XOp} (hc : cop P n o.op = some xo) (hT : TRel ρ n T a) (hR : Rel ρ H w) (hs : step T H xo = some (v, H')) : Sound P o a w K Q ρ H v H' := by
  cases hop : o.op with
  | move x =>
    rw [hop] at hc
    simp only [cop, Option.map_eq_some_iff] at hc
    obtain ⟨y, hy, rfl⟩ := hc
    exact s_mov (.inl hop) hy hT hR hs
  | assign x =>
    rw [hop] at hc
    simp only [cop, Option.map_eq_some_iff] at hc
    obtain ⟨y, hy, rfl⟩ := hc
    exact s_mov (.inr hop) hy hT hR hs
  | pick c x y =>
    rw [hop] at hc
    simp only [cop, Option.bind_eq_bind, Option.bind_eq_some_iff, Option.pure_def, Option.some.injEq] at hc
    obtain ⟨c', hc', x', hx', y', hy', rfl⟩ := hc
    exact s_pick hop hc' hx' hy' hT hR hs
  | alloc e =>
    rw [hop] at hc
    simp only [cop, Option.bind_eq_some_iff] at hc
    obtain ⟨zs, hz, hc⟩ := hc
    split at hc
    · rename_i hf
      injection hc with hc
      subst hc
      exact s_new hop hz (all_flat hf) hR hs
    · cases hc
  | box e x =>
    rw [hop] at hc
    simp only [cop, Option.map_eq_some_iff] at hc
    obtain ⟨y, hy, rfl⟩ := hc
    exact s_box hop hy hT hR hs
  | build t parts =>
    rw [hop] at hc
    simp only [cop] at hc
    split at hc
    · rename_i fs hu
      simp only [Option.bind_eq_bind, Option.bind_eq_some_iff] at hc
      obtain ⟨zs, hz, places, hp, ps, hps, hc⟩ := hc
      split at hc
      · rename_i hf
        injection hc with hc
        subst hc
        exact s_agg hop hu hz (all_flat hf) hp hps hT hR hs
      · cases hc
    · cases hc
  | buildSlice t len parts =>
    rw [hop] at hc
    simp only [cop] at hc
    split at hc
    · rename_i e hu
      simp only [Option.bind_eq_bind, Option.bind_eq_some_iff] at hc
      obtain ⟨i, hi, z, hz, hc⟩ := hc
      split at hc
      · cases hc
      · rename_i hcond
        simp only [Option.bind_eq_some_iff, Option.pure_def, Option.some.injEq] at hc
        obtain ⟨ps, hps, rfl⟩ := hc
        have h1 : ¬ len * i.size > 2 ^ 24 := fun h => hcond (.inl h)
        have h2 : z.cells.toList.all flatB = true := Classical.byContradiction fun h => hcond (.inr h)
        exact s_bsl hop hu hi hz (all_flat h2) rfl h1 hps hT hR hs
    · cases hc
  | load t p =>
    rw [hop] at hc
    simp only [cop, Option.bind_eq_bind, Option.bind_eq_some_iff] at hc
    obtain ⟨x, hx, ag, hag, hc⟩ := hc
    cases ag with
    | true =>
      simp only [Option.bind_eq_some_iff, Option.pure_def, Option.some.injEq] at hc
      obtain ⟨m, hm, rfl⟩ := hc
      exact s_loadN hop hx hag hm hT hR hs
    | false =>
      simp only [Option.pure_def, Option.some.injEq] at hc
      subst hc
      exact s_load1 hop hx hag hT hR hs
  | store t p x =>
    rw [hop] at hc
    simp only [cop, Option.bind_eq_bind, Option.bind_eq_some_iff, Option.pure_def, Option.some.injEq] at hc
    obtain ⟨m, hm, y, hy, z, hz, rfl⟩ := hc
    exact s_store hop hy hz hm hT hR hs
  | nilCheck x =>
    rw [hop] at hc
    simp only [cop, Option.map_eq_some_iff] at hc
    obtain ⟨y, hy, rfl⟩ := hc
    exact s_nilc hop hy hT hR hs
  | binOp op t x y yt =>
    rw [hop] at hc
    simp only [cop] at hc
    split at hc
    · simp only [Option.bind_eq_bind, Option.bind_eq_some_iff, Option.pure_def, Option.some.injEq] at hc
      obtain ⟨x', hx', y', hy', rfl⟩ := hc
      exact s_bin hop hx' hy' hT hR hs
    · simp only [Option.bind_eq_bind, Option.bind_eq_some_iff, Option.pure_def, Option.some.injEq] at hc
      obtain ⟨x', hx', y', hy', rfl⟩ := hc
      exact s_bin hop hx' hy' hT hR hs
    · simp only [Option.bind_eq_bind, Option.bind_eq_some_iff, Option.pure_def, Option.some.injEq] at hc
      obtain ⟨x', hx', y', hy', rfl⟩ := hc
      exact s_bin hop hx' hy' hT hR hs
    · rename_i hu
      split at hc
      · simp only [Option.bind_eq_bind, Option.bind_eq_some_iff, Option.pure_def, Option.some.injEq] at hc
        obtain ⟨x', hx', y', hy', rfl⟩ := hc
        exact s_binB (neg := false) rfl hop hu hx' hy' hT hR hs
      · simp only [Option.bind_eq_bind, Option.bind_eq_some_iff, Option.pure_def, Option.some.injEq] at hc
        obtain ⟨x', hx', y', hy', rfl⟩ := hc
        exact s_binB (neg := true) rfl hop hu hx' hy' hT hR hs
      · cases hc
    · rename_i fs hu
      split at hc
      · cases hc
      · rename_i hq
        have hq1 : P.stoodInHeld t = false := by
          cases h : P.stoodInHeld t with
          | false => rfl
          | true => exact absurd (.inl h) hq
        have hq2 : P.eqGuardType P.depth t = false := by
          cases h : P.eqGuardType P.depth t with
          | false => rfl
          | true => exact absurd (.inr h) hq
        split at hc
        · simp only [Option.bind_eq_bind, Option.bind_eq_some_iff, Option.pure_def, Option.some.injEq] at hc
          obtain ⟨os, hos, x', hx', y', hy', rfl⟩ := hc
          exact s_cmp (neg := false) rfl hop hu hq1 hq2 hos hx' hy' hT hR hs
        · simp only [Option.bind_eq_bind, Option.bind_eq_some_iff, Option.pure_def, Option.some.injEq] at hc
          obtain ⟨os, hos, x', hx', y', hy', rfl⟩ := hc
          exact s_cmp (neg := true) rfl hop hu hq1 hq2 hos hx' hy' hT hR hs
        · cases hc
    · cases hc
  | unOp op t x =>
    rw [hop] at hc
    simp only [cop, Option.map_eq_some_iff] at hc
    obtain ⟨y, hy, rfl⟩ := hc
    exact s_un hop hy hT hR hs
  | convert s d x =>
    rw [hop] at hc
    simp only [cop] at hc
    split at hc
    · rename_i k0 k hs0 hd
      simp only [Option.map_eq_some_iff] at hc
      obtain ⟨y, hy, rfl⟩ := hc
      exact s_toInt hop hs0 hd hy hT hR hs
    · rename_i k0 k hs0 hd
      simp only [Option.map_eq_some_iff] at hc
      obtain ⟨y, hy, rfl⟩ := hc
      exact s_toFlt hop hs0 hd hy hT hR hs
    · rename_i k0 k hs0 hd
      split at hc
      · rename_i hkk
        subst hkk
        simp only [Option.map_eq_some_iff] at hc
        obtain ⟨y, hy, rfl⟩ := hc
        exact s_flt hop hs0 hd hy hT hR hs
      · cases hc
    · rename_i e hs0 hd
      split at hc
      · rename_i he
        simp only [Option.map_eq_some_iff] at hc
        obtain ⟨y, hy, rfl⟩ := hc
        exact s_b2s hop hs0 he hd hy hT hR hs
      · cases hc
    · cases hc
  | makeSlice t l c =>
    rw [hop] at hc
    simp only [cop] at hc
    split at hc
    · rename_i e hu
      simp only [Option.bind_eq_bind, Option.bind_eq_some_iff] at hc
      obtain ⟨i, hi, z, hz, hc⟩ := hc
      split at hc
      · rename_i hcond
        simp only [Option.bind_eq_some_iff, Option.pure_def, Option.some.injEq] at hc
        obtain ⟨l', hl', c', hc', rfl⟩ := hc
        exact s_mks hop hu hi hz hcond.1 hcond.2.1 hcond.2.2.1 (all_flat hcond.2.2.2) hl' hc' hT hR hs
      · cases hc
    · cases hc
  | slice t x lo hi mx =>
    rw [hop] at hc
    simp only [cop] at hc
    split at hc
    · rename_i e hu
      simp only [Option.bind_eq_bind, Option.bind_eq_some_iff, Option.pure_def, Option.some.injEq] at hc
      obtain ⟨m, hm, x', hx', lo', hlo, hi', hhi, mx', hmx, rfl⟩ := hc
      exact s_slc hop hu hm hx' hlo hhi hmx hT hR hs
    · rename_i hu
      split at hc
      · simp only [Option.bind_eq_bind, Option.bind_eq_some_iff, Option.pure_def, Option.some.injEq] at hc
        obtain ⟨x', hx', lo', hlo, hi', hhi, rfl⟩ := hc
        exact s_sstr hop hu hx' hlo hhi hT hR hs
      · cases hc
    · cases hc
  | fieldAddr s x f =>
    rw [hop] at hc
    simp only [cop] at hc
    split at hc
    · rename_i fs hu
      simp only [Option.bind_eq_bind, Option.bind_eq_some_iff] at hc
      obtain ⟨fd, hf, m, hm, hc⟩ := hc
      split at hc
      · cases hc
      · rename_i hm0
        simp only [Option.bind_eq_some_iff, Option.pure_def, Option.some.injEq] at hc
        first
          | (obtain ⟨y, hy, rfl⟩ := hc
             exact s_fad hop hu hf hm hm0 hy hT hR hs)
          | (obtain ⟨_, y, hy, rfl⟩ := hc
             exact s_fad hop hu hf hm hm0 hy hT hR hs)
    · cases hc
  | field s x f =>
    rw [hop] at hc
    simp only [cop] at hc
    split at hc
    · rename_i fs hu
      simp only [Option.bind_eq_bind, Option.bind_eq_some_iff] at hc
      obtain ⟨fd, hf, ag, hag, hc⟩ := hc
      cases ag with
      | true =>
        simp only [Option.bind_eq_some_iff, Option.pure_def, Option.some.injEq] at hc
        obtain ⟨m, hm, y, hy, rfl⟩ := hc
        exact s_fdvN hop hu hf hag hm hy hT hR hs
      | false =>
        simp only [Option.bind_eq_some_iff, Option.pure_def, Option.some.injEq] at hc
        obtain ⟨y, hy, rfl⟩ := hc
        exact s_fdv1 hop hu hf hag hy hT hR hs
    · cases hc
  | indexAddr t x i =>
    rw [hop] at hc
    simp only [cop] at hc
    split at hc
    · rename_i e hu
      simp only [Option.bind_eq_bind, Option.bind_eq_some_iff, Option.pure_def, Option.some.injEq] at hc
      obtain ⟨m, hm, y, hy, z, hz, rfl⟩ := hc
      exact s_idx hop hu hm hy hz hT hR hs
    · rename_i len e hu
      simp only [Option.bind_eq_bind, Option.bind_eq_some_iff, Option.pure_def, Option.some.injEq] at hc
      obtain ⟨m, hm, y, hy, z, hz, rfl⟩ := hc
      exact s_aidx hop hu hm hy hz hT hR hs
    · cases hc
  | index t x i =>
    rw [hop] at hc
    simp only [cop] at hc
    split at hc
    · rename_i hu
      simp only [Option.bind_eq_bind, Option.bind_eq_some_iff, Option.pure_def, Option.some.injEq] at hc
      obtain ⟨y, hy, z, hz, rfl⟩ := hc
      exact s_sidx hop hu hy hz hT hR hs
    · cases hc
  | extract x i =>
    rw [hop] at hc
    simp only [cop, Option.map_eq_some_iff] at hc
    obtain ⟨y, hy, rfl⟩ := hc
    exact s_ext hop hy hT hR hs
  | call c =>
    rw [hop] at hc
    obtain ⟨callee, args, ats⟩ := c
    cases callee with
    | value f =>
      cases f with
      | func f =>
        simp only [cop] at hc
        split at hc
        · split at hc
          · cases hc
          · simp only [Option.map_eq_some_iff] at hc
            obtain ⟨ys, _, rfl⟩ := hc
            simp [step] at hs
        · cases hc
      | tmp t =>
        simp only [cop] at hc
        split at hc
        · simp only [Option.map_eq_some_iff] at hc
          obtain ⟨ys, _, rfl⟩ := hc
          simp [step] at hs
        · cases hc
      | _ => simp [cop] at hc
    | invoke r m => simp [cop] at hc
    | builtin b =>
      cases b with
      | len =>
        simp only [cop] at hc
        split at hc
        · rename_i x e hargs hu
          simp only [Option.map_eq_some_iff] at hc
          obtain ⟨y, hy, rfl⟩ := hc
          simp only [Option.bind_eq_some_iff] at hu
          obtain ⟨t, ht, hu⟩ := hu
          have ha : args = #[x] := by rw [← Array.toList_inj]; exact hargs
          subst ha
          exact s_len hop ht hu hy hT hR hs
        · rename_i x hargs hu
          simp only [Option.map_eq_some_iff] at hc
          obtain ⟨y, hy, rfl⟩ := hc
          simp only [Option.bind_eq_some_iff] at hu
          obtain ⟨t, ht, hu⟩ := hu
          have ha : args = #[x] := by rw [← Array.toList_inj]; exact hargs
          subst ha
          exact s_lenS hop ht hu hy hT hR hs
        · cases hc
      | append =>
        simp only [cop] at hc
        split at hc
        · rename_i s x st xt hargs hats
          split at hc
          · rename_i e hu
            simp only [Option.bind_eq_bind, Option.bind_eq_some_iff] at hc
            obtain ⟨i, hi, z, hz, hc⟩ := hc
            split at hc
            · rename_i hcond
              simp only [Option.bind_eq_some_iff, Option.pure_def, Option.some.injEq] at hc
              obtain ⟨s', hs', x', hx', rfl⟩ := hc
              obtain ⟨rfl, h1, h2, h3⟩ := hcond
              have ha : args = #[s, x] := by rw [← Array.toList_inj]; exact hargs
              have hb : ats = #[st, st] := by rw [← Array.toList_inj]; exact hats
              subst ha
              subst hb
              exact s_app hop hu hi hz h1 h3 hs' hx' hT hR hs
            · cases hc
          · cases hc
        · cases hc
      | max =>
        simp only [cop] at hc
        split at hc
        · rename_i x y hargs
          simp only [Option.bind_eq_bind, Option.bind_eq_some_iff, Option.pure_def, Option.some.injEq] at hc
          obtain ⟨x', hx', y', hy', rfl⟩ := hc
          have ha : args = #[x, y] := by rw [← Array.toList_inj]; exact hargs
          subst ha
          exact s_mm (mx := true) hop hx' hy' hT hR hs
        · cases hc
      | min =>
        simp only [cop] at hc
        split at hc
        · rename_i x y hargs
          simp only [Option.bind_eq_bind, Option.bind_eq_some_iff, Option.pure_def, Option.some.injEq] at hc
          obtain ⟨x', hx', y', hy', rfl⟩ := hc
          have ha : args = #[x, y] := by rw [← Array.toList_inj]; exact hargs
          subst ha
          exact s_mm (mx := false) hop hx' hy' hT hR hs
        · cases hc
      | _ => simp [cop] at hc
  | makeFunc g first caps =>
    rw [hop] at hc
    cases g with
    | func g =>
      simp only [cop] at hc
      split at hc
      · rename_i hf
        simp only [Option.map_eq_some_iff] at hc
        obtain ⟨ys, hys, rfl⟩ := hc
        have e0 : first = #[] := by simpa using hf
        subst e0
        exact s_clo hop hys hT hR hs
      · cases hc
    | _ => simp [cop] at hc
  | _ => rw [hop] at hc; simp [cop] at hc
end
end Go.Proofs.Ytkadelndmaegdaa.AX
