/- Each operation of the executor is what the model's operation does: second part. No condition beyond each law's own; nothing of the program. -/
import Derived.Test.YtkadelndmaegdaaAXd
import Derived.Great.BuildSlice
namespace Go.Proofs.Ytkadelndmaegdaa.AX
open Go

theorem foldl_set (off : Nat) : ∀ (vs : List Value) (k : Nat) (arr : Array Value), off + k + vs.length ≤ arr.size →
    ((vs.zipIdx k).foldl (fun (cs : Array Value) (p : Value × Nat) => cs.setIfInBounds (off + p.2) p.1) arr).toList = arr.toList.take (off + k) ++ vs ++ arr.toList.drop (off + k + vs.length)
  | [], k, arr, _ => by simp
  | v :: rest, k, arr, h => by
    have ih := foldl_set off rest (k + 1) (arr.setIfInBounds (off + k) v) (by simp at h ⊢; omega)
    simp only [List.zipIdx_cons, List.foldl_cons]
    rw [ih]
    have e := list_seg_step arr.toList (off + k) v rest (by simp at h ⊢; omega)
    simpa [Array.toList_setIfInBounds, Nat.add_assoc] using e
theorem fill_sound {ρ : Map} {n : Nat} {T : Tm} {a : Act} (hT : TRel ρ n T a) (place : Nat → Option (Nat × Nat)) : ∀ (parts : List (Nat × Operand)) (ps : List (Nat × Nat × XArg)) (cs : List Value) (arr : Array Value) (out : List Value),
    cparts n place parts = some ps → All2 (VL ρ) cs arr.toList → Zeq cs (ps.map fun p => (p.1, p.2.1, ev T p.2.2)) = some out →
    ∃ arr', Instr.fill place arr (parts.map fun p => (p.1, a.eval p.2)) = some arr' ∧ All2 (VL ρ) out arr'.toList
  | [], ps, cs, arr, out, h, hc, hf => by
    simp only [cparts, Option.some.injEq] at h
    subst h
    simp only [List.map_nil, Zeq, Option.some.injEq] at hf
    subst hf
    exact ⟨arr, rfl, hc⟩
  | (i, x) :: parts, ps, cs, arr, out, h, hc, hf => by
    simp only [cparts] at h
    split at h
    · rename_i off size y qs hp hx hq
      simp only [Option.some.injEq] at h
      subst h
      simp only [List.map_cons, Zeq] at hf
      split at hf
      · rename_i hcond
        obtain ⟨hn, hl, hfit⟩ := hcond
        have hv := (ev_sound hx hT).cells_ hn
        have hlc := hv.length
        have hla := hc.length
        have hsz : (a.eval x).cells.size = size := by rw [← hl, hlc, ← vcells_eq]; simp
        have hfold := foldl_set off (a.eval x).cells.toList 0 arr (by simp at hla ⊢; omega)
        have hnew : All2 (VL ρ) (wr cs off (vcells (ev T y))) (((a.eval x).cells.zipIdx.foldl (fun (cs : Array Value) (p : Value × Nat) => cs.setIfInBounds (off + p.2) p.1) arr).toList) := by
          rw [← Array.foldl_toList, Array.toList_zipIdx, hfold]
          simp only [wr, Nat.add_zero]
          rw [vcells_eq]
          refine ((hc.take off).append hv).append ?_
          rw [hlc]
          exact hc.drop _
        obtain ⟨arr', h1, h2⟩ := fill_sound hT place parts qs _ _ out hq hnew hf
        refine ⟨arr', ?_, h2⟩
        simp only [List.map_cons, Instr.fill, hp]
        rw [if_neg (by simp [hsz]; simp at hla; omega)]
        exact h1
      · cases hf
    · cases h
section
variable {P : Program} {o : Oper} {a : Act} {w : World} {K : Act → World → Prop} {Q : Exit → Act → World → Prop} {ρ : Map} {n : Nat} {T : Tm} {H H' : Heap} {v : Value}
theorem s_agg {t : TypeId} {parts : Array (Nat × Operand)} {fs : Array Field} {zs : List Value} {places : List (Nat × Nat)} {ps : List (Nat × Nat × XArg)} (ho : o.op = .build t parts) (hu : P.underlying t = some (.struct fs)) (hz : czero P t = some zs) (hfl : ∀ z ∈ zs, flatB z = true)
    (hp : fs.toList.mapM (fun f => (P.info? f.type).map fun i => (f.offset, i.size)) = some places) (hps : cparts n (fun i => places.toArray[i]?) parts.toList = some ps)
    (hT : TRel ρ n T a) (hR : Rel ρ H w) (hs : step T H (.agg zs ps) = some (v, H')) : Sound P o a w K Q ρ H v H' := by
  intro hk
  simp only [step, Option.map_eq_some_iff, Prod.mk.injEq] at hs
  obtain ⟨out, hf, rfl, rfl⟩ := hs
  simp only [czero, Option.bind_eq_some_iff, Option.map_eq_some_iff] at hz
  obtain ⟨i, hi, z, hz, rfl⟩ := hz
  have hzz : All2 (VL ρ) z.cells.toList z.cells.toList := All2.of_get rfl (fun j x y hx hy => by rw [hx] at hy; injection hy with hy; subst hy; exact .flat (hfl x (List.mem_of_getElem? hx)))
  obtain ⟨arr', h1, h2⟩ := fill_sound hT _ parts.toList ps _ z.cells out hps hzz hf
  have hb : P.built t (parts.map fun (i, x) => (i, a.eval x)).toList = some arr' := by
    simp only [Program.built, hi, hu, hz, hp]
    simpa using h1
  refine wp_build t parts ho (by rw [hb]; rfl) ?_
  rw [hb]
  exact hk _ _ _ (.one (.agg (by simpa using h2))) (Next.refl hR)
theorem s_bsl {t e : TypeId} {len : Nat} {parts : Array (Nat × Operand)} {i : TypeInfo} {z : Value} {ps : List (Nat × Nat × XArg)} (ho : o.op = .buildSlice t len parts) (hu : P.underlying t = some (.slice e)) (hi : P.info? e = some i) (hz : i.zero = some z)
    (hfl : ∀ x ∈ z.cells.toList, flatB x = true) (hd : flatB (default : Value) = true) (hsm : ¬ len * i.size > 2 ^ 24) (hps : cparts n (fun j => some (j * i.size, i.size)) parts.toList = some ps)
    (hT : TRel ρ n T a) (hR : Rel ρ H w) (hs : step T H (.bsl i.size len ((List.range (len * i.size)).map fun j => z.cells[j % z.cells.size]!) ps) = some (v, H')) : Sound P o a w K Q ρ H v H' := by
  intro hk
  simp only [step, Option.map_eq_some_iff, Prod.mk.injEq] at hs
  obtain ⟨out, hf, rfl, rfl⟩ := hs
  have hzz : All2 (VL ρ) ((List.range (len * i.size)).map fun j => z.cells[j % z.cells.size]!) ((Array.range (len * i.size)).map (z.cells[· % z.cells.size]!)).toList := by
    simp only [Array.toList_map, Array.toList_range]
    refine All2.map_same _ (fun j _ => .flat ?_)
    rcases Nat.lt_or_ge (j % z.cells.size) z.cells.size with h | h
    · rw [getElem!_pos z.cells _ h]; exact hfl _ (by simp)
    · rw [getElem!_neg z.cells _ (by omega)]; exact hd
  obtain ⟨arr', h1, h2⟩ := fill_sound hT _ parts.toList ps _ _ out hps hzz hf
  have hln := h2.length
  have hN := next_push hR out arr' e (by rw [hln]; simp) (fun j c hj => by obtain ⟨c', h3, h4⟩ := h2.get j c hj; exact ⟨c', by simpa using h3, h4⟩)
  have hout : out.length = len * i.size := by
    have key : ∀ (qs : List (Nat × Nat × Value)) (cs out : List Value), Zeq cs qs = some out → out.length = cs.length := by
      intro qs
      induction qs with
      | nil => intro cs out h; simp only [Zeq, Option.some.injEq] at h; rw [h]
      | cons q qs ih =>
        intro cs out h
        obtain ⟨off, size, u⟩ := q
        simp only [Zeq] at h
        split at h
        · rename_i hc
          rw [ih _ _ h, wr]
          simp
          omega
        · cases h
    rw [key _ _ _ hf]; simp
  have hv : VR (ρ.at_ H.nxt (⟨w.heap.size, 0, none⟩, arr'.size)) (.slice (some ⟨H.nxt, 0, none⟩) len i.size) (.slice (some ⟨w.heap.size, 0, none⟩) len len) := by
    have := VL.slc (o := 0) (n := len) (c := len) (sz := i.size) (Map.at_self ρ H.nxt (⟨w.heap.size, 0, none⟩, arr'.size)) (Nat.le_refl _) (by rw [← Array.length_toList, ← hln, hout]; omega)
    exact .one (.leaf (by simpa [Addr.add] using this))
  have hk' := hk _ _ _ hv hN
  by_cases h0 : len * i.size = 0
  · refine wp_of_run (w' := w.alloc (.cells arr' e)) ?_ hk'
    have h1' : Instr.fill (fun j => some (j * i.size, i.size)) #[] (parts.map fun (i, x) => (i, a.eval x)).toList = some arr' := by
      have e0 : ((Array.range (len * i.size)).map (z.cells[· % z.cells.size]!)) = #[] := by rw [h0]; simp
      rw [e0] at h1
      simpa using h1
    simp [execOp, ho, Instr.buildSlice, run_underlying hu, sizeOf, typeInfo, hi, h0, newRow]
    have e1 : Array.map (fun _ : Nat => (default : Value)) (Array.range 0) = #[] := by simp
    have h1'' : Instr.fill (fun j => some (j * i.size, i.size)) #[] (List.map (fun x => (x.fst, a.eval x.snd)) parts.toList) = some arr' := by simpa using h1'
    rw [e1, h1'']
    simp
  · exact wp_buildSlice t e len parts ho arr' i z hu hi hz hsm h0 (by simpa using h1) hk'
theorem s_nilc {x : Operand} {y : XArg} (ho : o.op = .nilCheck x) (hx : carg n x = some y) (hT : TRel ρ n T a) (hR : Rel ρ H w) (hs : step T H (.nilc y) = some (v, H')) : Sound P o a w K Q ρ H v H' := by
  intro hk
  have h1 := ev_sound hx hT
  simp only [step] at hs
  split at hs
  · rename_i ad he
    simp only [Option.some.injEq, Prod.mk.injEq] at hs
    obtain ⟨rfl, rfl⟩ := hs
    rw [he] at h1
    have hp : ∃ b, a.eval x = .pointer (some b) := by
      generalize a.eval x = q at h1
      cases h1 with
      | one h => cases h with
        | leaf h => cases h with
          | flat h => cases h
          | ptr h => exact ⟨_, rfl⟩
    obtain ⟨b, hb⟩ := hp
    rw [hb] at h1
    refine wp_of_run (w' := w) (v' := .pointer (some b)) ?_ (hk _ _ _ h1 (Next.refl hR))
    simp [execOp, ho, hb]
  · cases hs
theorem s_un {op : UnOp} {t : TypeId} {x : Operand} {y : XArg} (ho : o.op = .unOp op t x) (hx : carg n x = some y) (hT : TRel ρ n T a) (hR : Rel ρ H w) (hs : step T H (.un op y) = some (v, H')) : Sound P o a w K Q ρ H v H' := by
  intro hk
  have h1 := ev_sound hx hT
  simp only [step, Option.map_eq_some_iff, Prod.mk.injEq] at hs
  obtain ⟨u, hu, rfl, rfl⟩ := hs
  cases hv : ev T y with
  | bool b =>
    rw [hv] at hu h1
    have e := h1.bool
    cases op <;> simp [aun] at hu
    subst hu
    refine wp_of_run (w' := w) (v' := .bool (!b)) ?_ (hk _ _ _ (.one (.leaf (.flat rfl))) (Next.refl hR))
    simp [execOp, ho, e, Op.unary]
  | int k m =>
    rw [hv] at hu h1
    have e := h1.int
    cases op <;> simp [aun] at hu
    subst hu
    refine wp_of_run (w' := w) (v' := .int k (k.wrap (-m))) ?_ (hk _ _ _ (.one (.leaf (.flat rfl))) (Next.refl hR))
    simp [execOp, ho, e, Op.unary, Op.intArith]
  | _ => rw [hv] at hu; simp [aun] at hu
theorem s_toInt {s d : TypeId} {x : Operand} {y : XArg} {k k0 : IntKind} (ho : o.op = .convert s d x) (hs0 : P.underlying s = some (.int k0)) (hd : P.underlying d = some (.int k)) (hx : carg n x = some y) (hT : TRel ρ n T a) (hR : Rel ρ H w) (hs : step T H (.toInt k y) = some (v, H')) : Sound P o a w K Q ρ H v H' := by
  intro hk
  have h1 := ev_sound hx hT
  simp only [step] at hs
  split at hs
  · rename_i k1 m he
    simp only [Option.some.injEq, Prod.mk.injEq] at hs
    obtain ⟨rfl, rfl⟩ := hs
    rw [he] at h1
    have e := h1.int
    refine wp_of_run (w' := w) (v' := .int k (k.wrap m)) ?_ (hk _ _ _ (.one (.leaf (.flat rfl))) (Next.refl hR))
    simp [execOp, ho, e, convert, run_underlying hs0, run_underlying hd, Conv.intToInt]
  · cases hs
theorem s_toFlt {s d : TypeId} {x : Operand} {y : XArg} {k : FloatKind} {k0 : IntKind} (ho : o.op = .convert s d x) (hs0 : P.underlying s = some (.int k0)) (hd : P.underlying d = some (.float k)) (hx : carg n x = some y) (hT : TRel ρ n T a) (hR : Rel ρ H w) (hs : step T H (.toFlt k y) = some (v, H')) : Sound P o a w K Q ρ H v H' := by
  intro hk
  have h1 := ev_sound hx hT
  simp only [step] at hs
  split at hs
  · rename_i k1 m he
    simp only [Option.some.injEq, Prod.mk.injEq] at hs
    obtain ⟨rfl, rfl⟩ := hs
    rw [he] at h1
    have e := h1.int
    refine wp_of_run (w' := w) (v' := .float k (k.nearest m)) ?_ (hk _ _ _ (.one (.leaf (.flat rfl))) (Next.refl hR))
    simp [execOp, ho, e, convert, run_underlying hs0, run_underlying hd, Conv.intToFloat]
  · cases hs
theorem s_flt {s d : TypeId} {x : Operand} {y : XArg} {k : FloatKind} (ho : o.op = .convert s d x) (hs0 : P.underlying s = some (.float k)) (hd : P.underlying d = some (.float k)) (hx : carg n x = some y) (hT : TRel ρ n T a) (hR : Rel ρ H w) (hs : step T H (.fltOf k y) = some (v, H')) : Sound P o a w K Q ρ H v H' := by
  intro hk
  have h1 := ev_sound hx hT
  simp only [step] at hs
  split at hs
  · rename_i k1 m he
    split at hs
    · rename_i hkk
      subst hkk
      simp only [Option.some.injEq, Prod.mk.injEq] at hs
      obtain ⟨rfl, rfl⟩ := hs
      rw [he] at h1
      obtain ⟨b', e, _⟩ := h1.float
      refine wp_of_run (w' := w) (v' := .float k1 b') ?_ (hk _ _ _ (e ▸ h1) (Next.refl hR))
      simp [execOp, ho, e, convert, run_underlying hs0, run_underlying hd, Conv.floatToFloat]
    · cases hs
  · cases hs
theorem s_fad {s : TypeId} {x : Operand} {f : Nat} {fs : Array Field} {fd : Field} {m : Nat} {y : XArg} (ho : o.op = .fieldAddr s x f) (hu : P.underlying s = some (.struct fs)) (hf : fs[f]? = some fd) (hm : csize P fd.type = some m) (hm0 : m ≠ 0) (hx : carg n x = some y)
    (hT : TRel ρ n T a) (hR : Rel ρ H w) (hs : step T H (.fad fd.offset y) = some (v, H')) : Sound P o a w K Q ρ H v H' := by
  intro hk
  have h1 := ev_sound hx hT
  simp only [step] at hs
  split at hs
  · rename_i i off he
    simp only [Option.some.injEq, Prod.mk.injEq] at hs
    obtain ⟨rfl, rfl⟩ := hs
    rw [he] at h1
    obtain ⟨b, L, hr, hp⟩ := h1.ptr
    simp only [csize, Option.map_eq_some_iff] at hm
    obtain ⟨ti, hti, rfl⟩ := hm
    refine wp_of_run (w' := w) (v' := .pointer (some (b.add (off + fd.offset)))) ?_ (hk _ _ _ (.one (.leaf (.ptr hr))) (Next.refl hR))
    simp [execOp, ho, hp, Instr.fieldAt, run_underlying hu, hf, Instr.sureAddr, fieldPlace, sizeOf, typeInfo, hti, hm0, add_add]
  · cases hs
theorem s_fdv1 {s : TypeId} {x : Operand} {f : Nat} {fs : Array Field} {fd : Field} {y : XArg} (ho : o.op = .field s x f) (hu : P.underlying s = some (.struct fs)) (hf : fs[f]? = some fd) (ha : cagg P fd.type = some false) (hx : carg n x = some y)
    (hT : TRel ρ n T a) (hR : Rel ρ H w) (hs : step T H (.fdv1 fd.offset y) = some (v, H')) : Sound P o a w K Q ρ H v H' := by
  intro hk
  have h1 := ev_sound hx hT
  simp only [step] at hs
  split at hs
  · rename_i cs he
    split at hs
    · rename_i u hcu
      simp only [Option.some.injEq, Prod.mk.injEq] at hs
      obtain ⟨rfl, rfl⟩ := hs
      rw [he] at h1
      obtain ⟨ys, hy, hall⟩ := h1.agg_
      obtain ⟨c', h2, h3⟩ := hall.get fd.offset u (by simpa using hcu)
      refine wp_of_run (w' := w) (v' := c') ?_ (hk _ _ _ (.one (.leaf h3)) (Next.refl hR))
      simp only [cagg] at ha
      have hagg : (isAgg fd.type).run P w = .ok false w := by
        cases hu' : P.underlying fd.type with
        | none => simp [hu'] at ha
        | some d =>
          rw [hu'] at ha
          cases d <;> simp at ha <;> simp [isAgg, run_underlying hu']
      have h2' : ys[fd.offset]? = some c' := by simpa using h2
      simp [execOp, ho, hy, Instr.field, run_underlying hu, hf, asAgg, part, hagg, h2']
    · cases hs
  · cases hs
theorem s_fdvN {s : TypeId} {x : Operand} {f : Nat} {fs : Array Field} {fd : Field} {m : Nat} {y : XArg} (ho : o.op = .field s x f) (hu : P.underlying s = some (.struct fs)) (hf : fs[f]? = some fd) (ha : cagg P fd.type = some true) (hm : csize P fd.type = some m) (hx : carg n x = some y)
    (hT : TRel ρ n T a) (hR : Rel ρ H w) (hs : step T H (.fdvN fd.offset m y) = some (v, H')) : Sound P o a w K Q ρ H v H' := by
  intro hk
  have h1 := ev_sound hx hT
  simp only [step] at hs
  split at hs
  · rename_i cs he
    simp only [Option.some.injEq, Prod.mk.injEq] at hs
    obtain ⟨rfl, rfl⟩ := hs
    rw [he] at h1
    obtain ⟨ys, hy, hall⟩ := h1.agg_
    simp only [csize, Option.map_eq_some_iff] at hm
    obtain ⟨ti, hti, rfl⟩ := hm
    refine wp_of_run (w' := w) (v' := .agg (ys.extract fd.offset (fd.offset + ti.size))) ?_ (hk _ _ _ (.one (.agg ?_)) (Next.refl hR))
    · simp [execOp, ho, hy, Instr.field, run_underlying hu, hf, asAgg, part, run_isAgg_true ha, sizeOf, typeInfo, hti]
    · have := (hall.drop fd.offset).take ti.size
      simpa [Array.toList_extract, List.extract_eq_take_drop] using this
  · cases hs
theorem s_idx {t e : TypeId} {x ix : Operand} {m : Nat} {y z : XArg} (ho : o.op = .indexAddr t x ix) (hu : P.underlying t = some (.slice e)) (hm : csize P e = some m) (hx : carg n x = some y) (hi : carg n ix = some z)
    (hT : TRel ρ n T a) (hR : Rel ρ H w) (hs : step T H (.idx m y z) = some (v, H')) : Sound P o a w K Q ρ H v H' := by
  intro hk
  have h1 := ev_sound hx hT
  have h2 := ev_sound hi hT
  simp only [step] at hs
  split at hs
  · rename_i b off k sz' kd j he1 he2
    split at hs
    · rename_i hc
      obtain ⟨rfl, hj0, hj1⟩ := hc
      simp only [Option.some.injEq, Prod.mk.injEq] at hs
      obtain ⟨rfl, rfl⟩ := hs
      rw [he1] at h1
      rw [he2] at h2
      have e2 := h2.int
      rcases h1.slice with ⟨bb, L, c, hr, hkc, hL, hp⟩ | ⟨h0, _⟩
      · simp only [csize, Option.map_eq_some_iff] at hm
        obtain ⟨ti, hti, rfl⟩ := hm
        refine wp_of_run (w' := w) (v' := .pointer (some (bb.add (off + j.toNat * ti.size)))) ?_ (hk _ _ _ (.one (.leaf (.ptr hr))) (Next.refl hR))
        simp [execOp, ho, hp, e2, Instr.indexAt, asIntOf, run_underlying hu, hj0, hj1, sizeOf, typeInfo, hti, add_add]
      · omega
    · cases hs
  · cases hs
theorem s_aidx {t e : TypeId} {x ix : Operand} {len m : Nat} {y z : XArg} (ho : o.op = .indexAddr t x ix) (hu : P.underlying t = some (.array len e)) (hm : csize P e = some m) (hx : carg n x = some y) (hi : carg n ix = some z)
    (hT : TRel ρ n T a) (hR : Rel ρ H w) (hs : step T H (.aidx len m y z) = some (v, H')) : Sound P o a w K Q ρ H v H' := by
  intro hk
  have h1 := ev_sound hx hT
  have h2 := ev_sound hi hT
  simp only [step] at hs
  split at hs
  · rename_i b off kd j he1 he2
    split at hs
    · rename_i hc
      obtain ⟨hj0, hj1⟩ := hc
      simp only [Option.some.injEq, Prod.mk.injEq] at hs
      obtain ⟨rfl, rfl⟩ := hs
      rw [he1] at h1
      rw [he2] at h2
      have e2 := h2.int
      obtain ⟨bb, L, hr, hp⟩ := h1.ptr
      simp only [csize, Option.map_eq_some_iff] at hm
      obtain ⟨ti, hti, rfl⟩ := hm
      refine wp_of_run (w' := w) (v' := .pointer (some (bb.add (off + j.toNat * ti.size)))) ?_ (hk _ _ _ (.one (.leaf (.ptr hr))) (Next.refl hR))
      simp [execOp, ho, hp, e2, Instr.indexAt, Instr.sureAddr, asIntOf, run_underlying hu, hj0, hj1, sizeOf, typeInfo, hti, add_add]
    · cases hs
  · cases hs
theorem s_sidx {t : TypeId} {x ix : Operand} {y z : XArg} (ho : o.op = .index t x ix) (hu : P.underlying t = some .string) (hx : carg n x = some y) (hi : carg n ix = some z)
    (hT : TRel ρ n T a) (hR : Rel ρ H w) (hs : step T H (.sidx y z) = some (v, H')) : Sound P o a w K Q ρ H v H' := by
  intro hk
  have h1 := ev_sound hx hT
  have h2 := ev_sound hi hT
  simp only [step] at hs
  split at hs
  · rename_i s kd j he1 he2
    split at hs
    · rename_i hj0
      split at hs
      · rename_i b hb
        simp only [Option.some.injEq, Prod.mk.injEq] at hs
        obtain ⟨rfl, rfl⟩ := hs
        rw [he1] at h1
        rw [he2] at h2
        have e1 := h1.string
        have e2 := h2.int
        refine wp_of_run (w' := w) (v' := .int .u8 b.toNat) ?_ (hk _ _ _ (.one (.leaf (.flat rfl))) (Next.refl hR))
        simp [execOp, ho, e1, e2, Instr.index, asIntOf, run_underlying hu, hj0, hb]
      · cases hs
    · cases hs
  · cases hs
theorem s_ext {x : Operand} {i : Nat} {y : XArg} (ho : o.op = .extract x i) (hx : carg n x = some y) (hT : TRel ρ n T a) (hR : Rel ρ H w) (hs : step T H (.ext i y) = some (v, H')) : Sound P o a w K Q ρ H v H' := by
  intro hk
  have h1 := ev_sound hx hT
  simp only [step] at hs
  split at hs
  · rename_i vs he
    split at hs
    · rename_i u hu
      simp only [Option.some.injEq, Prod.mk.injEq] at hs
      obtain ⟨rfl, rfl⟩ := hs
      rw [he] at h1
      obtain ⟨ys, hy, hall⟩ := h1.tuple_
      obtain ⟨c', h2, h3⟩ := hall.get i u (by simpa using hu)
      have h2' : ys[i]? = some c' := by simpa using h2
      refine wp_of_run (w' := w) (v' := c') ?_ (hk _ _ _ (.one h3) (Next.refl hR))
      simp [execOp, ho, hy, Instr.extract, h2']
    · cases hs
  · cases hs
theorem s_len {x : Operand} {ats : Array TypeId} {y : XArg} {t e : TypeId} (ho : o.op = .call { callee := .builtin .len, args := #[x], argTypes := ats }) (ht : ats[0]? = some t) (hu : P.underlying t = some (.slice e)) (hx : carg n x = some y)
    (hT : TRel ρ n T a) (hR : Rel ρ H w) (hs : step T H (.len y) = some (v, H')) : Sound P o a w K Q ρ H v H' := by
  intro hk
  have h1 := ev_sound hx hT
  simp only [step] at hs
  have key : ∀ m : Nat, v = .int .i64 m → H' = H → ((Builtin.len_ ats o.type #[a.eval x]).run P w = .ok (goInt m) w) → o.wp P a w K Q := by
    rintro m rfl rfl hr
    refine wp_of_run (w' := w) (v' := .int .i64 m) ?_ (hk _ _ _ (.one (.leaf (.flat rfl))) (Next.refl hR))
    simp [execOp, ho, resolve, invoke, builtin, hr, goInt]
  split at hs
  · rename_i he
    simp only [Option.some.injEq, Prod.mk.injEq] at hs
    rw [he] at h1
    have e1 := h1.nilslice
    exact key 0 hs.1.symm hs.2.symm (by simp [Builtin.len_, ht, e1, run_underlying hu])
  · rename_i m _ he
    simp only [Option.some.injEq, Prod.mk.injEq] at hs
    rw [he] at h1
    rcases h1.slice with ⟨b, L, c, _, _, _, hp⟩ | ⟨h0, ⟨ad, hp⟩, _⟩
    · exact key m hs.1.symm hs.2.symm (by simp [Builtin.len_, ht, hp, run_underlying hu])
    · subst h0; exact key 0 hs.1.symm hs.2.symm (by simp [Builtin.len_, ht, hp, run_underlying hu])
  · cases hs
theorem s_lenS {x : Operand} {ats : Array TypeId} {y : XArg} {t : TypeId} (ho : o.op = .call { callee := .builtin .len, args := #[x], argTypes := ats }) (ht : ats[0]? = some t) (hu : P.underlying t = some .string) (hx : carg n x = some y)
    (hT : TRel ρ n T a) (hR : Rel ρ H w) (hs : step T H (.lenS y) = some (v, H')) : Sound P o a w K Q ρ H v H' := by
  intro hk
  have h1 := ev_sound hx hT
  simp only [step] at hs
  split at hs
  · rename_i s he
    simp only [Option.some.injEq, Prod.mk.injEq] at hs
    obtain ⟨rfl, rfl⟩ := hs
    rw [he] at h1
    have e1 := h1.string
    refine wp_of_run (w' := w) (v' := .int .i64 s.size) ?_ (hk _ _ _ (.one (.leaf (.flat rfl))) (Next.refl hR))
    simp [execOp, ho, resolve, invoke, builtin, Builtin.len_, ht, e1, run_underlying hu, goInt]
  · cases hs
end
end Go.Proofs.Ytkadelndmaegdaa.AX
