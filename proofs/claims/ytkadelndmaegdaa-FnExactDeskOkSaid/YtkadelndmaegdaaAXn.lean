/- The executor is sound: regions whose order is open, fourth part: what is made early, what is looked at. No condition beyond each law's own; nothing of the program. -/
import Derived.Test.YtkadelndmaegdaaAXm
namespace Go.Proofs.Ytkadelndmaegdaa.AX
open Go

section
variable {P : Program} {o : Oper} {a : Act} {w : World} {ρ : Map} {n : Nat} {T : Tm} {H H' : Heap} {v : Value}
/-- What making a block comes to. -/
def Makes (P : Program) (o : Oper) (a : Act) (w : World) (ρ : Map) (H : Heap) (v : Value) (H' : Heap) : Prop :=
  ∃ (cs : List Value) (arr : Array Value) (e : TypeId) (vf : Nat → Value), H' = H.push cs ∧ cs.length ≤ arr.size ∧ (∀ (j : Nat) (c : Value), cs[j]? = some c → ∃ c', arr[j]? = some c' ∧ VL ρ c c') ∧
    (execOp a.eval o).run P w = .ok (.value (vf w.heap.size)) (w.alloc (.cells arr e)) ∧ ∀ (ρ' : Map) (g : Nat), ρ' H.nxt = some (⟨g, 0, none⟩, arr.size) → VR ρ' v (vf g)
theorem vr_ptr0 {ρ' : Map} {i g L : Nat} (h : ρ' i = some (⟨g, 0, none⟩, L)) : VR ρ' (.pointer (some ⟨i, 0, none⟩)) (.pointer (some ⟨g, 0, none⟩)) := by
  have := VL.ptr (o := 0) h
  exact .one (.leaf (by simpa [Addr.add] using this))
theorem p_new {e : TypeId} {zs : List Value} (ho : o.op = .alloc e) (hz : czero P e = some zs) (hfl : ∀ z ∈ zs, flatB z = true) (hs : step T H (.new zs) = some (v, H')) : Makes P o a w ρ H v H' := by
  simp only [step, Option.some.injEq, Prod.mk.injEq] at hs
  obtain ⟨rfl, rfl⟩ := hs
  simp only [czero, Option.bind_eq_some_iff, Option.map_eq_some_iff] at hz
  obtain ⟨i, hi, z, hz, rfl⟩ := hz
  refine ⟨z.cells.toList, z.cells, e, fun g => .pointer (some ⟨g, 0, none⟩), rfl, by simp, fun j c hj => ⟨c, by simpa using hj, .flat (hfl c (List.mem_of_getElem? hj))⟩, ?_, fun ρ' g h => vr_ptr0 h⟩
  simp [execOp, ho, Instr.alloc, zeroValue, typeInfo, hi, hz, newVar, newRow]
theorem p_box {e : TypeId} {x : Operand} {y : XArg} (ho : o.op = .box e x) (hx : carg n x = some y) (hT : TRel ρ n T a) (hs : step T H (.box y) = some (v, H')) : Makes P o a w ρ H v H' := by
  have h1 := ev_sound hx hT
  simp only [step] at hs
  split at hs
  · rename_i hne
    simp only [Option.some.injEq, Prod.mk.injEq] at hs
    obtain ⟨rfl, rfl⟩ := hs
    have hc := h1.cells_ hne
    refine ⟨_, (a.eval x).cells, e, fun g => .pointer (some ⟨g, 0, none⟩), rfl, by rw [hc.length, ← vcells_eq]; simp, fun j c hj => ?_, ?_, fun ρ' g h => vr_ptr0 h⟩
    · obtain ⟨c', h2, h3⟩ := hc.get j c hj
      exact ⟨c', by rw [← vcells_eq] at h2; simpa using h2, h3⟩
    · simp [execOp, ho, Instr.box, newVar, newRow]
  · cases hs
theorem fillA_len : ∀ (qs : List (Nat × Nat × Value)) (cs out : List Value), Zeq cs qs = some out → out.length = cs.length := by
  intro qs
  induction qs with
  | nil => intro cs out h; simp only [Zeq, Option.some.injEq] at h; rw [h]
  | cons q qs ih =>
    intro cs out h
    obtain ⟨off, size, u⟩ := q
    simp only [Zeq] at h
    split at h
    · rename_i hc
      rw [ih _ _ h, wr]
      simp
      omega
    · cases h
theorem p_bsl {t e : TypeId} {len : Nat} {parts : Array (Nat × Operand)} {i : TypeInfo} {z : Value} {ps : List (Nat × Nat × XArg)} (ho : o.op = .buildSlice t len parts) (hu : P.underlying t = some (.slice e)) (hi : P.info? e = some i) (hz : i.zero = some z)
    (hfl : ∀ x ∈ z.cells.toList, flatB x = true) (hsm : ¬ len * i.size > 2 ^ 24) (hps : cparts n (fun j => some (j * i.size, i.size)) parts.toList = some ps)
    (hT : TRel ρ n T a) (hs : step T H (.bsl i.size len ((List.range (len * i.size)).map fun j => z.cells[j % z.cells.size]!) ps) = some (v, H')) : Makes P o a w ρ H v H' := by
  simp only [step, Option.map_eq_some_iff, Prod.mk.injEq] at hs
  obtain ⟨out, hf, rfl, rfl⟩ := hs
  have hzz : All2 (VL ρ) ((List.range (len * i.size)).map fun j => z.cells[j % z.cells.size]!) ((Array.range (len * i.size)).map (z.cells[· % z.cells.size]!)).toList := by
    simp only [Array.toList_map, Array.toList_range]
    refine All2.map_same _ (fun j _ => .flat ?_)
    rcases Nat.lt_or_ge (j % z.cells.size) z.cells.size with h | h
    · rw [getElem!_pos z.cells _ h]; exact hfl _ (by simp)
    · rw [getElem!_neg z.cells _ (by omega)]; rfl
  obtain ⟨arr', h1, h2⟩ := fill_sound hT _ parts.toList ps _ _ out hps hzz hf
  have hln := h2.length
  have hout : out.length = len * i.size := by rw [fillA_len _ _ _ hf]; simp
  refine ⟨out, arr', e, fun g => .slice (some ⟨g, 0, none⟩) len len, rfl, by rw [hln]; simp, fun j c hj => ?_, ?_, fun ρ' g h => ?_⟩
  · obtain ⟨c', h3, h4⟩ := h2.get j c hj
    exact ⟨c', by simpa using h3, h4⟩
  · by_cases h0 : len * i.size = 0
    · have h1' : Instr.fill (fun j => some (j * i.size, i.size)) #[] (parts.map fun (i, x) => (i, a.eval x)).toList = some arr' := by
        have e0 : ((Array.range (len * i.size)).map (z.cells[· % z.cells.size]!)) = #[] := by rw [h0]; simp
        rw [e0] at h1
        simpa using h1
      simp [execOp, ho, Instr.buildSlice, run_underlying hu, sizeOf, typeInfo, hi, h0, newRow]
      have e1 : Array.map (fun _ : Nat => (default : Value)) (Array.range 0) = #[] := by simp
      have h1'' : Instr.fill (fun j => some (j * i.size, i.size)) #[] (List.map (fun x => (x.fst, a.eval x.snd)) parts.toList) = some arr' := by simpa using h1'
      rw [e1, h1'']
      simp
    · have := run_buildSlice w t e len (parts.map fun (i, x) => (i, a.eval x)) arr' i z hu hi hz hsm h0 (by simpa using h1)
      simp [execOp, ho, this]
  · have := VL.slc (o := 0) (n := len) (c := len) (sz := i.size) h (Nat.le_refl _) (by rw [← Array.length_toList, ← hln, hout]; omega)
    exact .one (.leaf (by simpa [Addr.add] using this))
theorem p_mks {t e : TypeId} {l c : Operand} {i : TypeInfo} {z : Value} {l' c' : XArg} (ho : o.op = .makeSlice t l c) (hu : P.underlying t = some (.slice e)) (hi : P.info? e = some i) (hz : i.zero = some z) (hzs : z.cells.size = i.size) (hs0 : 0 < i.size) (hb0 : 0 < i.bytes) (hfl : ∀ x ∈ z.cells.toList, flatB x = true)
    (hl : carg n l = some l') (hc : carg n c = some c') (hT : TRel ρ n T a) (hs : step T H (.mks i.size i.bytes z.cells.toList l' c') = some (v, H')) : Makes P o a w ρ H v H' := by
  have h1 := ev_sound hl hT
  have h2 := ev_sound hc hT
  simp only [step] at hs
  split at hs
  · rename_i x y he1 he2
    split at hs
    · rename_i hcond
      obtain ⟨hx0, hxy, hy63, hby⟩ := hcond
      simp only [Option.some.injEq, Prod.mk.injEq] at hs
      obtain ⟨rfl, rfl⟩ := hs
      rw [he1] at h1
      rw [he2] at h2
      have e1 := h1.int
      have e2 := h2.int
      obtain ⟨m, rfl⟩ : ∃ m : Nat, x = m := ⟨x.toNat, by omega⟩
      obtain ⟨k, rfl⟩ : ∃ k : Nat, y = k := ⟨y.toNat, by omega⟩
      have wm : IntKind.i64.wrap (m : Int) = m := wrap_nat (by omega)
      have wk : IntKind.i64.wrap (k : Int) = k := wrap_nat (by omega)
      have hbm : (i.bytes : Int) * (m : Int) ≤ (i.bytes : Int) * (k : Int) := Int.mul_le_mul_of_nonneg_left hxy (by omega)
      let arr : Array Value := (Array.range (k * i.size)).map ((if k * i.size = 0 then #[] else z.cells)[· % (if k * i.size = 0 then #[] else z.cells).size]!)
      have hrun : (Instr.makeSlice t (.int .i64 m) (.int .i64 k)).run P w = .ok (.slice (some ⟨w.heap.size, 0, none⟩) m k) (w.alloc (.cells arr e)) := by
        have hn1 : ¬ (281474976710656 < (i.bytes : Int) * (k : Int)) := by omega
        have hn4 : ¬ (k : Int) < (m : Int) := by omega
        by_cases h0 : k * i.size = 0
        · simp [Instr.makeSlice, run_underlying hu, asInt, asIntOf, typeInfo, hi, wm, wk, hn1, hn4, askRoom, sizeOf, h0, newRow, arr]
          exact fun h => by omega
        · simp [Instr.makeSlice, run_underlying hu, asInt, asIntOf, typeInfo, hi, wm, wk, hn1, hn4, askRoom, sizeOf, h0, zeroValue, hz, newRow, arr]
          exact fun h => by omega
      have hlen : ((List.replicate m z.cells.toList).flatten).length = m * i.size := by rw [flat_rep_len]; simp [hzs]
      have hmk : m * i.size ≤ k * i.size := Nat.mul_le_mul_right _ (by omega)
      refine ⟨(List.replicate m z.cells.toList).flatten, arr, e, fun g => .slice (some ⟨g, 0, none⟩) m k, rfl, by rw [hlen]; simp [arr]; exact hmk, fun j c hj => ?_, ?_, fun ρ' g h => ?_⟩
      · have hjl := (List.getElem?_eq_some_iff.1 hj).1
        rw [hlen] at hjl
        rw [flat_rep _ _ _ (by simpa [hzs] using hjl)] at hj
        refine ⟨c, ?_, .flat (hfl c (List.mem_of_getElem? hj))⟩
        have h0 : ¬ k * i.size = 0 := by omega
        have hlt : j % z.cells.size < z.cells.size := Nat.mod_lt _ (by omega)
        simp only [arr, h0, if_false]
        rw [Array.getElem?_map]
        have hjr : j < k * i.size := by omega
        simp only [Array.getElem?_range, hjr, if_true, Option.map_some]
        simp only [Array.length_toList, Array.getElem?_toList] at hj
        rw [getElem!_pos z.cells _ hlt]
        rw [Array.getElem?_eq_getElem hlt] at hj
        exact hj
      · simp [execOp, ho, e1, e2, hrun]
      · have := VL.slc (o := 0) (n := m) (c := k) (sz := i.size) h (by omega) (by simp [arr])
        exact .one (.leaf (by simpa [Addr.add] using this))
    · cases hs
  · cases hs
theorem push_run {xo : XOp} (hc : cop P n o.op = some xo) (hA : kindA xo = true) (hT : TRel ρ n T a) (hs : step T H xo = some (v, H')) : Makes P o a w ρ H v H' := by
  cases hop : o.op with
  | move x =>
    rw [hop] at hc
    simp only [cop, Option.map_eq_some_iff] at hc
    obtain ⟨y, hy, rfl⟩ := hc
    cases hA
  | assign x =>
    rw [hop] at hc
    simp only [cop, Option.map_eq_some_iff] at hc
    obtain ⟨y, hy, rfl⟩ := hc
    cases hA
  | pick c x y =>
    rw [hop] at hc
    simp only [cop, Option.bind_eq_bind, Option.bind_eq_some_iff, Option.pure_def, Option.some.injEq] at hc
    obtain ⟨c', hc', x', hx', y', hy', rfl⟩ := hc
    cases hA
  | alloc e =>
    rw [hop] at hc
    simp only [cop, Option.bind_eq_some_iff] at hc
    obtain ⟨zs, hz, hc⟩ := hc
    split at hc
    · rename_i hf
      injection hc with hc
      subst hc
      exact p_new hop hz (all_flat hf) hs
    · cases hc
  | box e x =>
    rw [hop] at hc
    simp only [cop, Option.map_eq_some_iff] at hc
    obtain ⟨y, hy, rfl⟩ := hc
    exact p_box hop hy hT hs
  | build t parts =>
    rw [hop] at hc
    simp only [cop] at hc
    split at hc
    · rename_i fs hu
      simp only [Option.bind_eq_bind, Option.bind_eq_some_iff] at hc
      obtain ⟨zs, hz, places, hp, ps, hps, hc⟩ := hc
      split at hc
      · rename_i hf
        injection hc with hc
        subst hc
        cases hA
      · cases hc
    · cases hc
  | buildSlice t len parts =>
    rw [hop] at hc
    simp only [cop] at hc
    split at hc
    · rename_i e hu
      simp only [Option.bind_eq_bind, Option.bind_eq_some_iff] at hc
      obtain ⟨i, hi, z, hz, hc⟩ := hc
      split at hc
      · cases hc
      · rename_i hcond
        simp only [Option.bind_eq_some_iff, Option.pure_def, Option.some.injEq] at hc
        obtain ⟨ps, hps, rfl⟩ := hc
        have h1 : ¬ len * i.size > 2 ^ 24 := fun h => hcond (.inl h)
        have h2 : z.cells.toList.all flatB = true := Classical.byContradiction fun h => hcond (.inr h)
        exact p_bsl hop hu hi hz (all_flat h2) h1 hps hT hs
    · cases hc
  | load t p =>
    rw [hop] at hc
    simp only [cop, Option.bind_eq_bind, Option.bind_eq_some_iff] at hc
    obtain ⟨x, hx, ag, hag, hc⟩ := hc
    cases ag with
    | true =>
      simp only [Option.bind_eq_some_iff, Option.pure_def, Option.some.injEq] at hc
      obtain ⟨m, hm, rfl⟩ := hc
      cases hA
    | false =>
      simp only [Option.pure_def, Option.some.injEq] at hc
      subst hc
      cases hA
  | store t p x =>
    rw [hop] at hc
    simp only [cop, Option.bind_eq_bind, Option.bind_eq_some_iff, Option.pure_def, Option.some.injEq] at hc
    obtain ⟨m, hm, y, hy, z, hz, rfl⟩ := hc
    cases hA
  | nilCheck x =>
    rw [hop] at hc
    simp only [cop, Option.map_eq_some_iff] at hc
    obtain ⟨y, hy, rfl⟩ := hc
    cases hA
  | binOp op t x y yt =>
    rw [hop] at hc
    simp only [cop] at hc
    split at hc
    · simp only [Option.bind_eq_bind, Option.bind_eq_some_iff, Option.pure_def, Option.some.injEq] at hc
      obtain ⟨x', hx', y', hy', rfl⟩ := hc
      cases hA
    · simp only [Option.bind_eq_bind, Option.bind_eq_some_iff, Option.pure_def, Option.some.injEq] at hc
      obtain ⟨x', hx', y', hy', rfl⟩ := hc
      cases hA
    · simp only [Option.bind_eq_bind, Option.bind_eq_some_iff, Option.pure_def, Option.some.injEq] at hc
      obtain ⟨x', hx', y', hy', rfl⟩ := hc
      cases hA
    · rename_i hu
      split at hc
      · simp only [Option.bind_eq_bind, Option.bind_eq_some_iff, Option.pure_def, Option.some.injEq] at hc
        obtain ⟨x', hx', y', hy', rfl⟩ := hc
        cases hA
      · simp only [Option.bind_eq_bind, Option.bind_eq_some_iff, Option.pure_def, Option.some.injEq] at hc
        obtain ⟨x', hx', y', hy', rfl⟩ := hc
        cases hA
      · cases hc
    · rename_i fs hu
      split at hc
      · cases hc
      · split at hc
        · simp only [Option.bind_eq_bind, Option.bind_eq_some_iff, Option.pure_def, Option.some.injEq] at hc
          obtain ⟨os, hos, x', hx', y', hy', rfl⟩ := hc
          cases hA
        · simp only [Option.bind_eq_bind, Option.bind_eq_some_iff, Option.pure_def, Option.some.injEq] at hc
          obtain ⟨os, hos, x', hx', y', hy', rfl⟩ := hc
          cases hA
        · cases hc
    · cases hc
  | unOp op t x =>
    rw [hop] at hc
    simp only [cop, Option.map_eq_some_iff] at hc
    obtain ⟨y, hy, rfl⟩ := hc
    cases hA
  | convert s d x =>
    rw [hop] at hc
    simp only [cop] at hc
    split at hc
    · rename_i k0 k hs0 hd
      simp only [Option.map_eq_some_iff] at hc
      obtain ⟨y, hy, rfl⟩ := hc
      cases hA
    · rename_i k0 k hs0 hd
      simp only [Option.map_eq_some_iff] at hc
      obtain ⟨y, hy, rfl⟩ := hc
      cases hA
    · rename_i k0 k hs0 hd
      split at hc
      · simp only [Option.map_eq_some_iff] at hc
        obtain ⟨y, hy, rfl⟩ := hc
        cases hA
      · cases hc
    · rename_i e hs0 hd
      split at hc
      · simp only [Option.map_eq_some_iff] at hc
        obtain ⟨y, hy, rfl⟩ := hc
        cases hA
      · cases hc
    · cases hc
  | makeSlice t l c =>
    rw [hop] at hc
    simp only [cop] at hc
    split at hc
    · rename_i e hu
      simp only [Option.bind_eq_bind, Option.bind_eq_some_iff] at hc
      obtain ⟨i, hi, z, hz, hc⟩ := hc
      split at hc
      · rename_i hcond
        simp only [Option.bind_eq_some_iff, Option.pure_def, Option.some.injEq] at hc
        obtain ⟨l', hl', c', hc', rfl⟩ := hc
        exact p_mks hop hu hi hz hcond.1 hcond.2.1 hcond.2.2.1 (all_flat hcond.2.2.2) hl' hc' hT hs
      · cases hc
    · cases hc
  | slice t x lo hi mx =>
    rw [hop] at hc
    simp only [cop] at hc
    split at hc
    · rename_i e hu
      simp only [Option.bind_eq_bind, Option.bind_eq_some_iff, Option.pure_def, Option.some.injEq] at hc
      obtain ⟨m, hm, x', hx', lo', hlo, hi', hhi, mx', hmx, rfl⟩ := hc
      cases hA
    · rename_i hu
      split at hc
      · simp only [Option.bind_eq_bind, Option.bind_eq_some_iff, Option.pure_def, Option.some.injEq] at hc
        obtain ⟨x', hx', lo', hlo, hi', hhi, rfl⟩ := hc
        cases hA
      · cases hc
    · cases hc
  | fieldAddr s x f =>
    rw [hop] at hc
    simp only [cop] at hc
    split at hc
    · rename_i fs hu
      simp only [Option.bind_eq_bind, Option.bind_eq_some_iff] at hc
      obtain ⟨fd, hf, m, hm, hc⟩ := hc
      split at hc
      · cases hc
      · rename_i hm0
        simp only [Option.bind_eq_some_iff, Option.pure_def, Option.some.injEq] at hc
        first
          | (obtain ⟨y, hy, rfl⟩ := hc
             cases hA)
          | (obtain ⟨_, y, hy, rfl⟩ := hc
             cases hA)
    · cases hc
  | field s x f =>
    rw [hop] at hc
    simp only [cop] at hc
    split at hc
    · rename_i fs hu
      simp only [Option.bind_eq_bind, Option.bind_eq_some_iff] at hc
      obtain ⟨fd, hf, ag, hag, hc⟩ := hc
      cases ag with
      | true =>
        simp only [Option.bind_eq_some_iff, Option.pure_def, Option.some.injEq] at hc
        obtain ⟨m, hm, y, hy, rfl⟩ := hc
        cases hA
      | false =>
        simp only [Option.bind_eq_some_iff, Option.pure_def, Option.some.injEq] at hc
        obtain ⟨y, hy, rfl⟩ := hc
        cases hA
    · cases hc
  | indexAddr t x i =>
    rw [hop] at hc
    simp only [cop] at hc
    split at hc
    · rename_i e hu
      simp only [Option.bind_eq_bind, Option.bind_eq_some_iff, Option.pure_def, Option.some.injEq] at hc
      obtain ⟨m, hm, y, hy, z, hz, rfl⟩ := hc
      cases hA
    · rename_i len e hu
      simp only [Option.bind_eq_bind, Option.bind_eq_some_iff, Option.pure_def, Option.some.injEq] at hc
      obtain ⟨m, hm, y, hy, z, hz, rfl⟩ := hc
      cases hA
    · cases hc
  | index t x i =>
    rw [hop] at hc
    simp only [cop] at hc
    split at hc
    · rename_i hu
      simp only [Option.bind_eq_bind, Option.bind_eq_some_iff, Option.pure_def, Option.some.injEq] at hc
      obtain ⟨y, hy, z, hz, rfl⟩ := hc
      cases hA
    · cases hc
  | extract x i =>
    rw [hop] at hc
    simp only [cop, Option.map_eq_some_iff] at hc
    obtain ⟨y, hy, rfl⟩ := hc
    cases hA
  | call c =>
    rw [hop] at hc
    obtain ⟨callee, args, ats⟩ := c
    cases callee with
    | value f =>
      cases f with
      | func f =>
        simp only [cop] at hc
        split at hc
        · split at hc
          · cases hc
          · simp only [Option.map_eq_some_iff] at hc
            obtain ⟨ys, _, rfl⟩ := hc
            cases hA
        · cases hc
      | tmp t =>
        simp only [cop] at hc
        split at hc
        · simp only [Option.map_eq_some_iff] at hc
          obtain ⟨ys, _, rfl⟩ := hc
          cases hA
        · cases hc
      | _ => simp [cop] at hc
    | invoke r m => simp [cop] at hc
    | builtin b =>
      cases b with
      | len =>
        simp only [cop] at hc
        split at hc
        · rename_i x e hargs hu
          simp only [Option.map_eq_some_iff] at hc
          obtain ⟨y, hy, rfl⟩ := hc
          simp only [Option.bind_eq_some_iff] at hu
          obtain ⟨t, ht, hu⟩ := hu
          have ha : args = #[x] := by rw [← Array.toList_inj]; exact hargs
          subst ha
          cases hA
        · rename_i x hargs hu
          simp only [Option.map_eq_some_iff] at hc
          obtain ⟨y, hy, rfl⟩ := hc
          simp only [Option.bind_eq_some_iff] at hu
          obtain ⟨t, ht, hu⟩ := hu
          have ha : args = #[x] := by rw [← Array.toList_inj]; exact hargs
          subst ha
          cases hA
        · cases hc
      | append =>
        simp only [cop] at hc
        split at hc
        · rename_i s x st xt hargs hats
          split at hc
          · rename_i e hu
            simp only [Option.bind_eq_bind, Option.bind_eq_some_iff] at hc
            obtain ⟨i, hi, z, hz, hc⟩ := hc
            split at hc
            · rename_i hcond
              simp only [Option.bind_eq_some_iff, Option.pure_def, Option.some.injEq] at hc
              obtain ⟨s', hs', x', hx', rfl⟩ := hc
              obtain ⟨rfl, h1, h2, h3⟩ := hcond
              have ha : args = #[s, x] := by rw [← Array.toList_inj]; exact hargs
              have hb : ats = #[st, st] := by rw [← Array.toList_inj]; exact hats
              subst ha
              subst hb
              cases hA
            · cases hc
          · cases hc
        · cases hc
      | max =>
        simp only [cop] at hc
        split at hc
        · rename_i x y hargs
          simp only [Option.bind_eq_bind, Option.bind_eq_some_iff, Option.pure_def, Option.some.injEq] at hc
          obtain ⟨x', hx', y', hy', rfl⟩ := hc
          have ha : args = #[x, y] := by rw [← Array.toList_inj]; exact hargs
          subst ha
          cases hA
        · cases hc
      | min =>
        simp only [cop] at hc
        split at hc
        · rename_i x y hargs
          simp only [Option.bind_eq_bind, Option.bind_eq_some_iff, Option.pure_def, Option.some.injEq] at hc
          obtain ⟨x', hx', y', hy', rfl⟩ := hc
          have ha : args = #[x, y] := by rw [← Array.toList_inj]; exact hargs
          subst ha
          cases hA
        · cases hc
      | _ => simp [cop] at hc
  | makeFunc g first caps =>
    rw [hop] at hc
    cases g with
    | func g =>
      simp only [cop] at hc
      split at hc
      · simp only [Option.map_eq_some_iff] at hc
        obtain ⟨ys, hys, rfl⟩ := hc
        cases hA
      · cases hc
    | _ => simp [cop] at hc
  | _ => rw [hop] at hc; simp [cop] at hc
end
/-! ### An operation looks at its own slots alone -/
theorem ev_congr {T T' : Tm} {x : XArg} (h : ∀ t ∈ argT x, T' t = T t) : ev T' x = ev T x := by
  cases x with
  | tmp t => exact h t (by simp [argT])
  | const v => rfl
theorem optT_congr {T T' : Tm} {x : Option XArg} (h : ∀ t ∈ optT x, T' t = T t) : ∀ y, x = some y → ev T' y = ev T y := by
  rintro y rfl
  exact ev_congr h
theorem bounds_congr {T T' : Tm} {l h m : Option XArg} (hl : ∀ y, l = some y → ev T' y = ev T y) (hh : ∀ y, h = some y → ev T' y = ev T y) (hm : ∀ y, m = some y → ev T' y = ev T y) (len cap : Nat) : bounds T' len cap l h m = bounds T len cap l h m := by
  cases l <;> cases h <;> cases m <;> simp only [bounds, bound]
  all_goals
    (try rw [hl _ rfl])
    (try rw [hh _ rfl])
    (try rw [hm _ rfl])
theorem step_congr {T T' : Tm} {H : Heap} {op : XOp} (h : ∀ t ∈ looks op, T' t = T t) : step T' H op = step T H op := by
  cases op <;> simp only [looks, List.mem_append] at h <;> simp only [step]
  case mov x => rw [ev_congr h]
  case pick c a b => rw [ev_congr (x := c) (fun t ht => h t (.inl (.inl ht))), ev_congr (x := a) (fun t ht => h t (.inl (.inr ht))), ev_congr (x := b) (fun t ht => h t (.inr ht))]
  case box x => rw [ev_congr h]
  case agg zs ps =>
    have e1 : ps.map (fun p => (p.1, p.2.1, ev T' p.2.2)) = ps.map (fun p => (p.1, p.2.1, ev T p.2.2)) := List.map_congr_left (fun p hp => by rw [ev_congr (x := p.2.2) (fun t ht => h t (List.mem_flatMap.2 ⟨p, hp, ht⟩))])
    rw [e1]
  case bsl sz len zs ps =>
    have e1 : ps.map (fun p => (p.1, p.2.1, ev T' p.2.2)) = ps.map (fun p => (p.1, p.2.1, ev T p.2.2)) := List.map_congr_left (fun p hp => by rw [ev_congr (x := p.2.2) (fun t ht => h t (List.mem_flatMap.2 ⟨p, hp, ht⟩))])
    rw [e1]
  case load1 p => rw [ev_congr h]
  case loadN n p => rw [ev_congr h]
  case store n p x => rw [ev_congr (x := p) (fun t ht => h t (.inl ht)), ev_congr (x := x) (fun t ht => h t (.inr ht))]
  case nilc x => rw [ev_congr h]
  case bin op x y => rw [ev_congr (x := x) (fun t ht => h t (.inl ht)), ev_congr (x := y) (fun t ht => h t (.inr ht))]
  case binB op x y => rw [ev_congr (x := x) (fun t ht => h t (.inl ht)), ev_congr (x := y) (fun t ht => h t (.inr ht))]
  case cmp ng os x y => rw [ev_congr (x := x) (fun t ht => h t (.inl ht)), ev_congr (x := y) (fun t ht => h t (.inr ht))]
  case un op x => rw [ev_congr h]
  case toInt k x => rw [ev_congr h]
  case toFlt k x => rw [ev_congr h]
  case fltOf k x => rw [ev_congr h]
  case mks sz b z x y => rw [ev_congr (x := x) (fun t ht => h t (.inl ht)), ev_congr (x := y) (fun t ht => h t (.inr ht))]
  case slc sz x l hh m =>
    rw [ev_congr (x := x) (fun t ht => h t (.inl (.inl (.inl ht))))]
    simp only [bounds_congr (T := T) (T' := T') (optT_congr (x := l) (fun t ht => h t (.inl (.inl (.inr ht))))) (optT_congr (x := hh) (fun t ht => h t (.inl (.inr ht)))) (optT_congr (x := m) (fun t ht => h t (.inr ht)))]
  case sstr x l hh =>
    rw [ev_congr (x := x) (fun t ht => h t (.inl (.inl ht)))]
    simp only [bounds_congr (T := T) (T' := T') (optT_congr (x := l) (fun t ht => h t (.inl (.inr ht)))) (optT_congr (x := hh) (fun t ht => h t (.inr ht))) (m := none) (fun y hy => by cases hy)]
  case fad o x => rw [ev_congr h]
  case fdv1 o x => rw [ev_congr h]
  case fdvN o n x => rw [ev_congr h]
  case idx sz x i => rw [ev_congr (x := x) (fun t ht => h t (.inl ht)), ev_congr (x := i) (fun t ht => h t (.inr ht))]
  case aidx len sz x i => rw [ev_congr (x := x) (fun t ht => h t (.inl ht)), ev_congr (x := i) (fun t ht => h t (.inr ht))]
  case sidx x i => rw [ev_congr (x := x) (fun t ht => h t (.inl ht)), ev_congr (x := i) (fun t ht => h t (.inr ht))]
  case ext i x => rw [ev_congr h]
  case len x => rw [ev_congr h]
  case lenS x => rw [ev_congr h]
  case b2s x => rw [ev_congr h]
  case app sz b s x => rw [ev_congr (x := s) (fun t ht => h t (.inl ht)), ev_congr (x := x) (fun t ht => h t (.inr ht))]
  case mm mx x y => rw [ev_congr (x := x) (fun t ht => h t (.inl ht)), ev_congr (x := y) (fun t ht => h t (.inr ht))]
  case clo f xs =>
    have e1 : xs.map (ev T') = xs.map (ev T) := List.map_congr_left (fun x hx => ev_congr (fun t ht => h t (List.mem_flatMap.2 ⟨x, hx, ht⟩)))
    have e2 : (xs.all fun x => oneCell (ev T' x) && noTup (ev T' x)) = (xs.all fun x => oneCell (ev T x) && noTup (ev T x)) := by
      rw [Bool.eq_iff_iff, List.all_eq_true, List.all_eq_true]
      constructor
      · intro h1 x hx
        have := h1 x hx
        rwa [ev_congr (fun t ht => h t (List.mem_flatMap.2 ⟨x, hx, ht⟩))] at this
      · intro h1 x hx
        rw [ev_congr (fun t ht => h t (List.mem_flatMap.2 ⟨x, hx, ht⟩))]
        exact h1 x hx
    rw [e1, e2]
theorem byts_congr {H H2 : Heap} {v : Value} (h : ∀ x o n sz, v = .slice (some ⟨x, o, none⟩) n sz → H2.get x = H.get x) : byts H2 v = byts H v := by
  cases v with
  | slice a n sz =>
    cases a with
    | none => cases n <;> cases sz <;> rfl
    | some ad =>
      obtain ⟨i, o, t⟩ := ad
      cases t with
      | none => simp only [byts, h i o n sz rfl]
      | some _ => rfl
  | _ => rfl
/-- An operation that turns nothing yields the same over another heap, if what it reads is the same. -/
theorem step_frame {T : Tm} {H H' H2 : Heap} {op : XOp} {v : Value} (h : step T H op = some (v, H')) (hE : kindE op = false) (hA : kindA op = false) (hr : ∀ x, Reads T op x → H2.get x = H.get x) : step T H2 op = some (v, H2) := by
  cases op <;> simp only [kindE, kindA, reduceCtorEq] at hE hA
  case load1 p =>
    simp only [step] at h ⊢
    split at h
    · rename_i i o he
      have := hr i ⟨p, o, .inl ⟨.inl rfl, he⟩⟩
      try simp only [this]
      split at h
      · rename_i ob hob
        try simp only [hob]
        split at h
        · rename_i u hu
          try simp only [hu]
          simp only [Option.some.injEq, Prod.mk.injEq] at h
          rw [h.1]
        · cases h
      · cases h
    · cases h
  case loadN m p =>
    simp only [step] at h ⊢
    split at h
    · rename_i i o he
      have := hr i ⟨p, o, .inl ⟨.inr ⟨m, rfl⟩, he⟩⟩
      try simp only [this]
      split at h
      · rename_i ob hob
        try simp only [hob]
        split at h
        · rename_i hl
          rw [if_pos hl]
          simp only [Option.some.injEq, Prod.mk.injEq] at h
          rw [h.1]
        · cases h
      · cases h
    · cases h
  case b2s p =>
    simp only [step, Option.map_eq_some_iff, Prod.mk.injEq] at h ⊢
    obtain ⟨u, hu, h1, _⟩ := h
    exact ⟨u, by rw [byts_congr (fun x o n sz e => hr x ⟨p, o, .inr ⟨rfl, n, sz, e⟩⟩), hu], h1, trivial⟩
  case mm mx x y =>
    simp only [step] at h ⊢
    split at h
    · split at h
      · rename_i hk
        simp only [Option.some.injEq, Prod.mk.injEq] at h
        rw [if_pos hk, h.1]
      · cases h
    · cases h
  all_goals
    simp only [step] at h ⊢
    repeat' (split at h)
    all_goals first
      | (cases h; done)
      | (simp only [Option.some.injEq, Prod.mk.injEq] at h; rw [h.1]; done)
      | (simp only [Option.map_eq_some_iff, Prod.mk.injEq] at h ⊢; obtain ⟨q, h1, h2, _⟩ := h; exact ⟨q, h1, h2, rfl⟩)
      | (simp only [Option.map_eq_some_iff, Prod.mk.injEq] at h ⊢; obtain ⟨q, h1, h2⟩ := h; simp_all; done)
      | (simp_all; done)
end Go.Proofs.Ytkadelndmaegdaa.AX
