/- The executor is sound: calls, and regions whose order is that of the text. No condition beyond each law's own; nothing of the program. -/
import Derived.Test.YtkadelndmaegdaaAXi
import Derived.Laws.Externs
namespace Go.Proofs.Ytkadelndmaegdaa.AX
open Go

/-- What is to be shown of calls. -/
def Enterable (P : Program) (f : FuncId) : Prop := ∃ fn, P.funcs[f]? = some fn ∧ (fn.name == "runtime.NumGoroutine") = false ∧ fn.body.isNone = false
def CallSound (P : Program) (C : CallRel) : Prop := ∀ f args H v H', C f args H v H' → (Enterable P f ∧ ∀ ρ w (args' : Array Value), Rel ρ H w → All2 (VR ρ) args args'.toList →
  Calls P f args' w fun e w' => ∃ v' ρ', e = .returned v' ∧ VR ρ' v v' ∧ Next ρ H w ρ' H' w') ∨ extc P f args H v ∧ H' = H
theorem args_sound {ρ : Map} {n : Nat} {T : Tm} {a : Act} (hT : TRel ρ n T a) : ∀ (xs : List Operand) (ys : List XArg), xs.mapM (carg n) = some ys → All2 (VR ρ) (ys.map (ev T)) (xs.map a.eval)
  | [], ys, h => by simp at h; subst h; exact .nil
  | x :: xs, ys, h => by
    simp only [List.mapM_cons, Option.bind_eq_bind, Option.bind_eq_some_iff, Option.pure_def, Option.some.injEq] at h
    obtain ⟨y, hy, ys', hys, rfl⟩ := h
    exact .cons (ev_sound hy hT) (args_sound hT xs ys' hys)
section
variable {P : Program} {o : Oper} {a : Act} {w : World} {K : Act → World → Prop} {Q : Exit → Act → World → Prop} {ρ : Map} {n : Nat} {T : Tm} {H : Heap} {C : CallRel} {ops : Array Oper}
theorem call_form {f : FuncId} {ys : List XArg} (hc : cop P n o.op = some (.call f ys)) : ∃ args ats fn, o.op = .call { callee := .value (.func f), args := args, argTypes := ats } ∧ P.funcs[f]? = some fn ∧ (fn.name == "runtime.NumGoroutine") = false ∧ cargs n args = some ys := by
  cases hop : o.op with
  | call c =>
    rw [hop] at hc
    obtain ⟨callee, args, ats⟩ := c
    cases callee with
    | value x =>
      cases x with
      | func g =>
        simp only [cop] at hc
        split at hc
        · rename_i fn hfn
          split at hc
          · cases hc
          · rename_i hcond
            simp only [Option.map_eq_some_iff, XOp.call.injEq] at hc
            obtain ⟨zs, hz, rfl, rfl⟩ := hc
            simp only [Bool.or_eq_true, not_or] at hcond
            rw [Bool.not_eq_true] at hcond
            exact ⟨args, ats, fn, rfl, hfn, hcond.1, hz⟩
        · cases hc
      | tmp t =>
        simp only [cop] at hc
        split at hc
        · simp only [Option.map_eq_some_iff, reduceCtorEq, and_false, exists_false] at hc
        · cases hc
      | _ => simp [cop] at hc
    | invoke r m => simp [cop] at hc
    | builtin b =>
      exfalso
      cases b <;> simp only [cop] at hc <;> try (cases hc; done)
      all_goals
        repeat' (split at hc)
        all_goals first
          | (cases hc; done)
          | (simp [Option.bind_eq_some_iff] at hc; done)
  | makeFunc g first caps =>
    exfalso
    rw [hop] at hc
    cases g <;> simp only [cop] at hc <;> try (cases hc; done)
    split at hc
    · simp only [Option.map_eq_some_iff, reduceCtorEq, and_false, exists_false] at hc
    · cases hc
  | _ =>
    exfalso
    rw [hop] at hc
    simp only [cop] at hc
    repeat' (split at hc)
    all_goals first
      | (cases hc; done)
      | (simp [Option.bind_eq_some_iff] at hc; done)
      | (simp [Option.bind_eq_some_iff] at hc; repeat' (split at hc); all_goals first | (cases hc; done) | (simp [Option.bind_eq_some_iff] at hc; done))
theorem load_bytes (w : World) : ∀ (xs : List Int) (a : Addr) (acc : ByteArray), (∀ j x, xs[j]? = some x → w.cell? (a.add j) = some (.int .u8 x)) →
    (Extern.Bytes.loadBytes a xs.length acc).run P w = .ok (xs.foldl (fun r n => r.push (UInt8.ofNat n.toNat)) acc) w
  | [], a, acc, _ => by simp [Extern.Bytes.loadBytes]
  | x :: l, a, acc, h => by
    have h0 : w.cell? a = some (.int .u8 x) := by
      have := h 0 x rfl
      simpa [Addr.add] using this
    have ih := load_bytes w l (a.add 1) (acc.push x.toNat.toUInt8) (fun j y hy => by
      have := h (j + 1) y (by simpa using hy)
      have e : (a.add 1).add j = a.add (j + 1) := by
        unfold Addr.add
        by_cases hj : j = 0
        · subst hj; simp
        · simp [hj]; omega
      rw [e]; exact this)
    simp only [List.length_cons, Extern.Bytes.loadBytes, Sem.run_bind, run_load, h0, Result.andThen]
    rw [ih]
    rfl
theorem bytesOf_sound {x : Value} {x' : Value} (h1 : VR ρ x x') (hR : Rel ρ H w) {u : ByteArray} (hu : byts H x = some u) : (Extern.Bytes.bytesOf x').run P w = .ok u w := by
  unfold byts at hu
  split at hu
  · rw [h1.nilslice]
    injection hu with hu
    subst hu
    rfl
  · rename_i i off m sz
    split at hu
    · rename_i hm
      injection hu with hu
      subst hu hm
      rcases h1.slice with ⟨b, L, c, _, _, _, e2⟩ | ⟨_, ⟨ad, e2⟩, _⟩
      · rw [e2]; rfl
      · rw [e2]; rfl
    · rename_i hm
      split at hu
      · rename_i ob hob
        split at hu
        · rename_i hl
          obtain ⟨rfl, hl⟩ := hl
          simp only [Option.map_eq_some_iff] at hu
          obtain ⟨zs, hz, rfl⟩ := hu
          rcases h1.slice with ⟨b, L, c, hr, _, _, e2⟩ | ⟨h0, _⟩
          · obtain ⟨cs, h2, h3, h4⟩ := seg_of hR hob hr off m hl
            have e3 := byteVs_sound h3 hz
            have hlc := load_bytes (P := P) w zs (b.add off) .empty (fun j x hj => h4 j _ (by rw [e3, List.getElem?_map, hj]; rfl))
            have h5 : zs.length = m := by rw [← h2, e3, List.length_map]
            rw [h5] at hlc
            rw [e2]
            simp only [Extern.Bytes.bytesOf]
            rw [hlc, foldl_push_bytes]
            simp [strOfNums, ByteArray.empty, ByteArray.emptyWithCapacity]
            rfl
          · exact absurd h0 hm
        · cases hu
      · cases hu
  · cases hu
theorem find_ext {fn : Func} {cn : Bool} (h : fn.name = extName cn) : Extern.find fn = some (if cn then Extern.BytealgCount.count else Extern.BytealgIndexByte.indexByte) := by
  unfold Extern.find
  simp only [h]
  cases cn <;> rfl
theorem ext_run {f : FuncId} {as : List Value} {v : Value} {args : Array Value} (hR : Rel ρ H w) (hall : All2 (VR ρ) as args.toList) (hx : extc P f as H v) : (callFunc f args).run P w = .ok (.value v) w := by
  obtain ⟨fn, cn, hfn, hname, hb, hn, he, x, c, s, rfl, hs, rfl⟩ := hx
  have hn' : Extern.findNext fn = none := by simpa using hn
  rw [run_callFunc_extern hfn hname hb hn' (find_ext he)]
  obtain ⟨xs⟩ := args
  cases hall with
  | cons h1 h2 =>
    cases h2 with
    | cons h2 h3 =>
      cases h3
      rename_i x' y'
      have hc := h2.int
      subst hc
      have hb := bytesOf_sound (P := P) h1 hR hs
      cases cn with
      | true =>
        change (Sem.run P (do
          let b ← Extern.Bytes.bytesOf x'
          let c ← Extern.Bytes.asByte (.int .u8 c)
          pure (goInt (b.foldl (fun n x => if x == c then n + 1 else n) (0 : Nat)))) w).andThen _ = _
        simp only [Sem.run_bind, hb, Result.andThen, Extern.Bytes.asByte, Sem.run_pure]
        rfl
      | false =>
        change (Sem.run P (do
          let b ← Extern.Bytes.bytesOf x'
          let c ← Extern.Bytes.asByte (.int .u8 c)
          match (List.range b.size).find? fun i => b[i]! == c with
          | some i => pure (goInt i)
          | none => pure (goInt (-1))) w).andThen _ = _
        simp only [Sem.run_bind, hb, Result.andThen, Extern.Bytes.asByte, Sem.run_pure, bsea, Bool.false_eq_true, if_false]
        generalize List.find? _ _ = o
        cases o <;> rfl
theorem ext_vr {f : FuncId} {as : List Value} {v : Value} {ρ' : Map} (hx : extc P f as H v) : VR ρ' v v := by
  obtain ⟨fn, cn, hfn, hname, hb, hn, he, x, c, s, rfl, hs, rfl⟩ := hx
  exact .one (.leaf (.flat rfl))
theorem call_wp (hC : CallSound P C) {f : FuncId} {args : Array Operand} {ats : Array TypeId} {fn : Func} {as : List Value} {v : Value} {H' : Heap} (hop : o.op = .call { callee := .value (.func f), args := args, argTypes := ats }) (hfn : P.funcs[f]? = some fn)
    (hR : Rel ρ H w) (hall : All2 (VR ρ) as (args.map a.eval).toList) (h1 : C f as H v H')
    (hk : ∀ v' ρ' w', VR ρ' v v' → Next ρ H w ρ' H' w' → K (a.put o.dst v') w') : o.wp P a w K Q := by
  rcases hC _ _ _ _ _ h1 with ⟨⟨fn', hfn', hname, hbody⟩, h2⟩ | ⟨hx, rfl⟩
  case inr =>
    have hr := ext_run hR hall hx
    have e1 : a.eval (.func f) = .func (.func f) #[] #[] := rfl
    have hrun : (execOp a.eval o).run P w = .ok (.value v) w := by
      simp [execOp, hop, resolve, e1, Deferred.ofValue, invoke, hr]
    exact wp_of_run hrun (hk _ _ _ (ext_vr hx) (Next.refl hR))
  have hff : fn = fn' := by rw [hfn] at hfn'; exact Option.some.inj hfn'
  subst hff
  have hcalls := h2 ρ w (args.map a.eval) hR hall
  have hrun : (execOp a.eval o).run P w = .ok (.enter f (args.map a.eval)) w := by
    have hb : ¬ fn.body = none := fun e => by rw [e] at hbody; cases hbody
    have hn : ¬ fn.name = "runtime.NumGoroutine" := by simpa using hname
    have e1 : a.eval (.func f) = .func (.func f) #[] #[] := rfl
    simp [execOp, hop, resolve, e1, Deferred.ofValue, invoke, callFunc, Go.program, Sem.run, hfn]
    rw [if_neg hn, if_neg hb]
  unfold Oper.wp
  rw [hrun]
  simp only [Oper.upon]
  refine hcalls.mono ?_
  rintro e w' ⟨v', ρ', rfl, hv, hN⟩
  exact hk v' ρ' w' hv hN
theorem calld_form {x : XArg} {ys : List XArg} (hc : cop P n o.op = some (.calld x ys)) : ∃ t args ats, o.op = .call { callee := .value (.tmp t), args := args, argTypes := ats } ∧ carg n (.tmp t) = some x ∧ cargs n args = some ys := by
  cases hop : o.op with
  | call c =>
    rw [hop] at hc
    obtain ⟨callee, args, ats⟩ := c
    cases callee with
    | value x =>
      cases x with
      | func g =>
        exfalso
        simp only [cop] at hc
        split at hc
        · split at hc
          · cases hc
          · simp only [Option.map_eq_some_iff, reduceCtorEq, and_false, exists_false] at hc
        · cases hc
      | tmp t =>
        simp only [cop] at hc
        split at hc
        · rename_i ht
          simp only [Option.map_eq_some_iff, XOp.calld.injEq] at hc
          obtain ⟨zs, hz, rfl, rfl⟩ := hc
          exact ⟨t, args, ats, rfl, by simp [carg, ht], hz⟩
        · cases hc
      | _ => simp [cop] at hc
    | invoke r m => simp [cop] at hc
    | builtin b =>
      exfalso
      cases b <;> simp only [cop] at hc <;> try (cases hc; done)
      all_goals
        repeat' (split at hc)
        all_goals first
          | (cases hc; done)
          | (simp [Option.bind_eq_some_iff] at hc; done)
  | makeFunc g first caps =>
    exfalso
    rw [hop] at hc
    cases g <;> simp only [cop] at hc <;> try (cases hc; done)
    split at hc
    · simp only [Option.map_eq_some_iff, reduceCtorEq, and_false, exists_false] at hc
    · cases hc
  | _ =>
    exfalso
    rw [hop] at hc
    simp only [cop] at hc
    repeat' (split at hc)
    all_goals first
      | (cases hc; done)
      | (simp [Option.bind_eq_some_iff] at hc; done)
      | (simp [Option.bind_eq_some_iff] at hc; repeat' (split at hc); all_goals first | (cases hc; done) | (simp [Option.bind_eq_some_iff] at hc; done))
theorem calld_wp (hC : CallSound P C) {t : Nat} {f : FuncId} {args : Array Operand} {ats : Array TypeId} {as : List Value} {cs : Array Value} {v : Value} {H' : Heap} (hop : o.op = .call { callee := .value (.tmp t), args := args, argTypes := ats })
    (hR : Rel ρ H w) (hf : VR ρ (.func (.func f) #[] cs) (a.eval (.tmp t))) (hall : All2 (VR ρ) as (args.map a.eval).toList) (h1 : C f (as ++ cs.toList) H v H')
    (hk : ∀ v' ρ' w', VR ρ' v v' → Next ρ H w ρ' H' w' → K (a.put o.dst v') w') : o.wp P a w K Q := by
  obtain ⟨ys, e1, hcs⟩ := hf.func_
  have hall' : All2 (VR ρ) (as ++ cs.toList) (args.map a.eval ++ ys).toList := by
    rw [Array.toList_append]
    exact hall.append (hcs.imp fun _ _ h => .one (.leaf h))
  rcases hC _ _ _ _ _ h1 with ⟨⟨fn, hfn, hname, hbody⟩, h2⟩ | ⟨hx, rfl⟩
  case inr =>
    have hr := ext_run hR hall' hx
    have hrun : (execOp a.eval o).run P w = .ok (.value v) w := by
      simp [execOp, hop, resolve, e1, Deferred.ofValue, invoke, hr]
    exact wp_of_run hrun (hk _ _ _ (ext_vr hx) (Next.refl hR))
  have hcalls := h2 ρ w (args.map a.eval ++ ys) hR (by
    rw [Array.toList_append]
    exact hall.append (hcs.imp fun _ _ h => .one (.leaf h)))
  have hrun : (execOp a.eval o).run P w = .ok (.enter f (args.map a.eval ++ ys)) w := by
    have hb : ¬ fn.body = none := fun e => by rw [e] at hbody; cases hbody
    have hn : ¬ fn.name = "runtime.NumGoroutine" := by simpa using hname
    simp [execOp, hop, resolve, e1, Deferred.ofValue, invoke, callFunc, Go.program, Sem.run, hfn]
    rw [if_neg hn, if_neg hb]
  unfold Oper.wp
  rw [hrun]
  simp only [Oper.upon]
  refine hcalls.mono ?_
  rintro e w' ⟨v', ρ', rfl, hv, hN⟩
  exact hk v' ρ' w' hv hN
theorem op1_sound (hC : CallSound P C) {xo : XOp} (hc : cop P n o.op = some xo) (hT : TRel ρ n T a) (hR : Rel ρ H w) {k : Value → Heap → Prop} (hs : Op1 C T H xo k)
    (hk : ∀ v v' H' ρ' w', k v H' → VR ρ' v v' → Next ρ H w ρ' H' w' → K (a.put o.dst v') w') : o.wp P a w K Q := by
  by_cases hcall : ∃ f ys, xo = .call f ys
  · obtain ⟨f, ys, rfl⟩ := hcall
    simp only [Op1] at hs
    obtain ⟨v, H', h1, h2⟩ := hs
    obtain ⟨args, ats, fn, hop, hfn, hname, hargs⟩ := call_form hc
    refine call_wp hC hop hfn hR ?_ h1 (fun v' ρ' w' hv hN => hk v v' H' ρ' w' h2 hv hN)
    rw [Array.toList_map]
    exact args_sound hT _ _ hargs
  by_cases hcalld : ∃ x ys, xo = .calld x ys
  · obtain ⟨x, ys, rfl⟩ := hcalld
    simp only [Op1] at hs
    obtain ⟨f, cs, ef, v, H', h1, h2⟩ := hs
    obtain ⟨t, args, ats, hop, hx, hargs⟩ := calld_form hc
    have hf := ev_sound hx hT
    rw [ef] at hf
    refine calld_wp hC hop hR hf ?_ h1 (fun v' ρ' w' hv hN => hk v v' H' ρ' w' h2 hv hN)
    rw [Array.toList_map]
    exact args_sound hT _ _ hargs
  · have hs' : ∃ p, step T H xo = some p ∧ k p.1 p.2 := by
      cases xo <;> first
        | exact absurd ⟨_, _, rfl⟩ hcall
        | exact absurd ⟨_, _, rfl⟩ hcalld
        | (simp only [Op1] at hs
           split at hs
           · rename_i p hp; exact ⟨p, hp, hs⟩
           · exact hs.elim)
    obtain ⟨⟨v, H'⟩, h1, h2⟩ := hs'
    exact op_sound hc hT hR h1 (fun v' w' ρ' hv hN => hk v v' H' ρ' w' h2 hv hN)
theorem wanted_eq (hT : TRel ρ n T a) {g : Option (Nat × Bool)} (hg : cguard n ops o.guard = some g) : Region.wanted o (yielded ops a.tmps) = wanted T g := by
  cases hog : o.guard with
  | none =>
    rw [hog] at hg
    simp only [cguard, Option.some.injEq] at hg
    subst hg
    simp [Region.wanted, hog, wanted]
  | some p =>
    obtain ⟨j, want⟩ := p
    rw [hog] at hg
    simp only [cguard] at hg
    split at hg
    · rename_i t ht
      split at hg
      · rename_i htn
        injection hg with hg
        subst hg
        have hv := hT.val t htn
        have hget : a.tmps[t]? = some (a.tmps.getD t undef) := by
          rw [Array.getD_eq_getD_getElem?]
          have : t < a.tmps.size := by rw [hT.size]; exact htn
          simp [this]
        simp only [Region.wanted, hog, wanted, yielded, ht, Option.bind_some, hget]
        cases hTt : T t with
        | bool b =>
          rw [hTt] at hv
          rw [hv.bool]
          cases b <;> cases want <;> rfl
        | _ =>
          have hne : ∀ b, a.tmps.getD t undef ≠ .bool b := by
            intro b e
            rw [e, hTt] at hv
            cases hv with
            | one h => cases h with
              | leaf h => cases h
          cases hc : a.tmps.getD t undef with
          | bool b => exact absurd hc (hne b)
          | _ => simp
      · cases hg
    · cases hg
theorem coper_parts {xo : XO} (h : coper P n ops o = some xo) : xo.dst = o.dst ∧ cop P n o.op = some xo.op ∧ cguard n ops o.guard = some xo.guard ∧ ∀ d, o.dst = some d → d < n := by
  unfold coper at h
  split at h
  · rename_i d hd
    split at h
    · rename_i hlt
      simp only [Option.bind_eq_bind, Option.bind_eq_some_iff, Option.pure_def, Option.some.injEq] at h
      obtain ⟨op, h1, g, h2, rfl⟩ := h
      exact ⟨hd.symm, h1, h2, fun d' hd' => by rw [hd] at hd'; injection hd' with hd'; subst hd'; exact hlt⟩
    · cases h
  · rename_i hd
    simp only [Option.bind_eq_bind, Option.bind_eq_some_iff, Option.pure_def, Option.some.injEq] at h
    obtain ⟨op, h1, g, h2, rfl⟩ := h
    exact ⟨hd.symm, h1, h2, fun d' hd' => by rw [hd] at hd'; cases hd'⟩
/-- A region in the order of the text. -/
theorem reg_sound (hC : CallSound P C) : ∀ (l : List Oper) (os : List XO) (a : Act) (w : World) (ρ : Map) (T : Tm) (H : Heap) (Kx : Tm → Heap → Prop), l.mapM (coper P n ops) = some os → TRel ρ n T a → Rel ρ H w → Wops C os Kx T H →
    (∀ T' H' ρ' a' w', Kx T' H' → TRel ρ' n T' a' → Next ρ H w ρ' H' w' → Q .normal a' w') → wpList P ops Q l a w
  | [], os, a, w, ρ, T, H, Kx, hl, hT, hR, hW, hQ => by
    simp at hl
    subst hl
    exact hQ T H ρ a w hW hT (Next.refl hR)
  | o :: l, os, a, w, ρ, T, H, Kx, hl, hT, hR, hW, hQ => by
    simp only [List.mapM_cons, Option.bind_eq_bind, Option.bind_eq_some_iff, Option.pure_def, Option.some.injEq] at hl
    obtain ⟨xo, hxo, os', hos, rfl⟩ := hl
    obtain ⟨hd, hop, hg, _⟩ := coper_parts hxo
    have hw := wanted_eq (ops := ops) hT hg
    simp only [Wops] at hW
    refine wpList_step fun K hK => ?_
    split
    · rename_i hwt
      rw [hw] at hwt
      rw [if_pos hwt] at hW
      refine op1_sound hC hop hT hR hW (fun v v' H' ρ' w' h1 hv hN => hK _ _ ?_)
      refine reg_sound hC l os' _ w' ρ' _ H' Kx hos ?_ hN.rel h1 (fun T2 H2 ρ2 a2 w2 h2 h3 h4 => hQ T2 H2 ρ2 a2 w2 h2 h3 (hN.trans h4))
      rw [hd]
      exact (hT.le hN.le).putO hv
    · rename_i hwt
      rw [hw] at hwt
      rw [if_neg hwt] at hW
      refine hK _ _ ?_
      refine reg_sound hC l os' _ w ρ _ H Kx hos ?_ hR hW hQ
      rw [hd]
      exact hT.putO (VR.undef_ _)
end
end Go.Proofs.Ytkadelndmaegdaa.AX
