/- Each operation of the executor is what the model's operation does: third part (arithmetic, make, cuts, append, the greater of two). No condition beyond each law's own; nothing of the program. -/
import Derived.Test.YtkadelndmaegdaaAXe
namespace Go.Proofs.Ytkadelndmaegdaa.AX
open Go

theorem int_beq (i j : Int) : (i == j) = decide (i = j) := by rw [Bool.eq_iff_iff]; simp
theorem wrap_nat {m : Nat} (h : m ≤ 9223372036854775807) : IntKind.i64.wrap (m : Int) = m := by
  rw [IntKind.wrap_i64]
  omega
theorem run_equal_bool {P : Program} {w : World} {t : TypeId} (hu : P.underlying t = some .bool) (a b : Bool) : (Op.equal t (.bool a) (.bool b)).run P w = .ok (a == b) w := by
  have h : Op.maxDepth = 9999 + 1 := rfl
  rw [Op.equal, h, Op.equalIn]
  simp [run_underlying hu]
theorem order_self {d : Ieee.Datum} : d.isNaN = false → d.order d = some .eq := by
  cases d <;> simp [Ieee.Datum.isNaN, Ieee.Datum.order]
theorem nanB_iff {k : FloatKind} {b : Nat} : nanB k b = (k.format.read b).isNaN := by
  unfold nanB Ieee.Format.order
  cases h : (k.format.read b).isNaN
  · rw [order_self h]; rfl
  · cases hd : k.format.read b <;> rw [hd] at h <;> simp [Ieee.Datum.isNaN] at h
    simp [Ieee.Datum.order]
theorem isNaN_eq {d : Ieee.Datum} (h : d.isNaN = true) : ∃ s t, d = .nan s t := by
  cases d <;> simp [Ieee.Datum.isNaN] at h
  exact ⟨_, _, rfl⟩
theorem opp_nan {d : Ieee.Datum} (h : d.isNaN = true) : d.opposite.isNaN = true := by
  obtain ⟨s, t, rfl⟩ := isNaN_eq h; rfl
theorem nan_of_infRung {f : Ieee.Format} {b : Nat} (h1 : f.infRung < b % f.signWeight) (h2 : f.binade ≤ f.infRung) : (f.read b).isNaN = true := by
  unfold Ieee.Format.read
  rw [if_neg (by omega), if_neg (by omega), if_neg (by omega)]
  rfl
theorem cut_lt (s W I B r : Nat) (hB : r < B) (h : I + 1 + B ≤ W) : I < (s * W + I + 1 + r) % W := by
  rw [show s * W + I + 1 + r = s * W + (I + 1 + r) by omega, Nat.mul_comm, Nat.mul_add_mod, Nat.mod_eq_of_lt (by omega)]
  omega
theorem nan_cut (k : FloatKind) (a b t : Nat) : nanB k ((Question.nanBits k a b).cut t) = true := by
  rw [nanB_iff]
  cases k
  · exact nan_of_infRung (cut_lt (t % 2) (2 ^ 31) 0x7f800000 (2 ^ 23 - 1) (t / 2 % (2 ^ 23 - 1)) (Nat.mod_lt _ (by decide)) (by decide)) (by decide)
  · exact nan_of_infRung (cut_lt (t % 2) (2 ^ 63) 0x7ff0000000000000 (2 ^ 52 - 1) (t / 2 % (2 ^ 52 - 1)) (Nat.mod_lt _ (by decide)) (by decide)) (by decide)
theorem nan_nanOf (k : FloatKind) : nanB k (nanOf k) = true := by
  cases k <;> decide
section
variable {P : Program} {o : Oper} {a : Act} {w : World} {K : Act → World → Prop} {Q : Exit → Act → World → Prop} {ρ : Map} {n : Nat} {T : Tm} {H H' : Heap} {v : Value}
theorem s_bin {op : BinOp} {t yt : TypeId} {x y : Operand} {x' y' : XArg} (ho : o.op = .binOp op t x y yt) (hx : carg n x = some x') (hy : carg n y = some y')
    (hT : TRel ρ n T a) (hR : Rel ρ H w) (hs : step T H (.bin op x' y') = some (v, H')) : Sound P o a w K Q ρ H v H' := by
  intro hk
  have h1 := ev_sound hx hT
  have h2 := ev_sound hy hT
  simp only [step, Option.map_eq_some_iff, Prod.mk.injEq] at hs
  obtain ⟨u, hu', rfl, rfl⟩ := hs
  have fin : ∀ u', flatB u = true → u' = u → (do eqGuard op t x y (a.eval x) (a.eval y); binOp op t (a.eval x) (a.eval y) : Sem Value).run P w = .ok u' w → o.wp P a w K Q := by
    rintro u' hf rfl hr
    refine wp_of_run (w' := w) (v' := u') ?_ (hk _ _ _ (.one (.leaf (.flat hf))) (Next.refl hR))
    rw [Sem.run_bind] at hr
    simp only [execOp, ho, Sem.run_bind, hr]
    simp
  cases hv1 : ev T x' with
  | int k i =>
    cases hv2 : ev T y' with
    | int k' j =>
      rw [hv1] at hu' h1
      rw [hv2] at hu' h2
      have e1 := h1.int
      have e2 := h2.int
      rw [e1, e2] at fin
      simp only [abin] at hu'
      split at hu'
      · rename_i hop
        subst hop
        split at hu'
        · cases hu'
        · rename_i hj
          injection hu' with hu'
          subst hu'
          exact fin _ rfl rfl (by simp [eqGuard, binOp, Op.shift, hj])
      · split at hu'
        · rename_i hop
          subst hop
          split at hu'
          · cases hu'
          · rename_i hj
            injection hu' with hu'
            subst hu'
            exact fin _ rfl rfl (by simp [eqGuard, binOp, Op.shift, hj])
        · split at hu'
          · rename_i h3 h4 hkk
            subst hkk
            cases op <;> simp only [intOp, reduceCtorEq] at hu' h3 h4 <;> first
              | (cases hu'; done)
              | (split at hu'
                 · cases hu'
                 · rename_i hz
                   injection hu' with hu'
                   subst hu'
                   exact fin _ rfl rfl (by simp [eqGuard, binOp, Op.intDiv, hz]))
              | (injection hu' with hu'
                 subst hu'
                 exact fin _ rfl rfl (by simp [eqGuard, binOp, Op.intArith, Op.intBits, Op.intCmp, int_beq, bne]))
              | exact absurd rfl h3
              | exact absurd rfl h4
          · cases hu'
    | _ => rw [hv1, hv2] at hu'; simp [abin] at hu'
  | float k b1 =>
    cases hv2 : ev T y' with
    | float k' b2 =>
      rw [hv1] at hu' h1
      rw [hv2] at hu' h2
      obtain ⟨c1, e1, r1⟩ := h1.float
      obtain ⟨c2, e2, r2⟩ := h2.float
      simp only [abin] at hu'
      split at hu'
      · rename_i hkk
        subst hkk
        have ho1 : k.format.order c1 c2 = k.format.order b1 b2 := by
          unfold Ieee.Format.order
          rcases r1 with rfl | ⟨n1, n1'⟩
          · rcases r2 with rfl | ⟨n2, n2'⟩
            · rfl
            · rw [nanB_iff] at n2 n2'
              obtain ⟨s, t, h⟩ := isNaN_eq n2
              obtain ⟨s', t', h'⟩ := isNaN_eq n2'
              rw [h, h']
              cases k.format.read c1 <;> rfl
          · rw [nanB_iff] at n1 n1'
            obtain ⟨s, t, h⟩ := isNaN_eq n1
            obtain ⟨s', t', h'⟩ := isNaN_eq n1'
            rw [h, h']
            rfl
        have hno : ∀ (g : Ieee.Datum → Ieee.Datum → Option Ieee.Datum), (∀ d e, d.isNaN = true ∨ e.isNaN = true → g d e = none) → (c1 = b1 ∧ c2 = b2) ∨ (g (k.format.read c1) (k.format.read c2) = none ∧ g (k.format.read b1) (k.format.read b2) = none) := by
          intro g hg
          rw [nanB_iff, nanB_iff] at r1 r2
          rcases r1 with h1 | ⟨n1, n1'⟩
          · rcases r2 with h2 | ⟨n2, n2'⟩
            · exact .inl ⟨h1, h2⟩
            · exact .inr ⟨hg _ _ (.inr n2'), hg _ _ (.inr n2)⟩
          · exact .inr ⟨hg _ _ (.inl n1'), hg _ _ (.inl n1)⟩
        have cmp : flatB u = true → (do eqGuard op t x y (a.eval x) (a.eval y); binOp op t (a.eval x) (a.eval y) : Sem Value).run P w = .ok u w → o.wp P a w K Q := by
          intro hf hr
          refine wp_of_run (w' := w) (v' := u) ?_ (hk _ _ _ (.one (.leaf (.flat hf))) (Next.refl hR))
          rw [Sem.run_bind] at hr
          simp only [execOp, ho, Sem.run_bind, hr]
          simp
        have ari : ∀ (f : Nat → Nat → Option Nat) (g : Ieee.Datum → Ieee.Datum → Option Ieee.Datum), (∀ m n, f m n = (g (k.format.read m) (k.format.read n)).map k.format.write) → (∀ d e, d.isNaN = true ∨ e.isNaN = true → g d e = none) → u = .float k ((f b1 b2).getD (nanOf k)) →
            (∀ z, f c1 c2 = some z → (do eqGuard op t x y (a.eval x) (a.eval y); binOp op t (a.eval x) (a.eval y) : Sem Value).run P w = .ok (.float k z) w) →
            (f c1 c2 = none → (do eqGuard op t x y (a.eval x) (a.eval y); binOp op t (a.eval x) (a.eval y) : Sem Value).run P w = .ok (.float k ((Question.nanBits k c1 c2).cut (w.tape w.drawn (.nanBits k c1 c2)))) w.drew) → o.wp P a w K Q := by
          rintro f g hfg hg rfl hs1 hs2
          have hdr : Next ρ H w ρ H w.drew := Next.drawn hR rfl rfl rfl rfl
          have both : f c1 c2 = none → f b1 b2 = none → o.wp P a w K Q := by
            intro e3 e4
            have hr := hs2 e3
            refine wp_of_run (w' := w.drew) (v' := .float k ((Question.nanBits k c1 c2).cut (w.tape w.drawn (.nanBits k c1 c2)))) ?_ (hk _ _ _ (.one (.leaf ?_)) hdr)
            · rw [Sem.run_bind] at hr
              simp only [execOp, ho, Sem.run_bind, hr]
              simp
            · rw [e4]
              exact .nan (nan_nanOf k) (nan_cut _ _ _ _)
          rcases hno g hg with ⟨rfl, rfl⟩ | ⟨e3, e4⟩
          · cases hf : f c1 c2 with
            | none => exact both hf hf
            | some z =>
              have hr := hs1 z hf
              rw [hf] at hk
              refine wp_of_run (w' := w) (v' := .float k z) ?_ (hk _ _ _ (.one (.leaf (.flat rfl))) (Next.refl hR))
              rw [Sem.run_bind] at hr
              simp only [execOp, ho, Sem.run_bind, hr]
              simp
          · exact both (by rw [hfg, e3]; rfl) (by rw [hfg, e4]; rfl)
        rw [e1, e2] at cmp ari
        have nn : ∀ d e : Ieee.Datum, d.isNaN = true ∨ e.isNaN = true → d.sum e = none ∧ d.product e = none ∧ ∀ m, Ieee.Datum.quotient m d e = none := by
          intro d e h
          rcases h with h | h <;> obtain ⟨s, t, rfl⟩ := isNaN_eq h
          · exact ⟨rfl, rfl, fun _ => rfl⟩
          · cases d <;> exact ⟨rfl, rfl, fun _ => rfl⟩
        cases op <;> simp only [fltOp, reduceCtorEq] at hu' <;> first
          | (cases hu'; done)
          | (injection hu' with hu'
             subst hu'
             refine cmp rfl ?_
             simp [eqGuard, binOp, Op.floatCmp, ho1]
             done)
          | skip
        · injection hu' with hu'
          exact ari k.format.add _ (fun _ _ => rfl) (fun d e h => (nn d e h).1) hu'.symm (fun z hz => by simp [eqGuard, binOp, Op.floatArith, hz]) (fun hz => by simp [eqGuard, binOp, Op.floatArith, hz, choose, Sem.run, Question.forced])
        · injection hu' with hu'
          refine ari k.format.sub (fun d e => d.sum e.opposite) (fun _ _ => rfl) (fun d e h => (nn d e.opposite ?_).1) hu'.symm (fun z hz => by simp [eqGuard, binOp, Op.floatArith, hz]) (fun hz => by simp [eqGuard, binOp, Op.floatArith, hz, choose, Sem.run, Question.forced])
          exact h.imp id opp_nan
        · injection hu' with hu'
          exact ari k.format.mul _ (fun _ _ => rfl) (fun d e h => (nn d e h).2.1) hu'.symm (fun z hz => by simp [eqGuard, binOp, Op.floatArith, hz]) (fun hz => by simp [eqGuard, binOp, Op.floatArith, hz, choose, Sem.run, Question.forced])
        · injection hu' with hu'
          exact ari k.format.div (fun d e => d.quotient (k.format.fractionBits + 2) e) (fun _ _ => rfl) (fun d e h => (nn d e h).2.2 _) hu'.symm (fun z hz => by simp [eqGuard, binOp, Op.floatArith, hz]) (fun hz => by simp [eqGuard, binOp, Op.floatArith, hz, choose, Sem.run, Question.forced])
      · cases hu'
    | _ => rw [hv1, hv2] at hu'; simp [abin] at hu'
  | string s =>
    cases hv2 : ev T y' with
    | string s' =>
      rw [hv1] at hu' h1
      rw [hv2] at hu' h2
      have e1 := h1.string
      have e2 := h2.string
      rw [e1, e2] at fin
      simp only [abin] at hu'
      cases op <;> simp only [strOp, reduceCtorEq] at hu' <;> first
        | (cases hu'; done)
        | (split at hu'
           · rename_i hz
             injection hu' with hu'
             subst hu'
             have hz' : ¬ (9223372036854775807 < (s.size : Int) + (s'.size : Int)) := by omega
             exact fin _ rfl rfl (by simp [eqGuard, binOp, Op.stringOp, hz', IntKind.max, IntKind.signed, IntKind.bits])
           · cases hu')
        | (injection hu' with hu'
           subst hu'
           exact fin _ rfl rfl (by simp [eqGuard, binOp, Op.stringOp]))
    | _ => rw [hv1, hv2] at hu'; simp [abin] at hu'
  | _ => rw [hv1] at hu'; simp [abin] at hu'
theorem s_binB {op : BinOp} {neg : Bool} {t yt : TypeId} {x y : Operand} {x' y' : XArg} (hop : op = if neg then .neq else .eql) (ho : o.op = .binOp op t x y yt) (hu : P.underlying t = some .bool) (hx : carg n x = some x') (hy : carg n y = some y')
    (hT : TRel ρ n T a) (hR : Rel ρ H w) (hs : step T H (.binB neg x' y') = some (v, H')) : Sound P o a w K Q ρ H v H' := by
  intro hk
  have h1 := ev_sound hx hT
  have h2 := ev_sound hy hT
  simp only [step] at hs
  split at hs
  · rename_i b b' he1 he2
    simp only [Option.some.injEq, Prod.mk.injEq] at hs
    obtain ⟨rfl, rfl⟩ := hs
    rw [he1] at h1
    rw [he2] at h2
    have e1 := h1.bool
    have e2 := h2.bool
    refine wp_of_run (w' := w) ?_ (hk _ _ _ (.one (.leaf (.flat rfl))) (Next.refl hR))
    subst hop
    have he := run_equal_bool (w := w) hu b b'
    cases neg <;> simp [execOp, ho, e1, e2, eqGuard, binOp, he]
  · cases hs
theorem flat_rep (z : List Value) (l : Nat) : ∀ j, j < l * z.length → ((List.replicate l z).flatten)[j]? = z[j % z.length]? := by
  induction l with
  | zero => intro j hj; omega
  | succ l ih =>
    intro j hj
    rw [List.replicate_succ, List.flatten_cons]
    rcases Nat.lt_or_ge j z.length with h | h
    · rw [List.getElem?_append_left h, Nat.mod_eq_of_lt h]
    · rw [List.getElem?_append_right h, ih _ (by rw [Nat.succ_mul] at hj; omega)]
      congr 1
      rw [Nat.mod_eq_sub_mod h]
theorem flat_rep_len (z : List Value) (l : Nat) : ((List.replicate l z).flatten).length = l * z.length := by
  induction l with
  | zero => simp
  | succ l ih => rw [List.replicate_succ, List.flatten_cons, List.length_append, ih, Nat.succ_mul]; omega
theorem s_mks {t e : TypeId} {l c : Operand} {i : TypeInfo} {z : Value} {l' c' : XArg} (ho : o.op = .makeSlice t l c) (hu : P.underlying t = some (.slice e)) (hi : P.info? e = some i) (hz : i.zero = some z) (hzs : z.cells.size = i.size) (hs0 : 0 < i.size) (hb0 : 0 < i.bytes) (hfl : ∀ x ∈ z.cells.toList, flatB x = true)
    (hl : carg n l = some l') (hc : carg n c = some c') (hT : TRel ρ n T a) (hR : Rel ρ H w) (hs : step T H (.mks i.size i.bytes z.cells.toList l' c') = some (v, H')) : Sound P o a w K Q ρ H v H' := by
  intro hk
  have h1 := ev_sound hl hT
  have h2 := ev_sound hc hT
  simp only [step] at hs
  split at hs
  · rename_i x y he1 he2
    split at hs
    · rename_i hcond
      obtain ⟨hx0, hxy, hy63, hby⟩ := hcond
      simp only [Option.some.injEq, Prod.mk.injEq] at hs
      obtain ⟨rfl, rfl⟩ := hs
      rw [he1] at h1
      rw [he2] at h2
      have e1 := h1.int
      have e2 := h2.int
      obtain ⟨m, rfl⟩ : ∃ m : Nat, x = m := ⟨x.toNat, by omega⟩
      obtain ⟨k, rfl⟩ : ∃ k : Nat, y = k := ⟨y.toNat, by omega⟩
      have wm : IntKind.i64.wrap (m : Int) = m := wrap_nat (by omega)
      have wk : IntKind.i64.wrap (k : Int) = k := wrap_nat (by omega)
      have hbm : (i.bytes : Int) * (m : Int) ≤ (i.bytes : Int) * (k : Int) := Int.mul_le_mul_of_nonneg_left hxy (by omega)
      have hbk : k * i.bytes ≤ 140737488355328 := by
        have h6 : ((i.bytes * k : Nat) : Int) ≤ 140737488355328 := by rw [Int.natCast_mul]; exact hby
        rw [Nat.mul_comm]
        omega
      let arr : Array Value := (Array.range (k * i.size)).map ((if k * i.size = 0 then #[] else z.cells)[· % (if k * i.size = 0 then #[] else z.cells).size]!)
      have hrun : (Instr.makeSlice t (.int .i64 m) (.int .i64 k)).run P w = .ok (.slice (some ⟨w.heap.size, 0, none⟩) m k) (w.alloc (.cells arr e)) := by
        have hn1 : ¬ (281474976710656 < (i.bytes : Int) * (k : Int)) := by omega
        have hn2 : ¬ (k : Int) < 0 := by omega
        have hn3 : ¬ (m : Int) < 0 := by omega
        have hn4 : ¬ (k : Int) < (m : Int) := by omega
        by_cases h0 : k * i.size = 0
        · simp [Instr.makeSlice, run_underlying hu, asInt, asIntOf, typeInfo, hi, wm, wk, hn1, hn4, askRoom, sizeOf, h0, newRow, arr]
          exact fun h => by omega
        · simp [Instr.makeSlice, run_underlying hu, asInt, asIntOf, typeInfo, hi, wm, wk, hn1, hn4, askRoom, sizeOf, h0, zeroValue, hz, newRow, arr]
          exact fun h => by omega
      have hlen : ((List.replicate m z.cells.toList).flatten).length = m * i.size := by rw [flat_rep_len]; simp [hzs]
      have hmk : m * i.size ≤ k * i.size := Nat.mul_le_mul_right _ (by omega)
      have hN := next_push hR ((List.replicate m z.cells.toList).flatten) arr e (by rw [hlen]; simp [arr]; exact hmk) (fun j c hj => by
        have hjl := (List.getElem?_eq_some_iff.1 hj).1
        rw [hlen] at hjl
        rw [flat_rep _ _ _ (by simpa [hzs] using hjl)] at hj
        refine ⟨c, ?_, .flat (hfl c (List.mem_of_getElem? hj))⟩
        have h0 : ¬ k * i.size = 0 := by omega
        have hlt : j % z.cells.size < z.cells.size := Nat.mod_lt _ (by omega)
        simp only [arr, h0, if_false]
        rw [Array.getElem?_map]
        have hjr : j < k * i.size := by omega
        simp only [Array.getElem?_range, hjr, if_true, Option.map_some]
        simp only [Array.length_toList, Array.getElem?_toList] at hj
        rw [getElem!_pos z.cells _ hlt]
        rw [Array.getElem?_eq_getElem hlt] at hj
        exact hj)
      refine wp_of_run (w' := w.alloc (.cells arr e)) (v' := .slice (some ⟨w.heap.size, 0, none⟩) m k) ?_ (hk _ _ _ ?_ hN)
      · simp [execOp, ho, e1, e2, hrun]
      · have := VL.slc (o := 0) (n := m) (c := k) (sz := i.size) (Map.at_self ρ H.nxt (⟨w.heap.size, 0, none⟩, arr.size)) (by omega) (by simp [arr])
        exact .one (.leaf (by simpa [Addr.add] using this))
    · cases hs
  · cases hs
/-! ### Cuts -/
theorem bound_sound {x : Operand} {y : XArg} {c c' i : Nat} (hx : carg n x = some y) (hT : TRel ρ n T a) (hb : bound T y c = some i) (hc : c ≤ c') (code : BoundsCode) : (Instr.sliceBound (a.eval x) c' code).run P w = .ok i w ∧ i ≤ c := by
  have h1 := ev_sound hx hT
  simp only [bound] at hb
  split at hb
  · rename_i k j he
    split at hb
    · rename_i hj
      injection hb with hb
      subst hb
      rw [he] at h1
      have e := h1.int
      have h3 : j ≤ (c' : Int) := by omega
      exact ⟨by simp [Instr.sliceBound, e, asIntOf, hj.1, h3], by omega⟩
    · cases hb
  · cases hb
theorem bounds_sound {lo hi mx : Option Operand} {lo' hi' mx' : Option XArg} {len c cap l h m : Nat} (isS : Bool) (hl : copt n lo = some lo') (hh : copt n hi = some hi') (hm : copt n mx = some mx') (hT : TRel ρ n T a) (hc : c ≤ cap) (hlc : len ≤ c)
    (hb : bounds T len c lo' hi' mx' = some (l, h, m)) : ∃ m', (Instr.sliceBounds isS len cap (lo.map a.eval) (hi.map a.eval) (mx.map a.eval)).run P w = .ok (l, h, m') w ∧ l ≤ h ∧ h ≤ c ∧ h ≤ m' ∧ m' ≤ cap := by
  simp only [bounds, Option.bind_eq_some_iff] at hb
  obtain ⟨m0, hb1, h0, hb2, l0, hb3, hb4⟩ := hb
  simp only [Option.some.injEq, Prod.mk.injEq] at hb4
  obtain ⟨rfl, rfl, rfl⟩ := hb4
  -- the three, each given or not
  cases mx with
  | none =>
    simp only [copt, Option.some.injEq] at hm
    subst hm
    simp only [Option.some.injEq] at hb1
    subst hb1
    cases hi with
    | none =>
      simp only [copt, Option.some.injEq] at hh
      subst hh
      simp only [Option.some.injEq] at hb2
      subst hb2
      cases lo with
      | none =>
        simp only [copt, Option.some.injEq] at hl
        subst hl
        simp only [Option.some.injEq] at hb3
        subst hb3
        exact ⟨cap, by simp [Instr.sliceBounds], by omega, by omega, by omega, by omega⟩
      | some x =>
        simp only [copt, Option.map_eq_some_iff] at hl
        obtain ⟨y, hy, rfl⟩ := hl
        obtain ⟨h5, h6⟩ := bound_sound (P := P) (w := w) hy hT hb3 (Nat.le_refl _) .sliceB
        exact ⟨cap, by simp [Instr.sliceBounds, h5], h6, by omega, by omega, by omega⟩
    | some z =>
      simp only [copt, Option.map_eq_some_iff] at hh
      obtain ⟨z', hz, rfl⟩ := hh
      have hb2' : bound T z' c = some h0 := hb2
      obtain ⟨h7, h8⟩ := bound_sound (P := P) (w := w) hz hT hb2' hc (if isS then .sliceAcap else .sliceAlen)
      cases lo with
      | none =>
        simp only [copt, Option.some.injEq] at hl
        subst hl
        simp only [Option.some.injEq] at hb3
        subst hb3
        exact ⟨cap, by simp [Instr.sliceBounds, h7], by omega, by omega, by omega, by omega⟩
      | some x =>
        simp only [copt, Option.map_eq_some_iff] at hl
        obtain ⟨y, hy, rfl⟩ := hl
        obtain ⟨h5, h6⟩ := bound_sound (P := P) (w := w) hy hT hb3 (Nat.le_refl _) .sliceB
        exact ⟨cap, by simp [Instr.sliceBounds, h5, h7], h6, by omega, by omega, by omega⟩
  | some u =>
    simp only [copt, Option.map_eq_some_iff] at hm
    obtain ⟨u', hu, rfl⟩ := hm
    have hb1' : bound T u' c = some m0 := hb1
    obtain ⟨h9, h10⟩ := bound_sound (P := P) (w := w) hu hT hb1' hc (if isS then .slice3Acap else .slice3Alen)
    cases hi with
    | none =>
      simp only [copt, Option.some.injEq] at hh
      subst hh
      cases hb2
    | some z =>
      simp only [copt, Option.map_eq_some_iff] at hh
      obtain ⟨z', hz, rfl⟩ := hh
      have hb2' : bound T z' m0 = some h0 := hb2
      obtain ⟨h7, h8⟩ := bound_sound (P := P) (w := w) hz hT hb2' (Nat.le_refl _) .slice3B
      cases lo with
      | none =>
        simp only [copt, Option.some.injEq] at hl
        subst hl
        simp only [Option.some.injEq] at hb3
        subst hb3
        exact ⟨m0, by simp [Instr.sliceBounds, h7, h9], by omega, by omega, by omega, by omega⟩
      | some x =>
        simp only [copt, Option.map_eq_some_iff] at hl
        obtain ⟨y, hy, rfl⟩ := hl
        obtain ⟨h5, h6⟩ := bound_sound (P := P) (w := w) hy hT hb3 (Nat.le_refl _) .slice3C
        exact ⟨m0, by simp [Instr.sliceBounds, h5, h7, h9], h6, by omega, by omega, by omega⟩
theorem s_slc {t e : TypeId} {x : Operand} {lo hi mx : Option Operand} {x' : XArg} {lo' hi' mx' : Option XArg} {m : Nat} (ho : o.op = .slice t x lo hi mx) (hu : P.underlying t = some (.slice e)) (hm : csize P e = some m) (hx : carg n x = some x') (hl : copt n lo = some lo') (hh : copt n hi = some hi') (hmx : copt n mx = some mx')
    (hT : TRel ρ n T a) (hR : Rel ρ H w) (hs : step T H (.slc m x' lo' hi' mx') = some (v, H')) : Sound P o a w K Q ρ H v H' := by
  intro hk
  have h1 := ev_sound hx hT
  simp only [csize, Option.map_eq_some_iff] at hm
  obtain ⟨ti, hti, rfl⟩ := hm
  have run : ∀ (ad : Option Addr) (len cap l h m : Nat), a.eval x = .slice ad len cap → (Instr.sliceBounds true len cap (lo.map a.eval) (hi.map a.eval) (mx.map a.eval)).run P w = .ok (l, h, m) w →
      (execOp a.eval o).run P w = .ok (.value (.slice (if m = l then ad else ad.map (·.add (l * ti.size))) (h - l) (m - l))) w := by
    intro ad len cap l h m e1 e2
    simp [execOp, ho, e1, Instr.sliceAt, Instr.slice, run_underlying hu, e2, sizeOf, typeInfo, hti]
  simp only [step] at hs
  split at hs
  · rename_i i off k sz' he
    split at hs
    · rename_i hsz
      subst hsz
      simp only [Option.map_eq_some_iff, Prod.mk.injEq] at hs
      obtain ⟨⟨l, h, m⟩, hb, rfl, rfl⟩ := hs
      rw [he] at h1
      rcases h1.slice with ⟨b, L, c, hr, hkc, hL, hp⟩ | ⟨h0, ⟨ad, hp⟩, ⟨bx, hbx⟩⟩
      · obtain ⟨m', hrun, h2, h3, h4, h5⟩ := bounds_sound (P := P) (w := w) (cap := c) true hl hh hmx hT hkc (Nat.le_refl _) hb
        refine wp_of_run (run _ _ _ _ _ _ hp hrun) (hk _ _ _ ?_ (Next.refl hR))
        by_cases hml : m' = l
        · subst hml
          rw [if_pos rfl]
          have e1 : h - m' = 0 := by omega
          rw [e1, Nat.sub_self]
          exact .one (.leaf (.slc0 hr))
        · rw [if_neg hml]
          refine .one (.leaf ?_)
          simp only [Option.map_some, add_add]
          refine .slc hr (by omega) ?_
          have : off + l * ti.size + (m' - l) * ti.size ≤ off + c * ti.size := by
            have h6 : l * ti.size + (m' - l) * ti.size = m' * ti.size := by rw [← Nat.add_mul]; congr 1; omega
            have h7 : m' * ti.size ≤ c * ti.size := Nat.mul_le_mul_right _ h5
            omega
          omega
      · subst h0
        obtain ⟨m', hrun, h2, h3, h4, h5⟩ := bounds_sound (P := P) (w := w) (cap := 0) true hl hh hmx hT (Nat.le_refl _) (Nat.le_refl _) hb
        refine wp_of_run (run _ _ _ _ _ _ hp hrun) (hk _ _ _ ?_ (Next.refl hR))
        obtain rfl : m' = 0 := by omega
        obtain rfl : h = 0 := by omega
        obtain rfl : l = 0 := by omega
        exact .one (.leaf (.slc0 (b := bx.1) (L := bx.2) hbx))
    · cases hs
  · rename_i he
    simp only [Option.map_eq_some_iff, Prod.mk.injEq] at hs
    obtain ⟨⟨l, h, m⟩, hb, rfl, rfl⟩ := hs
    rw [he] at h1
    have hp := h1.nilslice
    obtain ⟨m', hrun, h2, h3, h4, h5⟩ := bounds_sound (P := P) (w := w) (cap := 0) true hl hh hmx hT (Nat.le_refl _) (Nat.le_refl _) hb
    refine wp_of_run (run _ _ _ _ _ _ hp hrun) (hk _ _ _ ?_ (Next.refl hR))
    obtain rfl : m' = 0 := by omega
    obtain rfl : h = 0 := by omega
    obtain rfl : l = 0 := by omega
    exact .one (.leaf (.flat rfl))
  · cases hs
theorem s_sstr {t : TypeId} {x : Operand} {lo hi : Option Operand} {x' : XArg} {lo' hi' : Option XArg} (ho : o.op = .slice t x lo hi none) (hu : P.underlying t = some .string) (hx : carg n x = some x') (hl : copt n lo = some lo') (hh : copt n hi = some hi')
    (hT : TRel ρ n T a) (hR : Rel ρ H w) (hs : step T H (.sstr x' lo' hi') = some (v, H')) : Sound P o a w K Q ρ H v H' := by
  intro hk
  have h1 := ev_sound hx hT
  simp only [step] at hs
  split at hs
  · rename_i s he
    simp only [Option.map_eq_some_iff, Prod.mk.injEq] at hs
    obtain ⟨⟨l, h, m⟩, hb, rfl, rfl⟩ := hs
    rw [he] at h1
    have hp := h1.string
    obtain ⟨m', hrun, h2, h3, h4, h5⟩ := bounds_sound (P := P) (w := w) (mx := none) (cap := s.size) false hl hh rfl hT (Nat.le_refl _) (Nat.le_refl _) hb
    refine wp_of_run (w' := w) (v' := .string (s.extract l h)) ?_ (hk _ _ _ (.one (.leaf (.flat rfl))) (Next.refl hR))
    simp only [Option.map_none] at hrun
    simp [execOp, ho, hp, Instr.sliceAt, Instr.slice, run_underlying hu, hrun]
  · cases hs
theorem s_mm {mx : Bool} {x y : Operand} {ats : Array TypeId} {x' y' : XArg} (ho : o.op = .call { callee := .builtin (if mx then .max else .min), args := #[x, y], argTypes := ats }) (hx : carg n x = some x') (hy : carg n y = some y')
    (hT : TRel ρ n T a) (hR : Rel ρ H w) (hs : step T H (.mm mx x' y') = some (v, H')) : Sound P o a w K Q ρ H v H' := by
  intro hk
  have h1 := ev_sound hx hT
  have h2 := ev_sound hy hT
  simp only [step] at hs
  split at hs
  · rename_i k i k' j he1 he2
    split at hs
    · rename_i hkk
      subst hkk
      simp only [Option.some.injEq, Prod.mk.injEq] at hs
      obtain ⟨rfl, rfl⟩ := hs
      rw [he1] at h1
      rw [he2] at h2
      have e1 := h1.int
      have e2 := h2.int
      refine wp_of_run (w' := w) ?_ (hk _ _ _ (.one (.leaf (.flat rfl))) (Next.refl hR))
      cases mx <;> simp [execOp, ho, e1, e2, resolve, invoke, builtin, Builtin.max_, Builtin.min_, Builtin.max2, Builtin.min2]
    · cases hs
  · cases hs
end
end Go.Proofs.Ytkadelndmaegdaa.AX
