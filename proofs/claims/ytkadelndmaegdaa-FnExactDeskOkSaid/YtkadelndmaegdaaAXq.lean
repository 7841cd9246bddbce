/- The executor is sound: code, functions, calls. No condition beyond each law's own; nothing of the program. -/
import Derived.Test.YtkadelndmaegdaaAXp
import Derived.LoopN
namespace Go.Proofs.Ytkadelndmaegdaa.AX
open Go

def toExit : XE → Exit
  | .nrm => .normal
  | .ex i => .exit i
  | .rt => .ret
def Qx (n : Nat) (ρ : Map) (H : Heap) (w : World) (K : XE → Tm → Heap → Prop) (e : Exit) (a : Act) (w' : World) : Prop :=
  ∃ xe T' H' ρ', e = toExit xe ∧ K xe T' H' ∧ TRel ρ' n T' a ∧ Next ρ H w ρ' H' w'
section
variable {P : Program} {C : CallRel} {n : Nat}
theorem Qx.later {ρ ρ1 : Map} {H H1 : Heap} {w w1 : World} {K : XE → Tm → Heap → Prop} (hN : Next ρ H w ρ1 H1 w1) {e : Exit} {a : Act} {w' : World} (h : Qx n ρ1 H1 w1 K e a w') : Qx n ρ H w K e a w' := by
  obtain ⟨xe, T', H', ρ', h1, h2, h3, h4⟩ := h
  exact ⟨xe, T', H', ρ', h1, h2, h3, hN.trans h4⟩
theorem dead_W {K : XE → Tm → Heap → Prop} {T : Tm} {H : Heap} (h : W C (.loop .skip) K T H) : False := by
  obtain ⟨m, h⟩ := h
  induction m with
  | zero => exact h
  | succ m ih => exact ih h
theorem code_sound (hmo : P.follows .mixedOrders = true) (hC : CallSound P C) : ∀ (c : Code) (x : X), ccode P n c = some x → ∀ (K : XE → Tm → Heap → Prop) (T : Tm) (H : Heap) (ρ : Map) (a : Act) (w : World), TRel ρ n T a → Rel ρ H w → W C x K T H → c.wp P (Qx n ρ H w K) a w := by
  intro c
  induction c with
  | skip =>
    intro x hx K T H ρ a w hT hR h
    simp only [ccode, Option.some.injEq] at hx
    subst hx
    exact wp_skip ⟨.nrm, T, H, ρ, rfl, h, hT, Next.refl hR⟩
  | region id ops draw =>
    intro x hx K T H ρ a w hT hR h
    cases draw with
    | false =>
      simp only [ccode] at hx
      split at hx
      case h_2 =>
        injection hx with hx
        subst hx
        exact (dead_W h).elim
      rename_i os hos
      injection hx with hx
      subst hx
      exact wp_region_list (reg_sound hC ops.toList os a w ρ T H (K .nrm) hos hT hR h (fun T' H' ρ' a' w' h1 h2 h3 => ⟨.nrm, T', H', ρ', rfl, h1, h2, h3⟩))
    | true =>
      simp only [ccode] at hx
      split at hx
      case h_2 =>
        injection hx with hx
        subst hx
        exact (dead_W h).elim
      rename_i os hos
      split at hx
      · rename_i hd
        simp only [Option.some.injEq] at hx
        subst hx
        exact dreg_sound hmo hC hos hd hT hR h (fun T' H' ρ' a' w' h1 h2 h3 => ⟨.nrm, T', H', ρ', rfl, h1, h2, h3⟩)
      · injection hx with hx
        subst hx
        exact (dead_W h).elim
  | seq c1 c2 ih1 ih2 =>
    intro x hx K T H ρ a w hT hR h
    simp only [ccode] at hx
    split at hx
    · rename_i x1 x2 h1 h2
      simp only [Option.some.injEq] at hx
      subst hx
      refine wp_seq (wp_mono (ih1 x1 h1 _ T H ρ a w hT hR h) ?_)
      rintro e a' w' ⟨xe, T', H', ρ', rfl, h3, h4, h5⟩
      cases xe with
      | nrm => exact wp_mono (ih2 x2 h2 K T' H' ρ' a' w' h4 h5.rel h3) (fun e a w hq => hq.later h5)
      | ex i => exact ⟨.ex i, T', H', ρ', rfl, h3, h4, h5⟩
      | rt => exact ⟨.rt, T', H', ρ', rfl, h3, h4, h5⟩
    · cases hx
  | cond y c1 c2 ih1 ih2 =>
    intro x hx K T H ρ a w hT hR h
    simp only [ccode] at hx
    split at hx
    · rename_i z x1 x2 h0 h1 h2
      simp only [Option.some.injEq] at hx
      subst hx
      have hv := ev_sound h0 hT
      simp only [W, bcond] at h
      split at h
      · rename_i b hb
        rw [hb] at hv
        refine wp_cond hv.bool ?_
        cases b with
        | true => exact ih1 x1 h1 K T H ρ a w hT hR (by simpa using h)
        | false => exact ih2 x2 h2 K T H ρ a w hT hR (by simpa using h)
      · exact h.elim
    · cases hx
  | block id c ih =>
    intro x hx K T H ρ a w hT hR h
    simp only [ccode, Option.map_eq_some_iff] at hx
    obtain ⟨x1, h1, rfl⟩ := hx
    refine wp_block (wp_mono (ih x1 h1 _ T H ρ a w hT hR h) ?_)
    rintro e a' w' ⟨xe, T', H', ρ', rfl, h3, h4, h5⟩
    cases xe with
    | nrm => exact ⟨.nrm, T', H', ρ', rfl, h3, h4, h5⟩
    | ex i =>
      simp only [toExit, Exit.inBlock]
      simp only [inBlock] at h3
      split
      · rename_i he
        rw [if_pos he] at h3
        exact ⟨.nrm, T', H', ρ', rfl, h3, h4, h5⟩
      · rename_i he
        rw [if_neg he] at h3
        exact ⟨.ex i, T', H', ρ', rfl, h3, h4, h5⟩
    | rt => exact ⟨.rt, T', H', ρ', rfl, h3, h4, h5⟩
  | loop c ih =>
    intro x hx K T H ρ a w hT hR h
    simp only [ccode, Option.map_eq_some_iff] at hx
    obtain ⟨x1, h1, rfl⟩ := hx
    obtain ⟨m, h⟩ := h
    refine wp_loop_rounds m ?_
    have key : ∀ (m : Nat) (T1 : Tm) (H1 : Heap) (ρ1 : Map) (a1 : Act) (w1 : World), TRel ρ1 n T1 a1 → Next ρ H w ρ1 H1 w1 → lp (W C x1) K m T1 H1 → Code.rounds P c (Qx n ρ H w K) m a1 w1 := by
      intro m
      induction m with
      | zero => intro T1 H1 ρ1 a1 w1 _ _ h; exact h.elim
      | succ m ihm =>
        intro T1 H1 ρ1 a1 w1 hT1 hN1 h
        refine wp_mono (ih x1 h1 _ T1 H1 ρ1 a1 w1 hT1 hN1.rel h) ?_
        rintro e a' w' ⟨xe, T', H', ρ', rfl, h3, h4, h5⟩
        cases xe with
        | nrm => exact ihm T' H' ρ' a' w' h4 (hN1.trans h5) h3
        | ex i => exact ⟨.ex i, T', H', ρ', rfl, h3, h4, hN1.trans h5⟩
        | rt => exact ⟨.rt, T', H', ρ', rfl, h3, h4, hN1.trans h5⟩
    exact key m T H ρ a w hT (Next.refl hR) h
  | exit id =>
    intro x hx K T H ρ a w hT hR h
    simp only [ccode, Option.some.injEq] at hx
    subst hx
    exact wp_exit ⟨.ex id, T, H, ρ, rfl, h, hT, Next.refl hR⟩
  | ret =>
    intro x hx K T H ρ a w hT hR h
    simp only [ccode, Option.some.injEq] at hx
    subst hx
    exact wp_ret ⟨.rt, T, H, ρ, rfl, h, hT, Next.refl hR⟩
  | _ =>
    intro x hx
    simp [ccode] at hx
/-! ### What a function returns -/
def resRun (r : ResultVar) (tmps : Array Value) : Sem Value :=
  match r with
  | .tmp t => pure (tmps.getD t undef)
  | .cell a t => do loadVar t (← asAddr (tmps.getD a undef))
theorem res1_sound {ρ : Map} {T : Tm} {H : Heap} {a : Act} {w : World} (hT : TRel ρ n T a) (hR : Rel ρ H w) {r : ResultVar} {x : XRes} (hr : cres P n r = some x) {v : Value} (h : res1 T H x = some v) :
    ∃ v', (resRun r a.tmps).run P w = .ok v' w ∧ VA ρ v v' := by
  cases r with
  | tmp t =>
    simp only [cres] at hr
    split at hr
    · rename_i ht
      injection hr with hr; subst hr
      simp only [res1] at h
      split at h
      · rename_i hn
        injection h with h; subst h
        exact ⟨_, rfl, (hT.val t ht).noTup_ hn⟩
      · cases h
    · cases hr
  | cell t ty =>
    simp only [cres] at hr
    split at hr
    · rename_i ht
      have h1 := hT.val t ht
      split at hr
      · rename_i ha
        simp only [Option.map_eq_some_iff] at hr
        obtain ⟨m, hm, rfl⟩ := hr
        simp only [res1, Option.map_eq_some_iff] at h
        obtain ⟨⟨v0, H0⟩, hs, rfl⟩ := h
        simp only [step, ev] at hs
        split at hs
        · rename_i i off he
          split at hs
          · rename_i ob hi
            split at hs
            · rename_i hl
              simp only [Option.some.injEq, Prod.mk.injEq] at hs
              obtain ⟨rfl, rfl⟩ := hs
              rw [he] at h1
              obtain ⟨b, L, hr, hp⟩ := h1.ptr
              obtain ⟨cs, h2, h3, h4⟩ := seg_of hR hi hr off m hl
              simp only [csize, Option.map_eq_some_iff] at hm
              obtain ⟨ti, hti, rfl⟩ := hm
              have hlc := run_loadCells_list (P := P) w (b.add off) cs h4
              rw [h2] at hlc
              refine ⟨.agg cs.toArray, ?_, .agg (by simpa using h3)⟩
              simp [resRun, hp, asAddr, loadVar, run_isAgg_true ha, sizeOf, typeInfo, hti, hlc]
            · cases hs
          · cases hs
        · cases hs
      · rename_i ha
        injection hr with hr; subst hr
        simp only [res1, Option.map_eq_some_iff] at h
        obtain ⟨⟨v0, H0⟩, hs, rfl⟩ := h
        simp only [step, ev] at hs
        split at hs
        · rename_i i off he
          split at hs
          · rename_i ob hi
            split at hs
            · rename_i u hu
              simp only [Option.some.injEq, Prod.mk.injEq] at hs
              obtain ⟨rfl, rfl⟩ := hs
              rw [he] at h1
              obtain ⟨b, L, hr, hp⟩ := h1.ptr
              obtain ⟨c', h2, h3⟩ := cells_of hR hi hr off u hu
              simp only [cagg] at ha
              have hagg : (isAgg ty).run P w = .ok false w := by
                cases hu' : P.underlying ty with
                | none => simp [hu'] at ha
                | some d =>
                  rw [hu'] at ha
                  cases d <;> simp at ha <;> simp [isAgg, run_underlying hu']
              refine ⟨c', ?_, .leaf h3⟩
              simp [resRun, hp, asAddr, loadVar, hagg, run_load, h2]
            · cases hs
          · cases hs
        · cases hs
      · cases hr
    · cases hr
theorem resAll_sound {ρ : Map} {T : Tm} {H : Heap} {a : Act} {w : World} (hT : TRel ρ n T a) (hR : Rel ρ H w) : ∀ (rs : List ResultVar) (xs : List XRes), rs.mapM (cres P n) = some xs → ∀ vs, resAll T H xs = some vs →
    ∃ vs' : List Value, (rs.mapM (fun r => resRun r a.tmps)).run P w = .ok vs' w ∧ All2 (VA ρ) vs vs'
  | [], xs, hx, vs, h => by
    simp at hx
    subst hx
    simp [resAll] at h
    subst h
    exact ⟨[], rfl, .nil⟩
  | r :: rs, xs, hx, vs, h => by
    simp only [List.mapM_cons, Option.bind_eq_bind, Option.bind_eq_some_iff, Option.pure_def, Option.some.injEq] at hx
    obtain ⟨x, hx1, xs', hx2, rfl⟩ := hx
    simp only [resAll] at h
    split at h
    · rename_i v vs1 h1 h2
      injection h with h; subst h
      obtain ⟨v', h3, h4⟩ := res1_sound hT hR hx1 h1
      obtain ⟨vs', h5, h6⟩ := resAll_sound hT hR rs xs' hx2 vs1 h2
      refine ⟨v' :: vs', ?_, .cons h4 h6⟩
      simp [List.mapM_cons, h3, h5]
    · cases h
theorem one_vr {ρ : Map} {vs vs' : List Value} (h : All2 (VA ρ) vs vs') : VR ρ (one_ vs) (if h : vs'.toArray.size = 1 then vs'.toArray[0] else .tuple vs'.toArray) := by
  cases h with
  | nil => exact .tup (by simpa using All2.nil)
  | cons h1 h2 =>
    cases h2 with
    | nil => exact .one h1
    | cons h2 h3 =>
      rw [dif_neg (by simp)]
      exact .tup (by simpa using All2.cons h1 (All2.cons h2 h3))
theorem start_rel {ρ : Map} {args : List Value} {args' : Array Value} {m : Nat} (h : All2 (VR ρ) args args'.toList) (hle : args.length ≤ m) : TRel ρ m (T0 args) { tmps := args' ++ Array.replicate (m - args'.size) undef, defers := [] } := by
  have hl : args.length = args'.size := by simpa using h.length
  refine ⟨by simp; omega, fun t ht => ?_, rfl⟩
  simp only [T0, List.getD_eq_getElem?_getD, Array.getD_eq_getD_getElem?, Array.getElem?_append]
  by_cases hlt : t < args.length
  · have h1 : args[t]? = some args[t] := List.getElem?_eq_getElem hlt
    obtain ⟨b, h2, h3⟩ := h.get t _ h1
    rw [if_pos (by omega), h1]
    rw [Array.getElem?_toList] at h2
    rw [h2]
    exact h3
  · rw [if_neg (by omega), List.getElem?_eq_none (by omega), Array.getElem?_replicate]
    split <;> exact VR.undef_ _
/-! ### Calls -/
theorem cfun_enter {f : FuncId} {F : XFun} (hF : cfun P f = some F) : Enterable P f := by
  unfold cfun at hF
  split at hF
  · rename_i fn hfn
    split at hF
    · rename_i c hc
      split at hF
      · split at hF
        · rename_i hps
          exact ⟨fn, hfn, hps.2, by rw [hc]; rfl⟩
        · cases hF
      · cases hF
    · cases hF
  · cases hF
theorem crk_sound (hmo : P.follows .mixedOrders = true) : ∀ k, CallSound P (CRk P k)
  | 0 => fun _ _ _ _ _ h => h.elim
  | k + 1 => by
    intro f args H v H' h
    rcases h with ⟨F, hF, ha, hW⟩ | h
    case inr => exact .inr h
    refine .inl ⟨cfun_enter hF, fun ρ w args' hR hA => ?_⟩
    unfold cfun at hF
    split at hF
    · rename_i fn hfn
      split at hF
      · rename_i c hc
        split at hF
        · rename_i b rs hb hrs
          split at hF
          · rename_i hps
            injection hF with hF
            subst hF
            refine calls_of_wp hfn hc (wp_mono (code_sound hmo (crk_sound hmo k) c b hb _ (T0 args) H ρ _ w (start_rel hA (by simp only at ha; omega)) hR hW) ?_)
            rintro e a' w' ⟨xe, T', H1, ρ', rfl, ⟨h1, rfl, vs, h2, rfl⟩, h4, h5⟩
            obtain ⟨vs', h6, h7⟩ := resAll_sound h4 h5.rel fn.results.toList rs hrs vs h2
            have hres : (results fn a'.tmps).run P w' = .ok (if h : vs'.toArray.size = 1 then vs'.toArray[0] else .tuple vs'.toArray) w' := by
              have e1 : results fn a'.tmps = (do
                  let vs ← fn.results.mapM fun r => resRun r a'.tmps
                  pure (if h : vs.size = 1 then vs[0] else .tuple vs)) := by
                unfold results
                congr 1
              rw [e1, Array.mapM_eq_mapM_toList]
              simp only [bind_assoc, map_eq_pure_bind, pure_bind, Sem.run_bind, h6]
              rfl
            have hpost : a'.defers = [] ∧ ∃ v, (results fn a'.tmps).run P w' = .ok v w' ∧ (fun (e : Ending) w'' => ∃ v' ρ', e = .returned v' ∧ VR ρ' (one_ vs) v' ∧ Next ρ H w ρ' H' w'') (.returned v) w' :=
              ⟨h4.defers, _, hres, _, ρ', rfl, one_vr h7, h5⟩
            cases xe with
            | nrm => exact hpost
            | rt => exact hpost
            | ex i => exact h1.elim
          · cases hF
        · cases hF
      · cases hF
    · cases hF
theorem cr_sound (hmo : P.follows .mixedOrders = true) : CallSound P (CR P) := by
  rintro f args H v H' ⟨k, h⟩
  exact crk_sound hmo k f args H v H' h
end
end Go.Proofs.Ytkadelndmaegdaa.AX
