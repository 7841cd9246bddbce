/- Each operation of the executor is what the model's operation does: first part, all but calls. No condition beyond each law's own; nothing of the program. -/
import Derived.Test.YtkadelndmaegdaaAXc
namespace Go.Proofs.Ytkadelndmaegdaa.AX
open Go

structure TRel (ρ : Map) (n : Nat) (T : Tm) (a : Act) : Prop where
  size : a.tmps.size = n
  val : ∀ t, t < n → VR ρ (T t) (a.tmps.getD t undef)
  defers : a.defers = []
theorem TRel.le {ρ ρ' : Map} {n : Nat} {T : Tm} {a : Act} (h : TRel ρ n T a) (hl : Map.le ρ ρ') : TRel ρ' n T a := ⟨h.size, fun t ht => (h.val t ht).le hl, h.defers⟩
theorem TRel.put {ρ : Map} {n : Nat} {T : Tm} {a : Act} (h : TRel ρ n T a) {d : Nat} {v v' : Value} (hv : VR ρ v v') : TRel ρ n (upd T d v) (a.put (some d) v') := by
  refine ⟨by simp [Act.put, h.size], fun t ht => ?_, h.defers⟩
  simp only [Act.put, upd]
  by_cases e : t = d
  · subst e
    rw [if_pos rfl]
    simp [Array.getD_eq_getD_getElem?, h.size, ht, hv]
  · rw [if_neg e]
    have := h.val t ht
    simpa [Array.getD_eq_getD_getElem?, Array.getElem?_setIfInBounds_ne (Ne.symm e)] using this
theorem TRel.putO {ρ : Map} {n : Nat} {T : Tm} {a : Act} (h : TRel ρ n T a) {d : Option Nat} {v v' : Value} (hv : VR ρ v v') : TRel ρ n (AX.put T d v) (a.put d v') := by
  cases d with
  | none => exact h
  | some d => exact h.put hv
theorem VR.undef_ (ρ : Map) : VR ρ undef undef := .tup .nil
theorem ev_sound {ρ : Map} {n : Nat} {T : Tm} {a : Act} {x : Operand} {y : XArg} (hc : carg n x = some y) (hT : TRel ρ n T a) : VR ρ (ev T y) (a.eval x) := by
  cases x with
  | tmp t =>
    simp only [carg] at hc
    split at hc
    · rename_i ht
      injection hc with hc; subst hc
      exact hT.val t ht
    · cases hc
  | const v =>
    simp only [carg] at hc
    split at hc
    · rename_i hf
      injection hc with hc; subst hc
      exact .one (.leaf (.flat hf))
    · cases hc
  | global g => cases hc
  | func f =>
    injection hc with hc; subst hc
    exact .one (.leaf (.flat rfl))
theorem wp_of_run {P : Program} {o : Oper} {a : Act} {w w' : World} {K : Act → World → Prop} {Q : Exit → Act → World → Prop} {v' : Value} (h : (execOp a.eval o).run P w = .ok (.value v') w') (hk : K (a.put o.dst v') w') : o.wp P a w K Q := by
  unfold Oper.wp
  rw [h]
  exact hk
theorem wp_of_skip {P : Program} {o : Oper} {a : Act} {w w' : World} {K : Act → World → Prop} {Q : Exit → Act → World → Prop} (h : (execOp a.eval o).run P w = .ok .skip w') (hk : K (a.put o.dst undef) w') : o.wp P a w K Q := by
  unfold Oper.wp
  rw [h]
  exact hk
/-! ### What an abstract value tells of the model's -/
theorem VR.bool {ρ : Map} {b : Bool} {c : Value} (h : VR ρ (.bool b) c) : c = .bool b := by
  cases h with
  | one h => cases h with
    | leaf h => cases h with
      | flat _ => rfl
theorem VR.int {ρ : Map} {k : IntKind} {n : Int} {c : Value} (h : VR ρ (.int k n) c) : c = .int k n := by
  cases h with
  | one h => cases h with
    | leaf h => cases h with
      | flat _ => rfl
theorem VR.string {ρ : Map} {s : ByteArray} {c : Value} (h : VR ρ (.string s) c) : c = .string s := by
  cases h with
  | one h => cases h with
    | leaf h => cases h with
      | flat _ => rfl
theorem VR.float {ρ : Map} {k : FloatKind} {b : Nat} {c : Value} (h : VR ρ (.float k b) c) : ∃ b', c = .float k b' ∧ (b' = b ∨ nanB k b = true ∧ nanB k b' = true) := by
  cases h with
  | one h => cases h with
    | leaf h => cases h with
      | flat _ => exact ⟨b, rfl, .inl rfl⟩
      | nan h1 h2 => exact ⟨_, rfl, .inr ⟨h1, h2⟩⟩
theorem VR.ptr {ρ : Map} {i o : Nat} {c : Value} (h : VR ρ (.pointer (some ⟨i, o, none⟩)) c) : ∃ b L, ρ i = some (b, L) ∧ c = .pointer (some (b.add o)) := by
  cases h with
  | one h => cases h with
    | leaf h => cases h with
      | flat h => cases h
      | ptr h => exact ⟨_, _, h, rfl⟩
theorem VR.nilslice {ρ : Map} {c : Value} (h : VR ρ (.slice none 0 0) c) : c = .slice none 0 0 := by
  cases h with
  | one h => cases h with
    | leaf h => cases h with
      | flat h => rfl
theorem VR.slice {ρ : Map} {i o n sz : Nat} {c : Value} (h : VR ρ (.slice (some ⟨i, o, none⟩) n sz) c) :
    (∃ b L m, ρ i = some (b, L) ∧ n ≤ m ∧ o + m * sz ≤ L ∧ c = .slice (some (b.add o)) n m) ∨ (n = 0 ∧ (∃ a, c = .slice (some a) 0 0) ∧ ∃ x, ρ i = some x) := by
  cases h with
  | one h => cases h with
    | leaf h => cases h with
      | flat h => cases h
      | slc h1 h2 h3 => exact .inl ⟨_, _, _, h1, h2, h3, rfl⟩
      | slc0 h => exact .inr ⟨rfl, ⟨_, rfl⟩, _, h⟩
theorem VR.agg_ {ρ : Map} {xs : Array Value} {c : Value} (h : VR ρ (.agg xs) c) : ∃ ys, c = .agg ys ∧ All2 (VL ρ) xs.toList ys.toList := by
  cases h with
  | one h => cases h with
    | leaf h => cases h with
      | flat h => cases h
    | agg h => exact ⟨_, rfl, h⟩
theorem VR.tuple_ {ρ : Map} {xs : Array Value} {c : Value} (h : VR ρ (.tuple xs) c) : ∃ ys, c = .tuple ys ∧ All2 (VA ρ) xs.toList ys.toList := by
  cases h with
  | one h => cases h with
    | leaf h => cases h with
      | flat h => cases h
  | tup h => exact ⟨_, rfl, h⟩
theorem VL.one_ {ρ : Map} {a c : Value} (h : VL ρ a c) : c.oneCell' = true := by
  cases h with
  | flat h => cases a <;> first | rfl | cases h
  | _ => rfl
theorem VL.oneA {ρ : Map} {a c : Value} (h : VL ρ a c) : oneCell a = true := by
  cases h with
  | flat h =>
    cases a with
    | func fn fs cs => cases fn <;> simp [flatB] at h; simp [oneCell, h.2]
    | _ => first | rfl | cases h
  | _ => rfl
theorem vcells_eq (v : Value) : v.cells.toList = vcells v := by cases v <;> rfl
/-- A value of one piece: its cells, member by member. -/
theorem VA.cells_ {ρ : Map} {a c : Value} (h : VA ρ a c) : All2 (VL ρ) (vcells a) (vcells c) := by
  cases h with
  | leaf h =>
    have h1 := h.oneA
    have h2 := h.one_
    have e1 : vcells a = [a] := by cases a <;> first | rfl | cases h1
    have e2 : vcells c = [c] := by cases c <;> first | rfl | cases h2
    rw [e1, e2]
    exact .cons h .nil
  | agg h => exact h
theorem VR.noTup_ {ρ : Map} {a c : Value} (h : VR ρ a c) (hn : noTup a = true) : VA ρ a c := by
  cases h with
  | one h => exact h
  | tup h => cases hn
  | @fn f xs ys h =>
    have e1 : xs = #[] := by simpa [noTup] using hn
    subst e1
    have e2 : ys = #[] := by
      have := h.length
      simp at this
      exact Array.eq_empty_of_size_eq_zero this.symm
    subst e2
    exact .leaf (.flat rfl)
theorem VR.cells_ {ρ : Map} {a c : Value} (h : VR ρ a c) (hn : noTup a = true) : All2 (VL ρ) (vcells a) (vcells c) := (h.noTup_ hn).cells_
/-- A value of one cell. -/
theorem VR.leaf_ {ρ : Map} {a c : Value} (h : VR ρ a c) (h1 : oneCell a = true) (hn : noTup a = true) : VL ρ a c := by
  cases h.noTup_ hn with
  | leaf h => exact h
  | agg _ => cases h1
/-- A closure. -/
theorem VR.func_ {ρ : Map} {f : FuncId} {xs : Array Value} {c : Value} (h : VR ρ (.func (.func f) #[] xs) c) : ∃ ys : Array Value, c = .func (.func f) #[] ys ∧ All2 (VL ρ) xs.toList ys.toList := by
  cases h with
  | one h => cases h with
    | leaf h => cases h with
      | flat h =>
        refine ⟨xs, rfl, ?_⟩
        have e1 : xs = #[] := by simpa [flatB] using h
        subst e1
        exact .nil
  | fn h => exact ⟨_, rfl, h⟩
/-! ### What is read -/
theorem cells_of {ρ : Map} {H : Heap} {w : World} (h : Rel ρ H w) {i : Nat} {ob : Obj} (hi : H.get i = some ob) {b : Addr} {L : Nat} (hr : ρ i = some (b, L)) :
    ∀ (j : Nat) (c : Value), ob.cells[j]? = some c → ∃ c', w.cell? (b.add j) = some c' ∧ VL ρ c c' := by
  cases ob with
  | view cs =>
    obtain ⟨b', L', h1, _, h3⟩ := h.view i cs hi
    rw [hr] at h1; injection h1 with h1; injection h1 with h1 _; subst h1
    exact h3
  | own cs =>
    obtain ⟨g, off, L', h1, arr, e, h2, _, _, h4⟩ := h.own i cs hi
    rw [hr] at h1; injection h1 with h1; injection h1 with h1 _; subst h1
    intro j c hj
    obtain ⟨c', h5, h6⟩ := h4 j c hj
    exact ⟨c', by rw [add_own]; simpa [World.cell?, h2] using h5, h6⟩
/-- A stretch of cells. -/
theorem seg_of {ρ : Map} {H : Heap} {w : World} (h : Rel ρ H w) {i : Nat} {ob : Obj} (hi : H.get i = some ob) {b : Addr} {L : Nat} (hr : ρ i = some (b, L)) (o n : Nat) (hl : o + n ≤ ob.cells.length) :
    ∃ cs : List Value, cs.length = n ∧ All2 (VL ρ) ((ob.cells.drop o).take n) cs ∧ ∀ j v, cs[j]? = some v → w.cell? ((b.add o).add j) = some v := by
  have hc := cells_of h hi hr
  have key : ∀ n, o + n ≤ ob.cells.length → ∃ cs : List Value, cs.length = n ∧ All2 (VL ρ) ((ob.cells.drop o).take n) cs ∧ ∀ j v, cs[j]? = some v → w.cell? ((b.add o).add j) = some v := by
    intro n
    induction n with
    | zero => intro _; exact ⟨[], rfl, by simp; exact .nil, fun j v hj => by simp at hj⟩
    | succ n ih =>
      intro hl
      obtain ⟨cs, h1, h2, h3⟩ := ih (by omega)
      have hlt : o + n < ob.cells.length := by omega
      obtain ⟨c', h4, h5⟩ := hc (o + n) _ (List.getElem?_eq_getElem hlt)
      refine ⟨cs ++ [c'], by simp [h1], ?_, ?_⟩
      · rw [List.take_succ_eq_append_getElem (by simp; omega)]
        refine h2.append (.cons ?_ .nil)
        simpa using h5
      · intro j v hj
        by_cases hjn : j < n
        · rw [List.getElem?_append_left (by omega)] at hj
          exact h3 j v hj
        · have : j = n := by
            have := (List.getElem?_eq_some_iff.1 hj).1
            simp at this; omega
          subst this
          rw [List.getElem?_append_right (by omega), h1] at hj
          simp at hj
          subst hj
          rw [add_add]
          exact h4
  exact key n hl
section
variable {P : Program} {o : Oper} {a : Act} {w : World} {K : Act → World → Prop} {Q : Exit → Act → World → Prop} {ρ : Map} {n : Nat} {T : Tm} {H H' : Heap} {v : Value}
/-- What is to be shown of each operation. -/
def Sound (P : Program) (o : Oper) (a : Act) (w : World) (K : Act → World → Prop) (Q : Exit → Act → World → Prop) (ρ : Map) (H : Heap) (v : Value) (H' : Heap) : Prop :=
  (∀ v' w' ρ', VR ρ' v v' → Next ρ H w ρ' H' w' → K (a.put o.dst v') w') → o.wp P a w K Q
theorem s_mov {x : Operand} {y : XArg} (ho : o.op = .move x ∨ o.op = .assign x) (hx : carg n x = some y) (hT : TRel ρ n T a) (hR : Rel ρ H w) (hs : step T H (.mov y) = some (v, H')) : Sound P o a w K Q ρ H v H' := by
  intro hk
  simp only [step, Option.some.injEq, Prod.mk.injEq] at hs
  obtain ⟨rfl, rfl⟩ := hs
  refine wp_of_run (w' := w) (v' := a.eval x) ?_ (hk _ _ _ (ev_sound hx hT) (Next.refl hR))
  rcases ho with ho | ho <;> simp [execOp, ho]
theorem s_pick {c x y : Operand} {c' x' y' : XArg} (ho : o.op = .pick c x y) (hc : carg n c = some c') (hx : carg n x = some x') (hy : carg n y = some y') (hT : TRel ρ n T a) (hR : Rel ρ H w) (hs : step T H (.pick c' x' y') = some (v, H')) : Sound P o a w K Q ρ H v H' := by
  intro hk
  have h1 := ev_sound hc hT
  simp only [step] at hs
  split at hs
  · rename_i t ht
    simp only [Option.some.injEq, Prod.mk.injEq] at hs
    obtain ⟨rfl, rfl⟩ := hs
    rw [ht] at h1
    have e := h1.bool
    refine wp_of_run (w' := w) (v' := if t = true then a.eval x else a.eval y) ?_ (hk _ _ _ ?_ (Next.refl hR))
    · simp [execOp, ho, e, asBool]
    · cases t
      · exact ev_sound hy hT
      · exact ev_sound hx hT
  · cases hs
theorem s_new {e : TypeId} {zs : List Value} (ho : o.op = .alloc e) (hz : czero P e = some zs) (hfl : ∀ z ∈ zs, flatB z = true) (hR : Rel ρ H w) (hs : step T H (.new zs) = some (v, H')) : Sound P o a w K Q ρ H v H' := by
  intro hk
  simp only [step, Option.some.injEq, Prod.mk.injEq] at hs
  obtain ⟨rfl, rfl⟩ := hs
  simp only [czero, Option.bind_eq_some_iff, Option.map_eq_some_iff] at hz
  obtain ⟨i, hi, z, hz, rfl⟩ := hz
  have hN := next_push hR z.cells.toList z.cells e (by simp) (fun j c hj => ⟨c, by simpa using hj, .flat (hfl c (List.mem_of_getElem? hj))⟩)
  refine wp_of_run (w' := w.alloc (.cells z.cells e)) (v' := .pointer (some ⟨w.heap.size, 0, none⟩)) ?_ (hk _ _ _ ?_ hN)
  · simp [execOp, ho, Instr.alloc, zeroValue, typeInfo, hi, hz, newVar, newRow]
  · have := VL.ptr (o := 0) (Map.at_self ρ H.nxt (⟨w.heap.size, 0, none⟩, z.cells.size))
    exact .one (.leaf (by simpa [Addr.add] using this))
theorem s_box {e : TypeId} {x : Operand} {y : XArg} (ho : o.op = .box e x) (hx : carg n x = some y) (hT : TRel ρ n T a) (hR : Rel ρ H w) (hs : step T H (.box y) = some (v, H')) : Sound P o a w K Q ρ H v H' := by
  intro hk
  have h1 := ev_sound hx hT
  have hs' : noTup (ev T y) = true ∧ Value.pointer (some ⟨H.nxt, 0, none⟩) = v ∧ H.push (vcells (ev T y)) = H' := by
    simp only [step] at hs
    split at hs
    · rename_i hne
      simp only [Option.some.injEq, Prod.mk.injEq] at hs
      exact ⟨hne, hs⟩
    · cases hs
  obtain ⟨hne, rfl, rfl⟩ := hs'
  have hc := h1.cells_ hne
  have hN := next_push hR (vcells (ev T y)) (a.eval x).cells e (by rw [hc.length, ← vcells_eq]; simp) (fun j c hj => by
    obtain ⟨c', h2, h3⟩ := hc.get j c hj
    exact ⟨c', by rw [← vcells_eq] at h2; simpa using h2, h3⟩)
  refine wp_of_run (w' := w.alloc (.cells (a.eval x).cells e)) (v' := .pointer (some ⟨w.heap.size, 0, none⟩)) ?_ (hk _ _ _ ?_ hN)
  · simp [execOp, ho, Instr.box, newVar, newRow]
  · have := VL.ptr (o := 0) (Map.at_self ρ H.nxt (⟨w.heap.size, 0, none⟩, (a.eval x).cells.size))
    exact .one (.leaf (by simpa [Addr.add] using this))
theorem s_load1 {t : TypeId} {p : Operand} {y : XArg} (ho : o.op = .load t p) (hx : carg n p = some y) (ha : cagg P t = some false) (hT : TRel ρ n T a) (hR : Rel ρ H w) (hs : step T H (.load1 y) = some (v, H')) : Sound P o a w K Q ρ H v H' := by
  intro hk
  have h1 := ev_sound hx hT
  simp only [step] at hs
  split at hs
  · rename_i i off he
    split at hs
    · rename_i ob hi
      split at hs
      · rename_i u hu
        simp only [Option.some.injEq, Prod.mk.injEq] at hs
        obtain ⟨rfl, rfl⟩ := hs
        rw [he] at h1
        obtain ⟨b, L, hr, hp⟩ := h1.ptr
        obtain ⟨c', h2, h3⟩ := cells_of hR hi hr off u hu
        refine wp_of_run (w' := w) (v' := c') ?_ (hk _ _ _ (.one (.leaf h3)) (Next.refl hR))
        simp only [cagg] at ha
        have hagg : (isAgg t).run P w = .ok false w := by
          cases hu' : P.underlying t with
          | none => simp [hu'] at ha
          | some d =>
            rw [hu'] at ha
            cases d <;> simp at ha <;> simp [isAgg, run_underlying hu']
        simp [execOp, ho, Instr.loadAt, hp, Instr.sureAddr, loadVar, hagg, run_load, h2]
      · cases hs
    · cases hs
  · cases hs
theorem run_isAgg_true {t : TypeId} (ha : cagg P t = some true) : (isAgg t).run P w = .ok true w := by
  simp only [cagg] at ha
  cases hu' : P.underlying t with
  | none => simp [hu'] at ha
  | some d =>
    rw [hu'] at ha
    cases d <;> simp at ha <;> simp [isAgg, run_underlying hu']
theorem s_loadN {t : TypeId} {p : Operand} {y : XArg} {m : Nat} (ho : o.op = .load t p) (hx : carg n p = some y) (ha : cagg P t = some true) (hm : csize P t = some m) (hT : TRel ρ n T a) (hR : Rel ρ H w) (hs : step T H (.loadN m y) = some (v, H')) : Sound P o a w K Q ρ H v H' := by
  intro hk
  have h1 := ev_sound hx hT
  simp only [step] at hs
  split at hs
  · rename_i i off he
    split at hs
    · rename_i ob hi
      split at hs
      · rename_i hl
        simp only [Option.some.injEq, Prod.mk.injEq] at hs
        obtain ⟨rfl, rfl⟩ := hs
        rw [he] at h1
        obtain ⟨b, L, hr, hp⟩ := h1.ptr
        obtain ⟨cs, h2, h3, h4⟩ := seg_of hR hi hr off m hl
        refine wp_of_run (w' := w) (v' := .agg cs.toArray) ?_ (hk _ _ _ (.one (.agg (by simpa using h3))) (Next.refl hR))
        simp only [csize, Option.map_eq_some_iff] at hm
        obtain ⟨ti, hti, rfl⟩ := hm
        have hlc := run_loadCells_list (P := P) w (b.add off) cs h4
        rw [h2] at hlc
        simp [execOp, ho, Instr.loadAt, hp, Instr.sureAddr, loadVar, run_isAgg_true ha, sizeOf, typeInfo, hti, hlc]
      · cases hs
    · cases hs
  · cases hs
theorem s_store' {t : TypeId} {p x : Operand} {y z : XArg} {m : Nat} (ho : o.op = .store t p x) (h1 : VR ρ (ev T y) (a.eval p)) (h2 : VR ρ (ev T z) (a.eval x)) (hm : csize P t = some m) (hR : Rel ρ H w) (hs : step T H (.store m y z) = some (v, H')) : Sound P o a w K Q ρ H v H' := by
  intro hk
  simp only [step] at hs
  split at hs
  · rename_i i off he
    split at hs
    · rename_i cs hi
      split at hs
      · rename_i hl
        simp only [Option.some.injEq, Prod.mk.injEq] at hs
        obtain ⟨rfl, rfl⟩ := hs
        rw [he] at h1
        obtain ⟨b, L, hr, hpv⟩ := h1.ptr
        obtain ⟨g, off0, L', h3, arr, e, h4, h5, h6, h7⟩ := hR.own i cs hi
        rw [hr] at h3
        injection h3 with h3
        injection h3 with h3 h3'
        subst h3
        subst h3'
        -- the cells stored, member by member
        have hc : All2 (VL ρ) (vcells (ev T z)) (vcells (a.eval x)) := h2.cells_ hl.1
        have hl := hl.2
        · simp only [csize, Option.map_eq_some_iff] at hm
          obtain ⟨ti, hti, rfl⟩ := hm
          have hlen : (vcells (a.eval x)).length = ti.size := by rw [← hc.length]; exact hl.1
          have hst := run_storeCells_at P g (off0 + off) e (vcells (a.eval x)) 0 arr w h4 (by simp; omega) (fun u hu => by
            obtain ⟨j, hj⟩ := List.getElem?_of_mem hu
            have hjl := (List.getElem?_eq_some_iff.1 hj).1
            have hja : j < (vcells (ev T z)).length := by rw [hc.length]; exact hjl
            obtain ⟨c', h8, h9⟩ := hc.get j _ (List.getElem?_eq_getElem hja)
            rw [hj] at h8
            injection h8 with h8
            subst h8
            exact h9.one_)
          simp only [Nat.add_zero] at hst
          have hN := next_set hR hi hr (wr cs off (vcells (ev T z))) (arr.toList.take (off0 + off) ++ vcells (a.eval x) ++ arr.toList.drop (off0 + off + (vcells (a.eval x)).length)).toArray h4
            (by simp; omega) (by simp [wr]; omega) (by simp; omega) (fun j c hj => by
              simp only [List.getElem?_toArray]
              simp only [wr] at hj
              have hln := hc.length
              by_cases hj1 : j < off
              · rw [List.getElem?_append_left (by simp; omega), List.getElem?_append_left (by simp; omega), List.getElem?_take] at hj
                rw [if_pos hj1] at hj
                obtain ⟨c', h8, h9⟩ := h7 j c hj
                refine ⟨c', ?_, h9⟩
                rw [List.getElem?_append_left (by simp; omega), List.getElem?_append_left (by simp; omega), List.getElem?_take, if_pos (by omega)]
                simpa using h8
              · by_cases hj2 : j < off + (vcells (ev T z)).length
                · rw [List.getElem?_append_left (by simp; omega), List.getElem?_append_right (by simp; omega)] at hj
                  have e1 : j - (List.take off cs).length = j - off := by simp; omega
                  rw [e1] at hj
                  obtain ⟨c', h8, h9⟩ := hc.get _ c hj
                  refine ⟨c', ?_, h9⟩
                  rw [List.getElem?_append_left (by simp; omega), List.getElem?_append_right (by simp; omega)]
                  rw [show off0 + j - (List.take (off0 + off) arr.toList).length = j - off by simp; omega]
                  exact h8
                · rw [List.getElem?_append_right (by simp; omega), List.getElem?_drop] at hj
                  have e1 : off + (vcells (ev T z)).length + (j - (List.take off cs ++ vcells (ev T z)).length) = j := by simp; omega
                  rw [e1] at hj
                  obtain ⟨c', h8, h9⟩ := h7 j c hj
                  refine ⟨c', ?_, h9⟩
                  rw [List.getElem?_append_right (by simp; omega), List.getElem?_drop]
                  rw [show off0 + off + (vcells (a.eval x)).length + (off0 + j - (List.take (off0 + off) arr.toList ++ vcells (a.eval x)).length) = off0 + j by simp; omega]
                  simpa using h8)
          refine wp_of_skip (w' := w.setRow g _) ?_ (hk _ _ _ (VR.undef_ _) hN)
          have hsz : (a.eval x).cells.size = ti.size := by rw [← hlen, ← vcells_eq]; simp
          rw [add_own] at hpv
          rw [← vcells_eq] at hst
          simp only [execOp, ho, Instr.storeAt, hpv, Instr.sureAddr, storeVar, sizeOf, typeInfo, hti, hsz, Sem.run_bind, Sem.run_pure, Result.andThen_ok, Go.program, Sem.run, ne_eq, not_true_eq_false, if_false]
          rw [hst]
          simp [vcells_eq]
      · cases hs
    · cases hs
  · cases hs
theorem s_store {t : TypeId} {p x : Operand} {y z : XArg} {m : Nat} (ho : o.op = .store t p x) (hp : carg n p = some y) (hx : carg n x = some z) (hm : csize P t = some m) (hT : TRel ρ n T a) (hR : Rel ρ H w) (hs : step T H (.store m y z) = some (v, H')) : Sound P o a w K Q ρ H v H' :=
  s_store' ho (ev_sound hp hT) (ev_sound hx hT) hm hR hs
end
end Go.Proofs.Ytkadelndmaegdaa.AX
