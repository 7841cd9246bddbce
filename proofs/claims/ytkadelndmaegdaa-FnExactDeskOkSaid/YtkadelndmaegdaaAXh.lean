/- The executor: code, calls, and what a run of a function is. Definitions, and that more rounds tell the same. No condition; nothing of the program. -/
import Derived.Test.YtkadelndmaegdaaAXg
namespace Go.Proofs.Ytkadelndmaegdaa.AX
open Go

inductive X where
  | skip
  | reg (os : List XO)
  | dreg (pre : List (List Nat)) (os : List XO)
  | seq (a b : X)
  | cond (x : XArg) (a b : X)
  | block (id : Nat) (a : X)
  | loop (a : X)
  | exit (id : Nat)
  | ret
inductive XE where
  | nrm
  | ex (id : Nat)
  | rt
inductive XRes where
  | tmp (t : Nat)
  | cell1 (t : Nat)
  | cellN (t n : Nat)
structure XFun where
  args : Nat
  body : X
  res : List XRes
def wanted (T : Tm) : Option (Nat × Bool) → Bool
  | none => true
  | some (t, want) => match T t with | .bool b => b == want | _ => false
/-- What a call is, abstractly. -/
abbrev CallRel := FuncId → List Value → Heap → Value → Heap → Prop
/-- One operation, calls among them. -/
def Op1 (C : CallRel) (T : Tm) (H : Heap) (op : XOp) (k : Value → Heap → Prop) : Prop :=
  match op with
  | .call f xs => ∃ v H', C f (xs.map (ev T)) H v H' ∧ k v H'
  | .calld x xs => ∃ f cs, ev T x = .func (.func f) #[] cs ∧ ∃ v H', C f (xs.map (ev T) ++ cs.toList) H v H' ∧ k v H'
  | op => match step T H op with | some p => k p.1 p.2 | none => False
def Wops (C : CallRel) : List XO → (Tm → Heap → Prop) → Tm → Heap → Prop
  | [], K, T, H => K T H
  | o :: os, K, T, H => if wanted T o.guard = true then Op1 C T H o.op fun v H' => Wops C os K (put T o.dst v) H' else Wops C os K (put T o.dst undef) H
/-- What is kept of a region whose order is open: which object an operation read, what an operation with an effect did. -/
inductive Tr where
  | L (i x : Nat)
  | E (i : Nat) (H H' : Heap)
  | A (i x : Nat)
def pre_ (pre : List (List Nat)) (i j : Nat) : Bool := (pre.getD i []).contains j
def trOf (i : Nat) (T : Tm) (H H' : Heap) : XOp → List Tr
  | .load1 p | .loadN _ p => match ev T p with | .pointer (some ⟨x, _, none⟩) => [.L i x] | _ => []
  | .b2s p => match ev T p with | .slice (some ⟨x, _, none⟩) _ _ => [.L i x] | _ => []
  | .store .. | .app .. | .call .. | .calld .. => [.E i H H']
  | .new _ | .box _ | .bsl .. | .mks .. => [.A i H.nxt]
  | _ => []
def Zio (pre : List (List Nat)) (i x j : Nat) (H H' : Heap) : Prop := if pre_ pre i j || pre_ pre j i then True else H'.get x = H.get x
def Zip (pre : List (List Nat)) (i x j y : Nat) : Prop := if pre_ pre i j || pre_ pre j i then True else x ≠ y
/-- No operation that reads an object is without an order to one that turns it. -/
def agrees (pre : List (List Nat)) : Tr → Tr → Prop
  | .L i x, .E j H H' => Zio pre i x j H H'
  | .E j H H', .L i x => Zio pre i x j H H'
  | .L i x, .A j y => Zip pre i x j y
  | .A j y, .L i x => Zip pre i x j y
  | _, _ => True
def agreesAll (pre : List (List Nat)) (t : Tr) : List Tr → Prop
  | [] => True
  | u :: us => agrees pre t u ∧ agreesAll pre t us
def stable (pre : List (List Nat)) : List Tr → Prop
  | [] => True
  | t :: ts => agreesAll pre t ts ∧ stable pre ts
def Dops (C : CallRel) (pre : List (List Nat)) : Nat → List XO → List Tr → (Tm → Heap → Prop) → Tm → Heap → Prop
  | _, [], tr, K, T, H => stable pre tr ∧ K T H
  | i, o :: os, tr, K, T, H => if wanted T o.guard = true then Op1 C T H o.op fun v H' => Dops C pre (i + 1) os (trOf i T H H' o.op ++ tr) K (put T o.dst v) H' else Dops C pre (i + 1) os tr K (put T o.dst undef) H
/-- A loop that ends within n rounds. -/
def lp (B : (XE → Tm → Heap → Prop) → Tm → Heap → Prop) (K : XE → Tm → Heap → Prop) : Nat → Tm → Heap → Prop
  | 0, _, _ => False
  | n + 1, T, H => B (fun e T' H' => match e with | .nrm => lp B K n T' H' | e => K e T' H') T H
def then_ (k : Tm → Heap → Prop) (K : XE → Tm → Heap → Prop) : XE → Tm → Heap → Prop
  | .nrm, T, H => k T H
  | .ex i, T, H => K (.ex i) T H
  | .rt, T, H => K .rt T H
def inBlock (id : Nat) (K : XE → Tm → Heap → Prop) : XE → Tm → Heap → Prop
  | .nrm, T, H => K .nrm T H
  | .ex i, T, H => if i = id then K .nrm T H else K (.ex i) T H
  | .rt, T, H => K .rt T H
def bcond (v : Value) (p q : Prop) : Prop := match v with | .bool b => if b = true then p else q | _ => False
def W (C : CallRel) : X → (XE → Tm → Heap → Prop) → Tm → Heap → Prop
  | .skip, K, T, H => K .nrm T H
  | .reg os, K, T, H => Wops C os (K .nrm) T H
  | .dreg pre os, K, T, H => Dops C pre 0 os [] (K .nrm) T H
  | .seq a b, K, T, H => W C a (then_ (W C b K) K) T H
  | .cond x a b, K, T, H => bcond (ev T x) (W C a K T H) (W C b K T H)
  | .block id a, K, T, H => W C a (inBlock id K) T H
  | .loop a, K, T, H => ∃ n, lp (W C a) K n T H
  | .exit id, K, T, H => K (.ex id) T H
  | .ret, K, T, H => K .rt T H
def res1 (T : Tm) (H : Heap) : XRes → Option Value
  | .tmp t => if noTup (T t) = true then some (T t) else none
  | .cell1 t => (step T H (.load1 (.tmp t))).map (·.1)
  | .cellN t n => (step T H (.loadN n (.tmp t))).map (·.1)
def resAll (T : Tm) (H : Heap) : List XRes → Option (List Value)
  | [] => some []
  | r :: rs => match res1 T H r, resAll T H rs with
    | some v, some vs => some (v :: vs)
    | _, _ => none
def one_ : List Value → Value
  | [v] => v
  | vs => .tuple vs.toArray
/-- The values with which a call begins. -/
def T0 (args : List Value) : Tm := fun t => args.getD t undef

/-! ### Out of the model's code -/
def kindE : XOp → Bool
  | .store .. | .app .. | .call .. | .calld .. => true
  | _ => false
def kindA : XOp → Bool
  | .new _ | .box _ | .bsl .. | .mks .. => true
  | _ => false
def argT : XArg → List Nat
  | .tmp t => [t]
  | .const _ => []
def optT : Option XArg → List Nat
  | some x => argT x
  | none => []
/-- The slots that an operation looks at. -/
def looks : XOp → List Nat
  | .mov x | .box x | .load1 x | .loadN _ x | .nilc x | .un _ x | .toInt _ x | .toFlt _ x | .fltOf _ x | .fad _ x | .fdv1 _ x | .fdvN _ _ x | .ext _ x | .len x | .lenS x | .b2s x => argT x
  | .pick c a b => argT c ++ argT a ++ argT b
  | .new _ => []
  | .agg _ ps | .bsl _ _ _ ps => ps.flatMap fun p => argT p.2.2
  | .store _ p x | .bin _ p x | .binB _ p x | .cmp _ _ p x | .mks _ _ _ p x | .idx _ p x | .aidx _ _ p x | .sidx p x | .app _ _ p x | .mm _ p x => argT p ++ argT x
  | .slc _ x l h m => argT x ++ optT l ++ optT h ++ optT m
  | .sstr x l h => argT x ++ optT l ++ optT h
  | .call _ xs | .clo _ xs => xs.flatMap argT
  | .calld x xs => argT x ++ xs.flatMap argT
def looksO (o : XO) : List Nat := looks o.op ++ (match o.guard with | some (t, _) => [t] | none => [])
/-- The operations behind which an operation comes, whatever order is drawn: the transitive closure of its own marks. -/
def closure (ops : Array Oper) : List (List Nat) :=
  ops.toList.foldl (fun acc o => acc ++ [(o.after.toList.flatMap fun e => if Region.binds .any e then e.on :: acc.getD e.on [] else []).eraseDups]) []
def directs (o : Oper) : List Nat := o.after.toList.filterMap fun e => if Region.binds .any e then some e.on else none
/-- What is asked of a region whose order is open. -/
def dregOk (ops : Array Oper) (pre : List (List Nat)) (os : List XO) : Bool :=
  let m := os.length
  let xs := List.range m
  ops.size == m && pre.length == m &&
  -- the marks point back; each mark is among those kept; each kept one is a mark or kept of a mark
  (xs.all fun i => match ops[i]? with
    | some o => (directs o).all (fun j => decide (j < i) && pre_ pre i j) && (pre.getD i []).all (fun j => (directs o).any fun d => d == j || pre_ pre d j)
    | none => false) &&
  -- who shares a slot that one writes has an order
  (xs.all fun i => xs.all fun j => i == j || pre_ pre i j || pre_ pre j i ||
    match os[i]?, os[j]? with
    | some a, some b => match a.dst with | some d => !(looksO b).contains d && b.dst != some d | none => true
    | _, _ => true) &&
  -- operations with an effect stand in a row; what is made ahead of one comes ahead of it in every order
  (xs.all fun i => match os[i]? with
    | some a => !kindE a.op || (List.range i).all fun j => match os[j]? with
      | some b => !(kindE b.op || kindA b.op) || pre_ pre i j
      | none => true
    | none => true)
def cops (P : Program) (n : Nat) (ops : Array Oper) : Option (List XO) := ops.toList.mapM (coper P n ops)
def ccode (P : Program) (n : Nat) : Code → Option X
  | .skip => some .skip
  | .region _ ops false => match cops P n ops with | some os => some (.reg os) | none => some (.loop .skip)
  | .region _ ops true => match cops P n ops with | some os => (if dregOk ops (closure ops) os then some (.dreg (closure ops) os) else some (.loop .skip)) | none => some (.loop .skip)
  | .seq a b => match ccode P n a, ccode P n b with | some a, some b => some (.seq a b) | _, _ => none
  | .cond x a b => match carg n x, ccode P n a, ccode P n b with | some x, some a, some b => some (.cond x a b) | _, _, _ => none
  | .block id a => (ccode P n a).map (.block id)
  | .loop a => (ccode P n a).map .loop
  | .exit id => some (.exit id)
  | .ret => some .ret
  | _ => none
def cres (P : Program) (n : Nat) : ResultVar → Option XRes
  | .tmp t => if t < n then some (.tmp t) else none
  | .cell t ty => if t < n then (match cagg P ty with | some true => (csize P ty).map (.cellN t) | some false => some (.cell1 t) | none => none) else none
/-- A function of the program, for the executor. -/
def cfun (P : Program) (f : FuncId) : Option XFun :=
  match P.funcs[f]? with
  | some fn => match fn.body with
    | some c => match ccode P fn.ntmps c, fn.results.toList.mapM (cres P fn.ntmps) with
      | some b, some rs => if fn.params.size + fn.nfree ≤ fn.ntmps ∧ (fn.name == "runtime.NumGoroutine") = false then some ⟨fn.params.size + fn.nfree, b, rs⟩ else none
      | _, _ => none
    | none => none
  | none => none
/-! ### Runs -/
/-- A call of a known function without a body. -/
def extc (P : Program) (f : FuncId) (args : List Value) (H : Heap) (v : Value) : Prop :=
  ∃ fn cn, P.funcs[f]? = some fn ∧ (fn.name == "runtime.NumGoroutine") = false ∧ fn.body.isNone = true ∧ (Extern.findNext fn).isNone = true ∧ fn.name = extName cn ∧
    ∃ x c s, args = [x, .int .u8 c] ∧ byts H x = some s ∧ v = .int .i64 (bsea cn s c.toNat.toUInt8)
/-- A call of a function that ends with calls at most k deep. -/
def CRk (P : Program) : Nat → CallRel
  | 0 => fun _ _ _ _ _ => False
  | k + 1 => fun f args H v H' => (∃ F, cfun P f = some F ∧ args.length = F.args ∧
      W (CRk P k) F.body (fun e T H1 => (match e with | .ex _ => False | _ => True) ∧ H' = H1 ∧ ∃ vs, resAll T H1 F.res = some vs ∧ v = one_ vs) (T0 args) H) ∨ extc P f args H v ∧ H' = H
/-- A call of a function that ends. -/
def CR (P : Program) : CallRel := fun f args H v H' => ∃ k, CRk P k f args H v H'

/-! ### More is no less -/
theorem Op1.imp {C C' : CallRel} (hC : ∀ f as H v H', C f as H v H' → C' f as H v H') {T : Tm} {H : Heap} {op : XOp} {k k' : Value → Heap → Prop} (hk : ∀ v H', k v H' → k' v H') (h : Op1 C T H op k) : Op1 C' T H op k' := by
  cases op <;> simp only [Op1] at h ⊢ <;> first
    | (obtain ⟨v, H', h1, h2⟩ := h; exact ⟨v, H', hC _ _ _ _ _ h1, hk _ _ h2⟩)
    | (obtain ⟨f, cs, e, v, H', h1, h2⟩ := h; exact ⟨f, cs, e, v, H', hC _ _ _ _ _ h1, hk _ _ h2⟩)
    | (split at h
       · exact hk _ _ h
       · exact h)
theorem Wops.imp {C C' : CallRel} (hC : ∀ f as H v H', C f as H v H' → C' f as H v H') {os : List XO} {K K' : Tm → Heap → Prop} (hK : ∀ T H, K T H → K' T H) {T : Tm} {H : Heap} (h : Wops C os K T H) : Wops C' os K' T H := by
  induction os generalizing T H with
  | nil => exact hK _ _ h
  | cons o os ih =>
    simp only [Wops] at h ⊢
    split
    · rename_i hw
      rw [if_pos hw] at h
      exact h.imp hC (fun v H' h1 => ih h1)
    · rename_i hw
      rw [if_neg hw] at h
      exact ih h
theorem Dops.imp {C C' : CallRel} (hC : ∀ f as H v H', C f as H v H' → C' f as H v H') {pre : List (List Nat)} {os : List XO} {K K' : Tm → Heap → Prop} (hK : ∀ T H, K T H → K' T H) {i : Nat} {tr : List Tr} {T : Tm} {H : Heap} (h : Dops C pre i os tr K T H) : Dops C' pre i os tr K' T H := by
  induction os generalizing i tr T H with
  | nil => exact ⟨h.1, hK _ _ h.2⟩
  | cons o os ih =>
    simp only [Dops] at h ⊢
    split
    · rename_i hw
      rw [if_pos hw] at h
      exact h.imp hC (fun v H' h1 => ih h1)
    · rename_i hw
      rw [if_neg hw] at h
      exact ih h
theorem lp.imp {B B' : (XE → Tm → Heap → Prop) → Tm → Heap → Prop} {K K' : XE → Tm → Heap → Prop} (hB : ∀ k k' T H, (∀ e T H, k e T H → k' e T H) → B k T H → B' k' T H) (hK : ∀ e T H, K e T H → K' e T H) : ∀ n T H, lp B K n T H → lp B' K' n T H
  | 0, _, _, h => h
  | n + 1, T, H, h => hB _ _ _ _ (fun e T' H' h1 => by
      cases e with
      | nrm => exact lp.imp hB hK n T' H' h1
      | ex i => exact hK _ _ _ h1
      | rt => exact hK _ _ _ h1) h
theorem W.imp {C C' : CallRel} (hC : ∀ f as H v H', C f as H v H' → C' f as H v H') : ∀ (c : X) {K K' : XE → Tm → Heap → Prop}, (∀ e T H, K e T H → K' e T H) → ∀ {T : Tm} {H : Heap}, W C c K T H → W C' c K' T H
  | .skip, _, _, hK, _, _, h => hK _ _ _ h
  | .reg _, _, _, hK, _, _, h => Wops.imp hC (hK .nrm) h
  | .dreg _ _, _, _, hK, _, _, h => Dops.imp hC (hK .nrm) h
  | .seq a b, _, _, hK, _, _, h => W.imp hC a (fun e T H h1 => by
      cases e with
      | nrm => exact W.imp hC b hK h1
      | ex i => exact hK _ _ _ h1
      | rt => exact hK _ _ _ h1) h
  | .cond x a b, _, _, hK, T, H, h => by
      simp only [W, bcond] at h ⊢
      split at h
      · split at h
        · rename_i hb; simp only [hb, if_true]; exact W.imp hC a hK h
        · rename_i hb; simp only [hb]; exact W.imp hC b hK h
      · exact h
  | .block id a, _, _, hK, _, _, h => W.imp hC a (fun e T H h1 => by
      cases e with
      | nrm => exact hK _ _ _ h1
      | ex i =>
        simp only [inBlock] at h1 ⊢
        split
        · rename_i he; rw [if_pos he] at h1; exact hK _ _ _ h1
        · rename_i he; rw [if_neg he] at h1; exact hK _ _ _ h1
      | rt => exact hK _ _ _ h1) h
  | .loop a, _, _, hK, _, _, h => by
      obtain ⟨n, h⟩ := h
      exact ⟨n, lp.imp (B := W C a) (B' := W C' a) (fun k k' T H hk h1 => W.imp hC a hk h1) hK n _ _ h⟩
  | .exit _, _, _, hK, _, _, h => hK _ _ _ h
  | .ret, _, _, hK, _, _, h => hK _ _ _ h
theorem CRk_mono (P : Program) : ∀ k f as H v H', CRk P k f as H v H' → CRk P (k + 1) f as H v H'
  | 0, _, _, _, _, _, h => h.elim
  | k + 1, f, as, H, v, H', h => by
    rcases h with ⟨F, h1, h2, h3⟩ | h
    · exact .inl ⟨F, h1, h2, W.imp (CRk_mono P k) F.body (fun _ _ _ h => h) h3⟩
    · exact .inr h
theorem CRk_le (P : Program) {k k' : Nat} (hk : k ≤ k') {f : FuncId} {as : List Value} {H H' : Heap} {v : Value} (h : CRk P k f as H v H') : CRk P k' f as H v H' := by
  obtain ⟨d, rfl⟩ : ∃ d, k' = k + d := ⟨k' - k, by omega⟩
  clear hk
  induction d with
  | zero => exact h
  | succ d ih => exact CRk_mono P _ _ _ _ _ _ ih
theorem mono_le {Kk : Nat → Prop} (hm : ∀ k, Kk k → Kk (k + 1)) {k k' : Nat} (h : k ≤ k') (hk : Kk k) : Kk k' := by
  obtain ⟨d, rfl⟩ : ∃ d, k' = k + d := ⟨k' - k, by omega⟩
  clear h
  induction d with
  | zero => exact hk
  | succ d ih => exact hm _ ih
theorem Op1.collect (P : Program) {T : Tm} {H : Heap} {op : XOp} (Kk : Nat → Value → Heap → Prop) (hm : ∀ k v H', Kk k v H' → Kk (k + 1) v H') (h : Op1 (CR P) T H op fun v H' => ∃ k, Kk k v H') : ∃ k, Op1 (CRk P k) T H op (Kk k) := by
  cases op
  case call f xs =>
    simp only [Op1] at h ⊢
    obtain ⟨v, H', ⟨k1, h1⟩, k2, h2⟩ := h
    exact ⟨max k1 k2, v, H', CRk_le P (Nat.le_max_left _ _) h1, mono_le (Kk := fun k => Kk k v H') (fun k => hm k v H') (Nat.le_max_right _ _) h2⟩
  case calld x xs =>
    simp only [Op1] at h ⊢
    obtain ⟨f, cs, e, v, H', ⟨k1, h1⟩, k2, h2⟩ := h
    exact ⟨max k1 k2, f, cs, e, v, H', CRk_le P (Nat.le_max_left _ _) h1, mono_le (Kk := fun k => Kk k v H') (fun k => hm k v H') (Nat.le_max_right _ _) h2⟩
  all_goals
    simp only [Op1] at h ⊢
    split at h
    · rename_i p hp
      obtain ⟨k, h⟩ := h
      refine ⟨k, ?_⟩
      exact h
    · exact h.elim
theorem Wops.collect (P : Program) {os : List XO} (Kk : Nat → Tm → Heap → Prop) (hm : ∀ k T H, Kk k T H → Kk (k + 1) T H) {T : Tm} {H : Heap} (h : Wops (CR P) os (fun T H => ∃ k, Kk k T H) T H) : ∃ k, Wops (CRk P k) os (Kk k) T H := by
  induction os generalizing T H with
  | nil => exact h
  | cons o os ih =>
    simp only [Wops] at h ⊢
    split at h
    · rename_i hw
      simp only [hw, if_true]
      exact Op1.collect P (fun k v H' => Wops (CRk P k) os (Kk k) (put T o.dst v) H') (fun k v H' h1 => Wops.imp (CRk_mono P k) (hm k) h1) (h.imp (fun _ _ _ _ _ h => h) (fun v H' h1 => ih h1))
    · rename_i hw
      simp only [hw]
      exact ih h
theorem Dops.collect (P : Program) {pre : List (List Nat)} {os : List XO} (Kk : Nat → Tm → Heap → Prop) (hm : ∀ k T H, Kk k T H → Kk (k + 1) T H) {i : Nat} {tr : List Tr} {T : Tm} {H : Heap} (h : Dops (CR P) pre i os tr (fun T H => ∃ k, Kk k T H) T H) : ∃ k, Dops (CRk P k) pre i os tr (Kk k) T H := by
  induction os generalizing i tr T H with
  | nil =>
    obtain ⟨h1, k, h2⟩ := h
    exact ⟨k, h1, h2⟩
  | cons o os ih =>
    simp only [Dops] at h ⊢
    split at h
    · rename_i hw
      simp only [hw, if_true]
      exact Op1.collect P (fun k v H' => Dops (CRk P k) pre (i + 1) os (trOf i T H H' o.op ++ tr) (Kk k) (put T o.dst v) H') (fun k v H' h1 => Dops.imp (CRk_mono P k) (hm k) h1) (h.imp (fun _ _ _ _ _ h => h) (fun v H' h1 => ih h1))
    · rename_i hw
      simp only [hw]
      exact ih h
theorem then_mono {k k' : Tm → Heap → Prop} {K K' : XE → Tm → Heap → Prop} (hk : ∀ T H, k T H → k' T H) (hK : ∀ e T H, K e T H → K' e T H) : ∀ e T H, then_ k K e T H → then_ k' K' e T H := by
  intro e T H h
  cases e with
  | nrm => exact hk _ _ h
  | ex i => exact hK _ _ _ h
  | rt => exact hK _ _ _ h
/-- A run with calls that end ends with calls at most so many deep. -/
theorem W.collect (P : Program) : ∀ (c : X) (Kk : Nat → XE → Tm → Heap → Prop), (∀ k e T H, Kk k e T H → Kk (k + 1) e T H) → ∀ {T : Tm} {H : Heap}, W (CR P) c (fun e T H => ∃ k, Kk k e T H) T H → ∃ k, W (CRk P k) c (Kk k) T H
  | .skip, _, _, _, _, h => h
  | .reg _, Kk, hm, _, _, h => Wops.collect P (fun k => Kk k .nrm) (fun k => hm k .nrm) h
  | .dreg _ _, Kk, hm, _, _, h => Dops.collect P (fun k => Kk k .nrm) (fun k => hm k .nrm) h
  | .seq a b, Kk, hm, _, _, h => by
    refine W.collect P a (fun k => then_ (W (CRk P k) b (Kk k)) (Kk k)) (fun k e T H h1 => then_mono (fun T H h2 => W.imp (CRk_mono P k) b (hm k) h2) (hm k) e T H h1) ?_
    refine W.imp (fun _ _ _ _ _ h => h) a (fun e T H h1 => ?_) h
    cases e with
    | nrm => exact W.collect P b Kk hm h1
    | ex i => exact h1
    | rt => exact h1
  | .cond x a b, Kk, hm, T, H, h => by
    simp only [W, bcond] at h ⊢
    split at h
    · split at h
      · rename_i hb
        simp only [hb, if_true]
        exact W.collect P a Kk hm h
      · rename_i hb
        simp only [hb]
        exact W.collect P b Kk hm h
    · exact h.elim
  | .block id a, Kk, hm, _, _, h => by
    refine W.collect P a (fun k => inBlock id (Kk k)) (fun k e T H h1 => ?_) ?_
    · cases e with
      | nrm => exact hm _ _ _ _ h1
      | ex i =>
        simp only [inBlock] at h1 ⊢
        split
        · rename_i he; rw [if_pos he] at h1; exact hm _ _ _ _ h1
        · rename_i he; rw [if_neg he] at h1; exact hm _ _ _ _ h1
      | rt => exact hm _ _ _ _ h1
    · refine W.imp (fun _ _ _ _ _ h => h) a (fun e T H h1 => ?_) h
      cases e with
      | nrm => exact h1
      | ex i =>
        simp only [inBlock] at h1 ⊢
        split
        · rename_i he; rw [if_pos he] at h1; exact h1
        · rename_i he; rw [if_neg he] at h1; exact h1
      | rt => exact h1
  | .loop a, Kk, hm, _, _, h => by
    obtain ⟨n, h⟩ := h
    have key : ∀ n T H, lp (W (CR P) a) (fun e T H => ∃ k, Kk k e T H) n T H → ∃ k, lp (W (CRk P k) a) (Kk k) n T H := by
      intro n
      induction n with
      | zero => intro T H h; exact h.elim
      | succ n ih =>
        intro T H h
        refine W.collect P a (fun k e T' H' => match e with | .nrm => lp (W (CRk P k) a) (Kk k) n T' H' | e => Kk k e T' H') (fun k e T' H' h1 => ?_) ?_
        · cases e with
          | nrm => exact lp.imp (B := W (CRk P k) a) (B' := W (CRk P (k + 1)) a) (fun k1 k2 T H hk h1 => W.imp (CRk_mono P k) a hk h1) (hm k) n _ _ h1
          | ex i => exact hm _ _ _ _ h1
          | rt => exact hm _ _ _ _ h1
        · refine W.imp (fun _ _ _ _ _ h => h) a (fun e T' H' h1 => ?_) h
          cases e with
          | nrm => exact ih _ _ h1
          | ex i => exact h1
          | rt => exact h1
    obtain ⟨k, h⟩ := key n _ _ h
    exact ⟨k, n, h⟩
  | .exit _, _, _, _, _, h => h
  | .ret, _, _, _, _, h => h
/-- How a run of a function is shown: by a run of its body. -/
theorem CR.intro {P : Program} {f : FuncId} {F : XFun} (hF : cfun P f = some F) {args : List Value} (ha : args.length = F.args) {H : Heap} {v : Value} {H' : Heap}
    (h : W (CR P) F.body (fun e T H1 => (match e with | .ex _ => False | _ => True) ∧ H' = H1 ∧ ∃ vs, resAll T H1 F.res = some vs ∧ v = one_ vs) (T0 args) H) : CR P f args H v H' := by
  obtain ⟨k, hk⟩ := W.collect P F.body (fun _ e T H1 => (match e with | .ex _ => False | _ => True) ∧ H' = H1 ∧ ∃ vs, resAll T H1 F.res = some vs ∧ v = one_ vs) (fun _ _ _ _ h => h) (W.imp (fun _ _ _ _ _ h => h) F.body (fun _ _ _ h => ⟨0, h⟩) h)
  exact ⟨k + 1, .inl ⟨F, hF, ha, hk⟩⟩
theorem CR.ext {P : Program} {f : FuncId} {args : List Value} {H : Heap} {v : Value} (h : extc P f args H v) : CR P f args H v H := ⟨1, .inr ⟨h, rfl⟩⟩
end Go.Proofs.Ytkadelndmaegdaa.AX
