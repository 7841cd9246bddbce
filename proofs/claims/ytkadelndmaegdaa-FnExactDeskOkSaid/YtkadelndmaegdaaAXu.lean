/- Stepping the executor: what each operation comes to, by its values. No condition beyond each law's own; nothing of the program. -/
import Derived.Test.YtkadelndmaegdaaAXt
namespace Go.Proofs.Ytkadelndmaegdaa.AX
open Go

def ptr (i o : Nat) : Value := .pointer (some ⟨i, o, none⟩)
def lkC (H : Heap) : Option Value → Option (Value × Heap)
  | some v => some (v, H)
  | none => none
def lkO (H : Heap) (o : Nat) : Option Obj → Option (Value × Heap)
  | some ob => lkC H ob.cells[o]?
  | none => none
def vld1 (H : Heap) : Value → Option (Value × Heap)
  | .pointer (some ⟨i, o, none⟩) => lkO H o (H.get i)
  | _ => none
def ldN (H : Heap) (o n : Nat) : Option Obj → Option (Value × Heap)
  | some ob => if o + n ≤ ob.cells.length then some (.agg ((ob.cells.drop o).take n).toArray, H) else none
  | none => none
def vldN (H : Heap) (n : Nat) : Value → Option (Value × Heap)
  | .pointer (some ⟨i, o, none⟩) => ldN H o n (H.get i)
  | _ => none
def stO (H : Heap) (n i o : Nat) (x : Value) : Option Obj → Option (Value × Heap)
  | some (.own cs) => if noTup x = true ∧ (vcells x).length = n ∧ o + n ≤ cs.length then some (undef, H.set i (wr cs o (vcells x))) else none
  | _ => none
def vst (H : Heap) (n : Nat) (x : Value) : Value → Option (Value × Heap)
  | .pointer (some ⟨i, o, none⟩) => stO H n i o x (H.get i)
  | _ => none
def vbox (H : Heap) (v : Value) : Option (Value × Heap) := if noTup v = true then some (ptr H.nxt 0, H.push (vcells v)) else none
def vagg (H : Heap) : Option (List Value) → Option (Value × Heap)
  | some cs => some (.agg cs.toArray, H)
  | none => none
def vbsl (H : Heap) (sz len : Nat) : Option (List Value) → Option (Value × Heap)
  | some cs => some (.slice (some ⟨H.nxt, 0, none⟩) len sz, H.push cs)
  | none => none
def vval (H : Heap) : Option Value → Option (Value × Heap)
  | some v => some (v, H)
  | none => none
def vpick (H : Heap) (a b : Value) : Value → Option (Value × Heap)
  | .bool t => some (if t = true then a else b, H)
  | _ => none
def vfad (H : Heap) (off : Nat) : Value → Option (Value × Heap)
  | .pointer (some ⟨i, o, none⟩) => some (.pointer (some ⟨i, o + off, none⟩), H)
  | _ => none
def vfdv1 (H : Heap) (off : Nat) : Value → Option (Value × Heap)
  | .agg cs => lkC H cs[off]?
  | _ => none
def vfdvN (H : Heap) (off n : Nat) : Value → Option (Value × Heap)
  | .agg cs => some (.agg ((cs.toList.drop off).take n).toArray, H)
  | _ => none
def vlen (H : Heap) : Value → Option (Value × Heap)
  | .slice none 0 0 => some (.int .i64 0, H)
  | .slice (some ⟨_, _, none⟩) n _ => some (.int .i64 n, H)
  | _ => none
def vlenS (H : Heap) : Value → Option (Value × Heap)
  | .string s => some (.int .i64 s.size, H)
  | _ => none
def vnil (H : Heap) : Value → Option (Value × Heap)
  | .pointer (some a) => some (.pointer (some a), H)
  | _ => none
def vidx (H : Heap) (sz : Nat) (x i : Value) : Option (Value × Heap) := match x, i with
  | .slice (some ⟨b, o, none⟩) n sz', .int _ j => if sz' = sz ∧ 0 ≤ j ∧ j < n then some (.pointer (some ⟨b, o + j.toNat * sz, none⟩), H) else none
  | _, _ => none
def vaidx (H : Heap) (len sz : Nat) (x i : Value) : Option (Value × Heap) := match x, i with
  | .pointer (some ⟨b, o, none⟩), .int _ j => if 0 ≤ j ∧ j < len then some (.pointer (some ⟨b, o + j.toNat * sz, none⟩), H) else none
  | _, _ => none
def vext (H : Heap) (i : Nat) : Value → Option (Value × Heap)
  | .tuple vs => lkC H vs[i]?
  | _ => none
def vmks (H : Heap) (sz bytes : Nat) (z : List Value) (l c : Value) : Option (Value × Heap) := match l, c with
  | .int .i64 l, .int .i64 c => if 0 ≤ l ∧ l ≤ c ∧ c ≤ 9223372036854775807 ∧ (bytes : Int) * c ≤ 140737488355328 then some (.slice (some ⟨H.nxt, 0, none⟩) l.toNat sz, H.push ((List.replicate l.toNat z).flatten)) else none
  | _, _ => none
def vtoInt (H : Heap) (k : IntKind) : Value → Option (Value × Heap)
  | .int _ n => some (.int k (k.wrap n), H)
  | _ => none
def vtoFlt (H : Heap) (k : FloatKind) : Value → Option (Value × Heap)
  | .int _ n => some (.float k (k.nearest n), H)
  | _ => none
def vfltOf (H : Heap) (k : FloatKind) : Value → Option (Value × Heap)
  | .float k' b => if k' = k then some (.float k' b, H) else none
  | _ => none
def vbinB (H : Heap) (neg : Bool) (x y : Value) : Option (Value × Heap) := match x, y with
  | .bool a, .bool b => some (.bool (if neg then !(a == b) else a == b), H)
  | _, _ => none
def vmm (H : Heap) (mx : Bool) (x y : Value) : Option (Value × Heap) := match x, y with
  | .int k a, .int k' b => if k = k' then some (.int k (if mx then (if b > a then b else a) else (if b < a then b else a)), H) else none
  | _, _ => none
def bnd (y : Nat) : Value → Option Nat
  | .int _ i => if 0 ≤ i ∧ i ≤ y then some i.toNat else none
  | _ => none
def evO (T : Tm) : Option XArg → Option Value
  | some x => some (ev T x)
  | none => none
/-- The bounds of a slice of a slice, out of the values. -/
def bnds (len cap : Nat) (lo hi mx : Option Value) : Option (Nat × Nat × Nat) :=
  (match mx with | some v => bnd cap v | none => some cap).bind fun m =>
  (match hi with | some v => bnd (match mx with | some _ => m | none => cap) v | none => (match mx with | some _ => none | none => some len)).bind fun h =>
  (match lo with | some v => bnd h v | none => some 0).bind fun l => some (l, h, m)
def vslc (H : Heap) (sz : Nat) (lo hi mx : Option Value) : Value → Option (Value × Heap)
  | .slice (some ⟨i, o, none⟩) n sz' => if sz' = sz then (bnds n n lo hi mx).map fun (l, h, _) => (.slice (some ⟨i, o + l * sz, none⟩) (h - l) sz, H) else none
  | .slice none 0 0 => (bnds 0 0 lo hi mx).map fun _ => (.slice none 0 0, H)
  | _ => none
def vapp (H : Heap) (sz bytes : Nat) (s x : Value) : Option (Value × Heap) := match s, x with
    | sv, .slice none 0 0 => (match sv with | .slice none 0 0 | .slice (some _) _ _ => some (sv, H) | _ => none)
    | sv, .slice (some ⟨j, p, none⟩) k sz' =>
      if k = 0 then (match sv with | .slice none 0 0 | .slice (some _) _ _ => some (sv, H) | _ => none) else
      match H.get j with
      | some ob => if sz' = sz ∧ p + k * sz ≤ ob.cells.length then
          (match sv with
          | .slice none 0 0 => if k * bytes ≤ 140737488355328 then some (.slice (some ⟨H.nxt, 0, none⟩) k sz, H.push ((ob.cells.drop p).take (k * sz))) else none
          | .slice (some ⟨i, o, none⟩) n sz'' => match H.get i with
            | some (.own cs) => if sz'' = sz ∧ o + n * sz ≤ cs.length ∧ (n + k) * bytes ≤ 140737488355328 then some (.slice (some ⟨H.nxt, 0, none⟩) (n + k) sz, H.moved i ((cs.drop o).take (n * sz) ++ (ob.cells.drop p).take (k * sz))) else none
            | _ => none
          | _ => none)
        else none
      | none => none
    | _, _ => none
section
variable {T : Tm} {H : Heap}
theorem step_mov {x : XArg} : step T H (.mov x) = some (ev T x, H) := nofl rfl
theorem step_pick {c a b : XArg} : step T H (.pick c a b) = vpick H (ev T a) (ev T b) (ev T c) := nofl rfl
theorem step_new {zs : List Value} : step T H (.new zs) = some (ptr H.nxt 0, H.push zs) := nofl rfl
theorem step_box {x : XArg} : step T H (.box x) = vbox H (ev T x) := nofl rfl
theorem step_agg {zs : List Value} {ps : List (Nat × Nat × XArg)} : step T H (.agg zs ps) = vagg H (Zeq zs (ps.map fun p => (p.1, p.2.1, ev T p.2.2))) := by
  simp only [step]; cases Zeq zs (ps.map fun p => (p.1, p.2.1, ev T p.2.2)) <;> rfl
theorem step_bsl {sz len : Nat} {zs : List Value} {ps : List (Nat × Nat × XArg)} : step T H (.bsl sz len zs ps) = vbsl H sz len (Zeq zs (ps.map fun p => (p.1, p.2.1, ev T p.2.2))) := by
  simp only [step]; cases Zeq zs (ps.map fun p => (p.1, p.2.1, ev T p.2.2)) <;> rfl
theorem step_load1 {p : XArg} : step T H (.load1 p) = vld1 H (ev T p) := by
  simp only [step]
  cases ev T p with
  | pointer a =>
    rcases a with _ | ⟨i, o, _ | _⟩
    · rfl
    · simp only [vld1, lkO]
      cases H.get i with
      | none => rfl
      | some ob => cases h : ob.cells[o]? <;> simp [lkC, h]
    · rfl
  | _ => rfl
theorem step_loadN {n : Nat} {p : XArg} : step T H (.loadN n p) = vldN H n (ev T p) := by
  simp only [step]
  cases ev T p with
  | pointer a =>
    rcases a with _ | ⟨i, o, _ | _⟩
    · rfl
    · simp only [vldN, ldN]
      cases H.get i <;> rfl
    · rfl
  | _ => rfl
theorem step_store {n : Nat} {p x : XArg} : step T H (.store n p x) = vst H n (ev T x) (ev T p) := by
  simp only [step]
  cases ev T p with
  | pointer a =>
    rcases a with _ | ⟨i, o, _ | _⟩
    · rfl
    · simp only [vst, stO]
      cases H.get i with
      | none => rfl
      | some ob => cases ob <;> rfl
    · rfl
  | _ => rfl
theorem step_nilc {x : XArg} : step T H (.nilc x) = vnil H (ev T x) := by
  simp only [step]
  cases ev T x with
  | pointer a => cases a <;> rfl
  | _ => rfl
theorem step_bin {op : BinOp} {x y : XArg} : step T H (.bin op x y) = vval H (abin op (ev T x) (ev T y)) := by simp only [step]; cases abin op (ev T x) (ev T y) <;> rfl
theorem step_binB {ng : Bool} {x y : XArg} : step T H (.binB ng x y) = vbinB H ng (ev T x) (ev T y) := nofl rfl
theorem step_un {op : UnOp} {x : XArg} : step T H (.un op x) = vval H (aun op (ev T x)) := by simp only [step]; cases aun op (ev T x) <;> rfl
theorem step_toInt {k : IntKind} {x : XArg} : step T H (.toInt k x) = vtoInt H k (ev T x) := nofl rfl
theorem step_toFlt {k : FloatKind} {x : XArg} : step T H (.toFlt k x) = vtoFlt H k (ev T x) := nofl rfl
theorem step_fltOf {k : FloatKind} {x : XArg} : step T H (.fltOf k x) = vfltOf H k (ev T x) := nofl rfl
theorem step_mks {sz bytes : Nat} {z : List Value} {l c : XArg} : step T H (.mks sz bytes z l c) = vmks H sz bytes z (ev T l) (ev T c) := nofl rfl
theorem step_fad {off : Nat} {x : XArg} : step T H (.fad off x) = vfad H off (ev T x) := nofl rfl
theorem step_fdv1 {off : Nat} {x : XArg} : step T H (.fdv1 off x) = vfdv1 H off (ev T x) := by
  simp only [step]
  cases ev T x with
  | agg cs => cases h : cs[off]? <;> simp [vfdv1, lkC, h]
  | _ => rfl
theorem step_fdvN {off n : Nat} {x : XArg} : step T H (.fdvN off n x) = vfdvN H off n (ev T x) := nofl rfl
theorem step_idx {sz : Nat} {x i : XArg} : step T H (.idx sz x i) = vidx H sz (ev T x) (ev T i) := nofl rfl
theorem step_aidx {len sz : Nat} {x i : XArg} : step T H (.aidx len sz x i) = vaidx H len sz (ev T x) (ev T i) := nofl rfl
theorem step_ext {i : Nat} {x : XArg} : step T H (.ext i x) = vext H i (ev T x) := by
  simp only [step]
  cases ev T x with
  | tuple cs => cases h : cs[i]? <;> simp [vext, lkC, h]
  | _ => rfl
theorem step_len {x : XArg} : step T H (.len x) = vlen H (ev T x) := nofl rfl
theorem step_lenS {x : XArg} : step T H (.lenS x) = vlenS H (ev T x) := nofl rfl
theorem step_mm {mx : Bool} {x y : XArg} : step T H (.mm mx x y) = vmm H mx (ev T x) (ev T y) := nofl rfl
theorem step_app {sz bytes : Nat} {s x : XArg} : step T H (.app sz bytes s x) = vapp H sz bytes (ev T s) (ev T x) := nofl rfl
theorem bound_eq {x : XArg} {y : Nat} : bound T x y = bnd y (ev T x) := nofl rfl
theorem bounds_eq {len cap : Nat} {lo hi mx : Option XArg} : bounds T len cap lo hi mx = bnds len cap (evO T lo) (evO T hi) (evO T mx) := by
  cases lo <;> cases hi <;> cases mx <;> simp only [bounds, bnds, evO, bound_eq]
theorem step_slc {sz : Nat} {x : XArg} {lo hi mx : Option XArg} : step T H (.slc sz x lo hi mx) = vslc H sz (evO T lo) (evO T hi) (evO T mx) (ev T x) := by
  simp only [step, bounds_eq]
  rfl
theorem Zbl {C : CallRel} {d : Option Nat} {os : List XO} {ks : List Fr} {Q : XE → Tm → Heap → Prop} {x : XArg} : GO C (⟨d, (.mov x), none⟩ :: os) ks Q T H = oK C d os ks Q T (some (ev T x, H)) := by rw [GO_op rfl, step_mov]
theorem Zbm {C : CallRel} {d : Option Nat} {os : List XO} {ks : List Fr} {Q : XE → Tm → Heap → Prop} {c a b : XArg} : GO C (⟨d, (.pick c a b), none⟩ :: os) ks Q T H = oK C d os ks Q T (vpick H (ev T a) (ev T b) (ev T c)) := by rw [GO_op rfl, step_pick]
theorem Zbn {C : CallRel} {d : Option Nat} {os : List XO} {ks : List Fr} {Q : XE → Tm → Heap → Prop} {zs : List Value} : GO C (⟨d, (.new zs), none⟩ :: os) ks Q T H = oK C d os ks Q T (some (ptr H.nxt 0, H.push zs)) := by rw [GO_op rfl, step_new]
theorem Zbo {C : CallRel} {d : Option Nat} {os : List XO} {ks : List Fr} {Q : XE → Tm → Heap → Prop} {x : XArg} : GO C (⟨d, (.box x), none⟩ :: os) ks Q T H = oK C d os ks Q T (vbox H (ev T x)) := by rw [GO_op rfl, step_box]
theorem Zbp {C : CallRel} {d : Option Nat} {os : List XO} {ks : List Fr} {Q : XE → Tm → Heap → Prop} {zs : List Value} {ps : List (Nat × Nat × XArg)} : GO C (⟨d, (.agg zs ps), none⟩ :: os) ks Q T H = oK C d os ks Q T (vagg H (Zeq zs (ps.map fun p => (p.1, p.2.1, ev T p.2.2)))) := by rw [GO_op rfl, step_agg]
theorem Zbq {C : CallRel} {d : Option Nat} {os : List XO} {ks : List Fr} {Q : XE → Tm → Heap → Prop} {sz len : Nat} {zs : List Value} {ps : List (Nat × Nat × XArg)} : GO C (⟨d, (.bsl sz len zs ps), none⟩ :: os) ks Q T H = oK C d os ks Q T (vbsl H sz len (Zeq zs (ps.map fun p => (p.1, p.2.1, ev T p.2.2)))) := by rw [GO_op rfl, step_bsl]
theorem Zbr {C : CallRel} {d : Option Nat} {os : List XO} {ks : List Fr} {Q : XE → Tm → Heap → Prop} {p : XArg} : GO C (⟨d, (.load1 p), none⟩ :: os) ks Q T H = oK C d os ks Q T (vld1 H (ev T p)) := by rw [GO_op rfl, step_load1]
theorem Zbs {C : CallRel} {d : Option Nat} {os : List XO} {ks : List Fr} {Q : XE → Tm → Heap → Prop} {n : Nat} {p : XArg} : GO C (⟨d, (.loadN n p), none⟩ :: os) ks Q T H = oK C d os ks Q T (vldN H n (ev T p)) := by rw [GO_op rfl, step_loadN]
theorem Zbt {C : CallRel} {d : Option Nat} {os : List XO} {ks : List Fr} {Q : XE → Tm → Heap → Prop} {n : Nat} {p x : XArg} : GO C (⟨d, (.store n p x), none⟩ :: os) ks Q T H = oK C d os ks Q T (vst H n (ev T x) (ev T p)) := by rw [GO_op rfl, step_store]
theorem Zbu {C : CallRel} {d : Option Nat} {os : List XO} {ks : List Fr} {Q : XE → Tm → Heap → Prop} {x : XArg} : GO C (⟨d, (.nilc x), none⟩ :: os) ks Q T H = oK C d os ks Q T (vnil H (ev T x)) := by rw [GO_op rfl, step_nilc]
theorem Zbv {C : CallRel} {d : Option Nat} {os : List XO} {ks : List Fr} {Q : XE → Tm → Heap → Prop} {op : BinOp} {x y : XArg} : GO C (⟨d, (.bin op x y), none⟩ :: os) ks Q T H = oK C d os ks Q T (vval H (abin op (ev T x) (ev T y))) := by rw [GO_op rfl, step_bin]
theorem Zbw {C : CallRel} {d : Option Nat} {os : List XO} {ks : List Fr} {Q : XE → Tm → Heap → Prop} {ng : Bool} {x y : XArg} : GO C (⟨d, (.binB ng x y), none⟩ :: os) ks Q T H = oK C d os ks Q T (vbinB H ng (ev T x) (ev T y)) := by rw [GO_op rfl, step_binB]
theorem Zbx {C : CallRel} {d : Option Nat} {os : List XO} {ks : List Fr} {Q : XE → Tm → Heap → Prop} {op : UnOp} {x : XArg} : GO C (⟨d, (.un op x), none⟩ :: os) ks Q T H = oK C d os ks Q T (vval H (aun op (ev T x))) := by rw [GO_op rfl, step_un]
theorem Zby {C : CallRel} {d : Option Nat} {os : List XO} {ks : List Fr} {Q : XE → Tm → Heap → Prop} {k : IntKind} {x : XArg} : GO C (⟨d, (.toInt k x), none⟩ :: os) ks Q T H = oK C d os ks Q T (vtoInt H k (ev T x)) := by rw [GO_op rfl, step_toInt]
theorem Zbz {C : CallRel} {d : Option Nat} {os : List XO} {ks : List Fr} {Q : XE → Tm → Heap → Prop} {k : FloatKind} {x : XArg} : GO C (⟨d, (.toFlt k x), none⟩ :: os) ks Q T H = oK C d os ks Q T (vtoFlt H k (ev T x)) := by rw [GO_op rfl, step_toFlt]
theorem Zca {C : CallRel} {d : Option Nat} {os : List XO} {ks : List Fr} {Q : XE → Tm → Heap → Prop} {k : FloatKind} {x : XArg} : GO C (⟨d, (.fltOf k x), none⟩ :: os) ks Q T H = oK C d os ks Q T (vfltOf H k (ev T x)) := by rw [GO_op rfl, step_fltOf]
theorem Zcb {C : CallRel} {d : Option Nat} {os : List XO} {ks : List Fr} {Q : XE → Tm → Heap → Prop} {sz bytes : Nat} {z : List Value} {l c : XArg} : GO C (⟨d, (.mks sz bytes z l c), none⟩ :: os) ks Q T H = oK C d os ks Q T (vmks H sz bytes z (ev T l) (ev T c)) := by rw [GO_op rfl, step_mks]
theorem Zcc {C : CallRel} {d : Option Nat} {os : List XO} {ks : List Fr} {Q : XE → Tm → Heap → Prop} {off : Nat} {x : XArg} : GO C (⟨d, (.fad off x), none⟩ :: os) ks Q T H = oK C d os ks Q T (vfad H off (ev T x)) := by rw [GO_op rfl, step_fad]
theorem Zcd {C : CallRel} {d : Option Nat} {os : List XO} {ks : List Fr} {Q : XE → Tm → Heap → Prop} {off : Nat} {x : XArg} : GO C (⟨d, (.fdv1 off x), none⟩ :: os) ks Q T H = oK C d os ks Q T (vfdv1 H off (ev T x)) := by rw [GO_op rfl, step_fdv1]
theorem Zce {C : CallRel} {d : Option Nat} {os : List XO} {ks : List Fr} {Q : XE → Tm → Heap → Prop} {off n : Nat} {x : XArg} : GO C (⟨d, (.fdvN off n x), none⟩ :: os) ks Q T H = oK C d os ks Q T (vfdvN H off n (ev T x)) := by rw [GO_op rfl, step_fdvN]
theorem Zcf {C : CallRel} {d : Option Nat} {os : List XO} {ks : List Fr} {Q : XE → Tm → Heap → Prop} {sz : Nat} {x i : XArg} : GO C (⟨d, (.idx sz x i), none⟩ :: os) ks Q T H = oK C d os ks Q T (vidx H sz (ev T x) (ev T i)) := by rw [GO_op rfl, step_idx]
theorem GO_aidx {C : CallRel} {d : Option Nat} {os : List XO} {ks : List Fr} {Q : XE → Tm → Heap → Prop} {len sz : Nat} {x i : XArg} : GO C (⟨d, (.aidx len sz x i), none⟩ :: os) ks Q T H = oK C d os ks Q T (vaidx H len sz (ev T x) (ev T i)) := by rw [GO_op rfl, step_aidx]
theorem Zcg {C : CallRel} {d : Option Nat} {os : List XO} {ks : List Fr} {Q : XE → Tm → Heap → Prop} {i : Nat} {x : XArg} : GO C (⟨d, (.ext i x), none⟩ :: os) ks Q T H = oK C d os ks Q T (vext H i (ev T x)) := by rw [GO_op rfl, step_ext]
theorem Zch {C : CallRel} {d : Option Nat} {os : List XO} {ks : List Fr} {Q : XE → Tm → Heap → Prop} {x : XArg} : GO C (⟨d, (.len x), none⟩ :: os) ks Q T H = oK C d os ks Q T (vlen H (ev T x)) := by rw [GO_op rfl, step_len]
theorem Zci {C : CallRel} {d : Option Nat} {os : List XO} {ks : List Fr} {Q : XE → Tm → Heap → Prop} {x : XArg} : GO C (⟨d, (.lenS x), none⟩ :: os) ks Q T H = oK C d os ks Q T (vlenS H (ev T x)) := by rw [GO_op rfl, step_lenS]
theorem Zcj {C : CallRel} {d : Option Nat} {os : List XO} {ks : List Fr} {Q : XE → Tm → Heap → Prop} {mx : Bool} {x y : XArg} : GO C (⟨d, (.mm mx x y), none⟩ :: os) ks Q T H = oK C d os ks Q T (vmm H mx (ev T x) (ev T y)) := by rw [GO_op rfl, step_mm]
theorem Zck {C : CallRel} {d : Option Nat} {os : List XO} {ks : List Fr} {Q : XE → Tm → Heap → Prop} {sz : Nat} {x : XArg} {lo hi mx : Option XArg} : GO C (⟨d, (.slc sz x lo hi mx), none⟩ :: os) ks Q T H = oK C d os ks Q T (vslc H sz (evO T lo) (evO T hi) (evO T mx) (ev T x)) := by rw [GO_op rfl, step_slc]
def vb2s (H : Heap) (v : Value) : Option (Value × Heap) := (byts H v).map fun s => (.string s, H)
theorem step_b2s {x : XArg} : step T H (.b2s x) = vb2s H (ev T x) := nofl rfl
theorem GO_b2s {C : CallRel} {d : Option Nat} {os : List XO} {ks : List Fr} {Q : XE → Tm → Heap → Prop} {x : XArg} : GO C (⟨d, (.b2s x), none⟩ :: os) ks Q T H = oK C d os ks Q T (vb2s H (ev T x)) := by rw [GO_op rfl, step_b2s]
def vcmp (H : Heap) (neg : Bool) (offs : List (Nat × Nat)) : Value → Value → Option (Value × Heap)
  | .agg xs, .agg ys => (ceqs xs ys offs).map fun b => (.bool (b != neg), H)
  | _, _ => none
theorem step_cmp {neg : Bool} {offs : List (Nat × Nat)} {x y : XArg} : step T H (.cmp neg offs x y) = vcmp H neg offs (ev T x) (ev T y) := by
  simp only [step]; cases ev T x <;> cases ev T y <;> rfl
theorem GO_cmp {C : CallRel} {d : Option Nat} {os : List XO} {ks : List Fr} {Q : XE → Tm → Heap → Prop} {neg : Bool} {offs : List (Nat × Nat)} {x y : XArg} : GO C (⟨d, (.cmp neg offs x y), none⟩ :: os) ks Q T H = oK C d os ks Q T (vcmp H neg offs (ev T x) (ev T y)) := by rw [GO_op rfl, step_cmp]
def vclo (H : Heap) (f : FuncId) (vs : List Value) : Option (Value × Heap) := if (vs.all fun v => oneCell v && noTup v) = true then some (.func (.func f) #[] vs.toArray, H) else none
theorem step_clo {f : FuncId} {xs : List XArg} : step T H (.clo f xs) = vclo H f (xs.map (ev T)) := by
  simp only [step, vclo, List.all_map]
  rfl
theorem GO_clo {C : CallRel} {d : Option Nat} {os : List XO} {ks : List Fr} {Q : XE → Tm → Heap → Prop} {f : FuncId} {xs : List XArg} : GO C (⟨d, (.clo f xs), none⟩ :: os) ks Q T H = oK C d os ks Q T (vclo H f (xs.map (ev T))) := by rw [GO_op rfl, step_clo]
theorem vclo_0 {f : FuncId} : vclo H f [] = some (.func (.func f) #[] #[], H) := nofl rfl
theorem vclo_str {f : FuncId} {s : ByteArray} : vclo H f [.string s] = some (.func (.func f) #[] #[.string s], H) := nofl rfl
theorem vclo_ptr {f : FuncId} {p o : Nat} : vclo H f [ptr p o] = some (.func (.func f) #[] #[ptr p o], H) := nofl rfl
theorem Zff {C : CallRel} {d : Option Nat} {os : List XO} {ks : List Fr} {Q : XE → Tm → Heap → Prop} {sz bytes : Nat} {s x : XArg} : GO C (⟨d, .app sz bytes s x, none⟩ :: os) ks Q T H = oK C d os ks Q T (vapp H sz bytes (ev T s) (ev T x)) := by rw [GO_op rfl, step_app]
/-! ### On known values -/
theorem Zcl {i o : Nat} : vld1 H (ptr i o) = lkO H o (H.get i) := nofl rfl
theorem Zcm {o : Nat} {cs : List Value} : lkO H o (some (.own cs)) = lkC H cs[o]? := nofl rfl
theorem Zcn {v : Value} : lkC H (some v) = some (v, H) := nofl rfl
theorem Zco {n i o : Nat} : vldN H n (ptr i o) = ldN H o n (H.get i) := nofl rfl
theorem Zcp {n o : Nat} {cs : List Value} : ldN H o n (some (.own cs)) = if o + n ≤ cs.length then some (.agg ((cs.drop o).take n).toArray, H) else none := nofl rfl
theorem Zcq {n i o : Nat} {x : Value} : vst H n x (ptr i o) = stO H n i o x (H.get i) := nofl rfl
theorem stO_own {n i o : Nat} {x : Value} {cs : List Value} : stO H n i o x (some (.own cs)) = if noTup x = true ∧ (vcells x).length = n ∧ o + n ≤ cs.length then some (undef, H.set i (wr cs o (vcells x))) else none := nofl rfl
theorem Zcr {n i o : Nat} {x c : Value} {cs : List Value} : stO H n i o x (some (.own (c :: cs))) = if noTup x = true ∧ (vcells x).length = n ∧ o + n ≤ (c :: cs).length then some (undef, H.set i (wr (c :: cs) o (vcells x))) else none := stO_own
theorem Zcs {off i o : Nat} : vfad H off (ptr i o) = some (ptr i (o + off), H) := nofl rfl
theorem Zct {i o : Nat} : vnil H (ptr i o) = some (ptr i o, H) := nofl rfl
theorem Zcu {v : Value} : vval H (some v) = some (v, H) := nofl rfl
theorem Zcv {cs : List Value} : vagg H (some cs) = some (.agg cs.toArray, H) := nofl rfl
theorem Zcw {sz len : Nat} {cs : List Value} : vbsl H sz len (some cs) = some (.slice (some ⟨H.nxt, 0, none⟩) len sz, H.push cs) := nofl rfl
theorem Zcx {a b : Value} {t : Bool} : vpick H a b (.bool t) = some (if t = true then a else b, H) := nofl rfl
theorem Zcy {off : Nat} {cs : Array Value} : vfdv1 H off (.agg cs) = lkC H cs[off]? := nofl rfl
theorem Zcz {off n : Nat} {cs : Array Value} : vfdvN H off n (.agg cs) = some (.agg ((cs.toList.drop off).take n).toArray, H) := nofl rfl
theorem Zda {i : Nat} {vs : Array Value} : vext H i (.tuple vs) = lkC H vs[i]? := nofl rfl
theorem Zdb {k k' : IntKind} {n : Int} : vtoInt H k (.int k' n) = some (.int k (k.wrap n), H) := nofl rfl
theorem Zdc {k : FloatKind} {k' : IntKind} {n : Int} : vtoFlt H k (.int k' n) = some (.float k (k.nearest n), H) := nofl rfl
theorem Zdd {k : FloatKind} {b : Nat} : vfltOf H k (.float k b) = some (.float k b, H) := by simp [vfltOf]
/-- Arithmetic of floats: what an operation gives; of a NaN, one of them. -/
def fadd (k : FloatKind) (a b : Nat) : Nat := (k.format.add a b).getD (nanOf k)
def fsub (k : FloatKind) (a b : Nat) : Nat := (k.format.sub a b).getD (nanOf k)
def fmul (k : FloatKind) (a b : Nat) : Nat := (k.format.mul a b).getD (nanOf k)
def fdiv (k : FloatKind) (a b : Nat) : Nat := (k.format.div a b).getD (nanOf k)
def feq (k : FloatKind) (a b : Nat) : Bool := k.format.order a b == some .eq
def flt (k : FloatKind) (a b : Nat) : Bool := k.format.order a b == some .lt
def fgt (k : FloatKind) (a b : Nat) : Bool := k.format.order a b == some .gt
theorem Zdi {k : FloatKind} {a b : Nat} : abin .add (.float k a) (.float k b) = some (.float k (fadd k a b)) := by simp [abin, fltOp, fadd]
theorem Zdj {k : FloatKind} {a b : Nat} : abin .sub (.float k a) (.float k b) = some (.float k (fsub k a b)) := by simp [abin, fltOp, fsub]
theorem Zdk {k : FloatKind} {a b : Nat} : abin .mul (.float k a) (.float k b) = some (.float k (fmul k a b)) := by simp [abin, fltOp, fmul]
theorem Zdl {k : FloatKind} {a b : Nat} : abin .quo (.float k a) (.float k b) = some (.float k (fdiv k a b)) := by simp [abin, fltOp, fdiv]
theorem Zdm {k : FloatKind} {a b : Nat} : abin .eql (.float k a) (.float k b) = some (.bool (feq k a b)) := by simp [abin, fltOp, feq]
theorem Zdn {k : FloatKind} {a b : Nat} : abin .neq (.float k a) (.float k b) = some (.bool (!feq k a b)) := by simp [abin, fltOp, feq, bne]
theorem Zdo {k : FloatKind} {a b : Nat} : abin .lss (.float k a) (.float k b) = some (.bool (flt k a b)) := by simp [abin, fltOp, flt]
theorem Zdp {k : FloatKind} {a b : Nat} : abin .leq (.float k a) (.float k b) = some (.bool (flt k a b || feq k a b)) := by simp [abin, fltOp, flt, feq]
theorem Zdq {k : FloatKind} {a b : Nat} : abin .gtr (.float k a) (.float k b) = some (.bool (fgt k a b)) := by simp [abin, fltOp, fgt]
theorem Zdr {k : FloatKind} {a b : Nat} : abin .geq (.float k a) (.float k b) = some (.bool (fgt k a b || feq k a b)) := by simp [abin, fltOp, fgt, feq]
theorem Zde {i o n sz : Nat} : vlen H (.slice (some ⟨i, o, none⟩) n sz) = some (.int .i64 n, H) := by cases n <;> cases sz <;> rfl
theorem Zdf : vlen H (.slice none 0 0) = some (.int .i64 0, H) := nofl rfl
theorem Zdg {b : Bool} : aun .not (.bool b) = some (.bool (!b)) := nofl rfl
theorem Zdh {k : IntKind} {a b : Int} : abin .add (.int k a) (.int k b) = some (.int k (k.wrap (a + b))) := by simp [abin, intOp]
theorem Zds {k : IntKind} {a b : Int} : abin .sub (.int k a) (.int k b) = some (.int k (k.wrap (a - b))) := by simp [abin, intOp]
theorem Zdt {k : IntKind} {a b : Int} : abin .mul (.int k a) (.int k b) = some (.int k (k.wrap (a * b))) := by simp [abin, intOp]
theorem abin_quo {k : IntKind} {a b : Int} (h : b ≠ 0) : abin .quo (.int k a) (.int k b) = some (.int k (k.wrap (a.tdiv b))) := by simp [abin, intOp, h]
theorem abin_rem {k : IntKind} {a b : Int} (h : b ≠ 0) : abin .rem (.int k a) (.int k b) = some (.int k (a.tmod b)) := by simp [abin, intOp, h]
theorem Zdu {k : IntKind} {a b : Int} : abin .eql (.int k a) (.int k b) = some (.bool (decide (a = b))) := by simp [abin, intOp]
theorem Zdv {k : IntKind} {a b : Int} : abin .neq (.int k a) (.int k b) = some (.bool (!decide (a = b))) := by simp [abin, intOp]
theorem Zdw {k : IntKind} {a b : Int} : abin .lss (.int k a) (.int k b) = some (.bool (decide (a < b))) := by simp [abin, intOp]
theorem Zdx {k : IntKind} {a b : Int} : abin .leq (.int k a) (.int k b) = some (.bool (decide (a ≤ b))) := by simp [abin, intOp]
theorem Zdy {k : IntKind} {a b : Int} : abin .gtr (.int k a) (.int k b) = some (.bool (decide (b < a))) := by simp [abin, intOp]
theorem Zdz {k : IntKind} {a b : Int} : abin .geq (.int k a) (.int k b) = some (.bool (decide (b ≤ a))) := by simp [abin, intOp]
/-! ### A function's end -/
def fK (R : Value → Heap → Prop) (H : Heap) : Option (List Value) → Prop
  | some vs => R (one_ vs) H
  | none => False
def rK : Option Value → Option (List Value) → Option (List Value)
  | some v, some vs => some (v :: vs)
  | _, _ => none
def fst_ : Option (Value × Heap) → Option Value
  | some p => some p.1
  | none => none
theorem Zet {R : Value → Heap → Prop} {vs : List Value} : fK R H (some vs) = R (one_ vs) H := nofl rfl
theorem Zeu {v : Value} {vs : List Value} : rK (some v) (some vs) = some (v :: vs) := nofl rfl
theorem Zev {v : Value} {H' : Heap} : fst_ (some (v, H')) = some v := nofl rfl
theorem Zew : resAll T H [] = some [] := nofl rfl
theorem Zex {r : XRes} {rs : List XRes} : resAll T H (r :: rs) = rK (res1 T H r) (resAll T H rs) := by
  simp only [resAll]
  cases res1 T H r <;> cases resAll T H rs <;> rfl
theorem Zey {t : Nat} : res1 T H (.tmp t) = if noTup (T t) = true then some (T t) else none := nofl rfl
theorem Zez {t : Nat} : res1 T H (.cell1 t) = fst_ (vld1 H (T t)) := by
  simp only [res1, step_load1, Zbe]
  cases vld1 H (T t) <;> rfl
theorem Zfa {t n : Nat} : res1 T H (.cellN t n) = fst_ (vldN H n (T t)) := by
  simp only [res1, step_loadN, Zbe]
  cases vldN H n (T t) <;> rfl
theorem Zfc {v : Value} : one_ [v] = v := nofl rfl
theorem Zfb : one_ [] = .tuple #[] := nofl rfl
theorem Zfd {a b : Value} : one_ [a, b] = .tuple #[a, b] := nofl rfl
theorem Zfe {a b c : Value} : one_ [a, b, c] = .tuple #[a, b, c] := nofl rfl
theorem Zer {rs : List XRes} {R : Value → Heap → Prop} : Fin rs R .rt T H = fK R H (resAll T H rs) := by
  simp only [Fin, true_and]
  cases resAll T H rs with
  | none => simp [fK]
  | some vs => simp [fK]
theorem Zes {rs : List XRes} {R : Value → Heap → Prop} : Fin rs R .nrm T H = fK R H (resAll T H rs) := by
  simp only [Fin, true_and]
  cases resAll T H rs with
  | none => simp [fK]
  | some vs => simp [fK]
theorem Zea {k : IntKind} {n : Int} : noTup (.int k n) = true := nofl rfl
theorem Zeh {k : IntKind} {n : Int} : vcells (.int k n) = [.int k n] := nofl rfl
theorem Zeb {b : Bool} : noTup (.bool b) = true := nofl rfl
theorem Zei {b : Bool} : vcells (.bool b) = [.bool b] := nofl rfl
theorem Zec {k : FloatKind} {b : Nat} : noTup (.float k b) = true := nofl rfl
theorem Zej {k : FloatKind} {b : Nat} : vcells (.float k b) = [.float k b] := nofl rfl
theorem Zed {s : ByteArray} : noTup (.string s) = true := nofl rfl
theorem Zek {s : ByteArray} : vcells (.string s) = [.string s] := nofl rfl
theorem Zee {a : Option Addr} {l c : Nat} : noTup (.slice a l c) = true := nofl rfl
theorem Zel {a : Option Addr} {l c : Nat} : vcells (.slice a l c) = [.slice a l c] := nofl rfl
theorem Zef {a : Option Addr} : noTup (.pointer a) = true := nofl rfl
theorem Zem {a : Option Addr} : vcells (.pointer a) = [.pointer a] := nofl rfl
theorem Zeg {xs : Array Value} : noTup (.agg xs) = true := nofl rfl
theorem Zen {xs : Array Value} : vcells (.agg xs) = xs.toList := nofl rfl
theorem Zeo {i o : Nat} : noTup (ptr i o) = true := nofl rfl
theorem Zep {i o : Nat} : vcells (ptr i o) = [ptr i o] := nofl rfl
theorem Zfg {a b : Nat} (h : a ≠ b) : (a = b) = False := eq_false h
theorem wrap64 {n : Int} (h1 : -9223372036854775808 ≤ n) (h2 : n ≤ 9223372036854775807) : IntKind.i64.wrap n = n := by
  have e1 : (2 : Int) ^ IntKind.i64.bits = 18446744073709551616 := by decide
  have e2 : (2 : Int) ^ (IntKind.i64.bits - 1) = 9223372036854775808 := by decide
  unfold IntKind.wrap
  simp only [e1, e2, IntKind.signed, Bool.true_and, decide_eq_true_eq]
  split <;> omega
end
end Go.Proofs.Ytkadelndmaegdaa.AX
