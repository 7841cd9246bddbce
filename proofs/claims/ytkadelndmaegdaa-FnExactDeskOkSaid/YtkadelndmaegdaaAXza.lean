/- Stepping regions of open order whose operations have no order to each other. No condition beyond each law's own; nothing of the program. -/
import Derived.Test.YtkadelndmaegdaaAXz
namespace Go.Proofs.Ytkadelndmaegdaa.AX
open Go
section
variable {C : CallRel} {ks : List Fr} {Q : XE → Tm → Heap → Prop} {T : Tm} {H : Heap} {os : List XO} {d : Option Nat} {pre : List (List Nat)} {ix : Nat} {tr : List Tr}
def dK (C : CallRel) (pre : List (List Nat)) (i : Nat) (d : Option Nat) (op : XOp) (os : List XO) (tr : List Tr) (ks : List Fr) (Q : XE → Tm → Heap → Prop) (T : Tm) (H : Heap) (r : Option (Value × Heap)) : Prop := match r with
  | some p => GD C pre (i + 1) os (trOf i T H p.2 op ++ tr) ks Q (put T d p.1) p.2
  | none => False
theorem Zft {op : XOp} {v : Value} {H' : Heap} : dK C pre ix d op os tr ks Q T H (some (v, H')) = GD C pre (ix + 1) os (trOf ix T H H' op ++ tr) ks Q (put T d v) H' := nofl rfl
theorem GD_op {op : XOp} (h : isCall op = false) : GD C pre ix (⟨d, op, none⟩ :: os) tr ks Q T H = dK C pre ix d op os tr ks Q T H (step T H op) := by
  cases op <;> simp only [isCall, reduceCtorEq] at h <;> simp only [GD, Dops, wanted, if_true, Op1, dK] <;> rfl
theorem Zfu : GD C pre ix [] tr ks Q T H = (stable pre tr ∧ GX C .nrm ks Q T H) := nofl rfl
theorem GD_call {P : Program} {f : FuncId} {xs : List XArg} (h : Run P f (xs.map (ev T)) H fun v H' => GD (CR P) pre (ix + 1) os (.E ix H H' :: tr) ks Q (put T d v) H') : GD (CR P) pre ix (⟨d, .call f xs, none⟩ :: os) tr ks Q T H := by
  obtain ⟨v, H', h1, h2⟩ := h
  exact ⟨v, H', h1, h2⟩
theorem GD_calld {P : Program} {x : XArg} {f : FuncId} {cs : Array Value} {xs : List XArg} (e : ev T x = .func (.func f) #[] cs) (h : Run P f (xs.map (ev T) ++ cs.toList) H fun v H' => GD (CR P) pre (ix + 1) os (.E ix H H' :: tr) ks Q (put T d v) H') : GD (CR P) pre ix (⟨d, .calld x xs, none⟩ :: os) tr ks Q T H := by
  obtain ⟨v, H', h1, h2⟩ := h
  exact ⟨f, cs, e, v, H', h1, h2⟩
def dgK (C : CallRel) (pre : List (List Nat)) (i : Nat) (v : Value) (w : Bool) (d : Option Nat) (op : XOp) (os : List XO) (tr : List Tr) (ks : List Fr) (Q : XE → Tm → Heap → Prop) (T : Tm) (H : Heap) : Prop :=
  if (match v with | .bool b => b == w | _ => false) = true then GD C pre i (⟨d, op, none⟩ :: os) tr ks Q T H else GD C pre (i + 1) os tr ks Q (put T d undef) H
theorem Zfv {op : XOp} {t : Nat} {w : Bool} : GD C pre ix (⟨d, op, some (t, w)⟩ :: os) tr ks Q T H = dgK C pre ix (T t) w d op os tr ks Q T H := by
  simp only [GD, dgK, Dops, wanted]
  rfl
theorem Zfw {op : XOp} : dgK C pre ix (.bool true) true d op os tr ks Q T H = GD C pre ix (⟨d, op, none⟩ :: os) tr ks Q T H := by simp [dgK]
theorem Zfx {op : XOp} : dgK C pre ix (.bool true) false d op os tr ks Q T H = GD C pre (ix + 1) os tr ks Q (put T d undef) H := by simp [dgK]
theorem Zfy {op : XOp} : dgK C pre ix (.bool false) true d op os tr ks Q T H = GD C pre (ix + 1) os tr ks Q (put T d undef) H := by simp [dgK]
theorem Zfz {op : XOp} : dgK C pre ix (.bool false) false d op os tr ks Q T H = GD C pre ix (⟨d, op, none⟩ :: os) tr ks Q T H := by simp [dgK]
theorem Zga {op : XOp} {w : Bool} : dgK C pre ix undef w d op os tr ks Q T H = GD C pre (ix + 1) os tr ks Q (put T d undef) H := by simp [dgK, undef]
theorem Zgb {x : XArg} : GD C pre ix (⟨d, (.mov x), none⟩ :: os) tr ks Q T H = dK C pre ix d (.mov x) os tr ks Q T H (some (ev T x, H)) := by rw [GD_op rfl, step_mov]
theorem Zgc {c a b : XArg} : GD C pre ix (⟨d, (.pick c a b), none⟩ :: os) tr ks Q T H = dK C pre ix d (.pick c a b) os tr ks Q T H (vpick H (ev T a) (ev T b) (ev T c)) := by rw [GD_op rfl, step_pick]
theorem Zgd {zs : List Value} : GD C pre ix (⟨d, (.new zs), none⟩ :: os) tr ks Q T H = dK C pre ix d (.new zs) os tr ks Q T H (some (ptr H.nxt 0, H.push zs)) := by rw [GD_op rfl, step_new]
theorem Zge {x : XArg} : GD C pre ix (⟨d, (.box x), none⟩ :: os) tr ks Q T H = dK C pre ix d (.box x) os tr ks Q T H (vbox H (ev T x)) := by rw [GD_op rfl, step_box]
theorem Zgf {zs : List Value} {ps : List (Nat × Nat × XArg)} : GD C pre ix (⟨d, (.agg zs ps), none⟩ :: os) tr ks Q T H = dK C pre ix d (.agg zs ps) os tr ks Q T H (vagg H (Zeq zs (ps.map fun p => (p.1, p.2.1, ev T p.2.2)))) := by rw [GD_op rfl, step_agg]
theorem Zgg {sz len : Nat} {zs : List Value} {ps : List (Nat × Nat × XArg)} : GD C pre ix (⟨d, (.bsl sz len zs ps), none⟩ :: os) tr ks Q T H = dK C pre ix d (.bsl sz len zs ps) os tr ks Q T H (vbsl H sz len (Zeq zs (ps.map fun p => (p.1, p.2.1, ev T p.2.2)))) := by rw [GD_op rfl, step_bsl]
theorem Zgh {p : XArg} : GD C pre ix (⟨d, (.load1 p), none⟩ :: os) tr ks Q T H = dK C pre ix d (.load1 p) os tr ks Q T H (vld1 H (ev T p)) := by rw [GD_op rfl, step_load1]
theorem Zgi {n : Nat} {p : XArg} : GD C pre ix (⟨d, (.loadN n p), none⟩ :: os) tr ks Q T H = dK C pre ix d (.loadN n p) os tr ks Q T H (vldN H n (ev T p)) := by rw [GD_op rfl, step_loadN]
theorem Zgj {n : Nat} {p x : XArg} : GD C pre ix (⟨d, (.store n p x), none⟩ :: os) tr ks Q T H = dK C pre ix d (.store n p x) os tr ks Q T H (vst H n (ev T x) (ev T p)) := by rw [GD_op rfl, step_store]
theorem Zgk {x : XArg} : GD C pre ix (⟨d, (.nilc x), none⟩ :: os) tr ks Q T H = dK C pre ix d (.nilc x) os tr ks Q T H (vnil H (ev T x)) := by rw [GD_op rfl, step_nilc]
theorem Zgl {op : BinOp} {x y : XArg} : GD C pre ix (⟨d, (.bin op x y), none⟩ :: os) tr ks Q T H = dK C pre ix d (.bin op x y) os tr ks Q T H (vval H (abin op (ev T x) (ev T y))) := by rw [GD_op rfl, step_bin]
theorem Zgm {ng : Bool} {x y : XArg} : GD C pre ix (⟨d, (.binB ng x y), none⟩ :: os) tr ks Q T H = dK C pre ix d (.binB ng x y) os tr ks Q T H (vbinB H ng (ev T x) (ev T y)) := by rw [GD_op rfl, step_binB]
theorem Zgn {op : UnOp} {x : XArg} : GD C pre ix (⟨d, (.un op x), none⟩ :: os) tr ks Q T H = dK C pre ix d (.un op x) os tr ks Q T H (vval H (aun op (ev T x))) := by rw [GD_op rfl, step_un]
theorem Zgo {k : IntKind} {x : XArg} : GD C pre ix (⟨d, (.toInt k x), none⟩ :: os) tr ks Q T H = dK C pre ix d (.toInt k x) os tr ks Q T H (vtoInt H k (ev T x)) := by rw [GD_op rfl, step_toInt]
theorem Zgp {k : FloatKind} {x : XArg} : GD C pre ix (⟨d, (.toFlt k x), none⟩ :: os) tr ks Q T H = dK C pre ix d (.toFlt k x) os tr ks Q T H (vtoFlt H k (ev T x)) := by rw [GD_op rfl, step_toFlt]
theorem Zgq {k : FloatKind} {x : XArg} : GD C pre ix (⟨d, (.fltOf k x), none⟩ :: os) tr ks Q T H = dK C pre ix d (.fltOf k x) os tr ks Q T H (vfltOf H k (ev T x)) := by rw [GD_op rfl, step_fltOf]
theorem Zgr {sz bytes : Nat} {z : List Value} {l c : XArg} : GD C pre ix (⟨d, (.mks sz bytes z l c), none⟩ :: os) tr ks Q T H = dK C pre ix d (.mks sz bytes z l c) os tr ks Q T H (vmks H sz bytes z (ev T l) (ev T c)) := by rw [GD_op rfl, step_mks]
theorem Zgs {off : Nat} {x : XArg} : GD C pre ix (⟨d, (.fad off x), none⟩ :: os) tr ks Q T H = dK C pre ix d (.fad off x) os tr ks Q T H (vfad H off (ev T x)) := by rw [GD_op rfl, step_fad]
theorem Zgt {off : Nat} {x : XArg} : GD C pre ix (⟨d, (.fdv1 off x), none⟩ :: os) tr ks Q T H = dK C pre ix d (.fdv1 off x) os tr ks Q T H (vfdv1 H off (ev T x)) := by rw [GD_op rfl, step_fdv1]
theorem Zgu {off n : Nat} {x : XArg} : GD C pre ix (⟨d, (.fdvN off n x), none⟩ :: os) tr ks Q T H = dK C pre ix d (.fdvN off n x) os tr ks Q T H (vfdvN H off n (ev T x)) := by rw [GD_op rfl, step_fdvN]
theorem Zgv {sz : Nat} {x i : XArg} : GD C pre ix (⟨d, (.idx sz x i), none⟩ :: os) tr ks Q T H = dK C pre ix d (.idx sz x i) os tr ks Q T H (vidx H sz (ev T x) (ev T i)) := by rw [GD_op rfl, step_idx]
theorem GD_aidx {len sz : Nat} {x i : XArg} : GD C pre ix (⟨d, (.aidx len sz x i), none⟩ :: os) tr ks Q T H = dK C pre ix d (.aidx len sz x i) os tr ks Q T H (vaidx H len sz (ev T x) (ev T i)) := by rw [GD_op rfl, step_aidx]
theorem Zgw {i : Nat} {x : XArg} : GD C pre ix (⟨d, (.ext i x), none⟩ :: os) tr ks Q T H = dK C pre ix d (.ext i x) os tr ks Q T H (vext H i (ev T x)) := by rw [GD_op rfl, step_ext]
theorem Zgx {x : XArg} : GD C pre ix (⟨d, (.len x), none⟩ :: os) tr ks Q T H = dK C pre ix d (.len x) os tr ks Q T H (vlen H (ev T x)) := by rw [GD_op rfl, step_len]
theorem Zgy {x : XArg} : GD C pre ix (⟨d, (.lenS x), none⟩ :: os) tr ks Q T H = dK C pre ix d (.lenS x) os tr ks Q T H (vlenS H (ev T x)) := by rw [GD_op rfl, step_lenS]
theorem Zgz {mx : Bool} {x y : XArg} : GD C pre ix (⟨d, (.mm mx x y), none⟩ :: os) tr ks Q T H = dK C pre ix d (.mm mx x y) os tr ks Q T H (vmm H mx (ev T x) (ev T y)) := by rw [GD_op rfl, step_mm]
theorem Zha {sz : Nat} {x : XArg} {lo hi mx : Option XArg} : GD C pre ix (⟨d, (.slc sz x lo hi mx), none⟩ :: os) tr ks Q T H = dK C pre ix d (.slc sz x lo hi mx) os tr ks Q T H (vslc H sz (evO T lo) (evO T hi) (evO T mx) (ev T x)) := by rw [GD_op rfl, step_slc]
theorem GD_b2s {x : XArg} : GD C pre ix (⟨d, (.b2s x), none⟩ :: os) tr ks Q T H = dK C pre ix d (.b2s x) os tr ks Q T H (vb2s H (ev T x)) := by rw [GD_op rfl, step_b2s]
theorem GD_cmp {neg : Bool} {offs : List (Nat × Nat)} {x y : XArg} : GD C pre ix (⟨d, (.cmp neg offs x y), none⟩ :: os) tr ks Q T H = dK C pre ix d (.cmp neg offs x y) os tr ks Q T H (vcmp H neg offs (ev T x) (ev T y)) := by rw [GD_op rfl, step_cmp]
theorem trOf_cmp {H' : Heap} {neg : Bool} {offs : List (Nat × Nat)} {x y : XArg} : trOf ix T H H' (.cmp neg offs x y) = [] := nofl rfl
def trS (i : Nat) : Value → List Tr
  | .slice (some ⟨x, _, none⟩) _ _ => [.L i x]
  | _ => []
theorem trOf_b2s {H' : Heap} {x : XArg} : trOf ix T H H' (.b2s x) = trS ix (ev T x) := nofl rfl
def trL (i : Nat) : Value → List Tr
  | .pointer (some ⟨x, _, none⟩) => [.L i x]
  | _ => []
theorem Zhf {x o : Nat} : trL ix (ptr x o) = [.L ix x] := nofl rfl
theorem Zhb {H' : Heap} {p : XArg} : trOf ix T H H' (.load1 p) = trL ix (ev T p) := nofl rfl
theorem Zhc {H' : Heap} {n : Nat} {p : XArg} : trOf ix T H H' (.loadN n p) = trL ix (ev T p) := nofl rfl
theorem Zhd {H' : Heap} {n : Nat} {p x : XArg} : trOf ix T H H' (.store n p x) = [.E ix H H'] := nofl rfl
theorem Zhe {H' : Heap} {n b : Nat} {p x : XArg} : trOf ix T H H' (.app n b p x) = [.E ix H H'] := nofl rfl
theorem Zhg {H' : Heap} {x : XArg} : trOf ix T H H' (.mov x) = [] := nofl rfl
theorem Zhh {H' : Heap} {c a b : XArg} : trOf ix T H H' (.pick c a b) = [] := nofl rfl
theorem Zhi {H' : Heap} {zs : List Value} : trOf ix T H H' (.new zs) = [.A ix H.nxt] := nofl rfl
theorem Zhj {H' : Heap} {x : XArg} : trOf ix T H H' (.box x) = [.A ix H.nxt] := nofl rfl
theorem Zhk {H' : Heap} {zs : List Value} {ps : List (Nat × Nat × XArg)} : trOf ix T H H' (.agg zs ps) = [] := nofl rfl
theorem Zhl {H' : Heap} {sz len : Nat} {zs : List Value} {ps : List (Nat × Nat × XArg)} : trOf ix T H H' (.bsl sz len zs ps) = [.A ix H.nxt] := nofl rfl
theorem Zhm {H' : Heap} {x : XArg} : trOf ix T H H' (.nilc x) = [] := nofl rfl
theorem Zhn {H' : Heap} {op : BinOp} {x y : XArg} : trOf ix T H H' (.bin op x y) = [] := nofl rfl
theorem Zho {H' : Heap} {ng : Bool} {x y : XArg} : trOf ix T H H' (.binB ng x y) = [] := nofl rfl
theorem Zhp {H' : Heap} {op : UnOp} {x : XArg} : trOf ix T H H' (.un op x) = [] := nofl rfl
theorem Zhq {H' : Heap} {k : IntKind} {x : XArg} : trOf ix T H H' (.toInt k x) = [] := nofl rfl
theorem Zhr {H' : Heap} {k : FloatKind} {x : XArg} : trOf ix T H H' (.toFlt k x) = [] := nofl rfl
theorem Zhs {H' : Heap} {k : FloatKind} {x : XArg} : trOf ix T H H' (.fltOf k x) = [] := nofl rfl
theorem Zht {H' : Heap} {sz bytes : Nat} {z : List Value} {l c : XArg} : trOf ix T H H' (.mks sz bytes z l c) = [.A ix H.nxt] := nofl rfl
theorem Zhu {H' : Heap} {off : Nat} {x : XArg} : trOf ix T H H' (.fad off x) = [] := nofl rfl
theorem Zhv {H' : Heap} {off : Nat} {x : XArg} : trOf ix T H H' (.fdv1 off x) = [] := nofl rfl
theorem Zhw {H' : Heap} {off n : Nat} {x : XArg} : trOf ix T H H' (.fdvN off n x) = [] := nofl rfl
theorem Zhx {H' : Heap} {sz : Nat} {x i : XArg} : trOf ix T H H' (.idx sz x i) = [] := nofl rfl
theorem trOf_aidx {H' : Heap} {len sz : Nat} {x i : XArg} : trOf ix T H H' (.aidx len sz x i) = [] := nofl rfl
theorem Zhy {H' : Heap} {i : Nat} {x : XArg} : trOf ix T H H' (.ext i x) = [] := nofl rfl
theorem Zhz {H' : Heap} {x : XArg} : trOf ix T H H' (.len x) = [] := nofl rfl
theorem Zia {H' : Heap} {x : XArg} : trOf ix T H H' (.lenS x) = [] := nofl rfl
theorem Zib {H' : Heap} {mx : Bool} {x y : XArg} : trOf ix T H H' (.mm mx x y) = [] := nofl rfl
theorem Zic {H' : Heap} {sz : Nat} {x : XArg} {lo hi mx : Option XArg} : trOf ix T H H' (.slc sz x lo hi mx) = [] := nofl rfl
end
theorem Zid {pre : List (List Nat)} : stable pre [] = True := nofl rfl
theorem Zie {pre : List (List Nat)} {t : Tr} {tr : List Tr} : stable pre (t :: tr) = (agreesAll pre t tr ∧ stable pre tr) := nofl rfl
theorem all_nil {pre : List (List Nat)} {t : Tr} : agreesAll pre t [] = True := nofl rfl
theorem all_cons {pre : List (List Nat)} {t u : Tr} {us : List Tr} : agreesAll pre t (u :: us) = (agrees pre t u ∧ agreesAll pre t us) := nofl rfl
theorem Zif {pre : List (List Nat)} {i x j y : Nat} : agrees pre (.L i x) (.L j y) = True := nofl rfl
theorem Zig {pre : List (List Nat)} {i j : Nat} {H H' H1 H2 : Heap} : agrees pre (.E i H H') (.E j H1 H2) = True := nofl rfl
theorem Zih {pre : List (List Nat)} {i x j y : Nat} : agrees pre (.A i x) (.A j y) = True := nofl rfl
theorem Zii {pre : List (List Nat)} {i x j : Nat} {H H' : Heap} : agrees pre (.A i x) (.E j H H') = True := nofl rfl
theorem Zij {pre : List (List Nat)} {i x j : Nat} {H H' : Heap} : agrees pre (.E j H H') (.A i x) = True := nofl rfl
theorem Zik {pre : List (List Nat)} {i x j : Nat} {H H' : Heap} : agrees pre (.L i x) (.E j H H') = Zio pre i x j H H' := nofl rfl
theorem Zil {pre : List (List Nat)} {i x j : Nat} {H H' : Heap} : agrees pre (.E j H H') (.L i x) = Zio pre i x j H H' := nofl rfl
theorem Zim {pre : List (List Nat)} {i x j y : Nat} : agrees pre (.L i x) (.A j y) = Zip pre i x j y := nofl rfl
theorem Zin {pre : List (List Nat)} {i x j y : Nat} : agrees pre (.A j y) (.L i x) = Zip pre i x j y := nofl rfl
end Go.Proofs.Ytkadelndmaegdaa.AX
