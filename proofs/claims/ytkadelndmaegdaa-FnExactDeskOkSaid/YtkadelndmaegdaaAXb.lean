/- The executor: its operations, what each does to the abstract heap, and how it is made of the model's code. Definitions alone; no condition; nothing of the program. -/
import Derived.Test.YtkadelndmaegdaaAXa
import Derived.Laws.BytesArg
namespace Go.Proofs.Ytkadelndmaegdaa.AX

inductive XArg where
  | tmp (t : Nat)
  | const (v : Value)
inductive XOp where
  | mov (x : XArg)
  | pick (c a b : XArg)
  | new (zs : List Value)
  | box (x : XArg)
  | agg (zs : List Value) (ps : List (Nat × Nat × XArg))
  | bsl (sz len : Nat) (zs : List Value) (ps : List (Nat × Nat × XArg))
  | load1 (p : XArg)
  | loadN (n : Nat) (p : XArg)
  | store (n : Nat) (p x : XArg)
  | nilc (x : XArg)
  | bin (op : BinOp) (x y : XArg)
  | binB (neg : Bool) (x y : XArg)
  | cmp (neg : Bool) (offs : List (Nat × Nat)) (x y : XArg)
  | un (op : UnOp) (x : XArg)
  | toInt (k : IntKind) (x : XArg)
  | toFlt (k : FloatKind) (x : XArg)
  | fltOf (k : FloatKind) (x : XArg)
  | mks (sz bytes : Nat) (z : List Value) (l c : XArg)
  | slc (sz : Nat) (x : XArg) (lo hi mx : Option XArg)
  | sstr (x : XArg) (lo hi : Option XArg)
  | fad (off : Nat) (x : XArg)
  | fdv1 (off : Nat) (x : XArg)
  | fdvN (off n : Nat) (x : XArg)
  | idx (sz : Nat) (x i : XArg)
  | sidx (x i : XArg)
  | ext (i : Nat) (x : XArg)
  | len (x : XArg)
  | lenS (x : XArg)
  | app (sz bytes : Nat) (s x : XArg)
  | mm (mx : Bool) (x y : XArg)
  | call (f : FuncId) (args : List XArg)
  | clo (f : FuncId) (caps : List XArg)
  | b2s (x : XArg)
  | calld (x : XArg) (args : List XArg)
  | aidx (len sz : Nat) (x i : XArg)
structure XO where
  dst : Option Nat
  op : XOp
  guard : Option (Nat × Bool)
abbrev Tm := Nat → Value
def upd (T : Tm) (d : Nat) (v : Value) : Tm := fun t => if t = d then v else T t
def put (T : Tm) (d : Option Nat) (v : Value) : Tm := match d with | some d => upd T d v | none => T
def ev (T : Tm) : XArg → Value
  | .tmp t => T t
  | .const v => v
def vcells : Value → List Value
  | .agg cs => cs.toList
  | v => [v]
/-- The cells from o on are vs now. -/
def wr (cs : List Value) (o : Nat) (vs : List Value) : List Value := cs.take o ++ vs ++ cs.drop (o + vs.length)
def noTup : Value → Bool
  | .tuple _ => false
  | .func _ _ c => c.isEmpty
  | _ => true
def Zeq : List Value → List (Nat × Nat × Value) → Option (List Value)
  | cs, [] => some cs
  | cs, (off, size, v) :: ps => if noTup v = true ∧ (vcells v).length = size ∧ off + size ≤ cs.length then Zeq (wr cs off (vcells v)) ps else none
def oneCell : Value → Bool
  | .agg _ | .tuple _ => false
  | .func _ _ c => c.isEmpty
  | _ => true
def intOp (op : BinOp) (k : IntKind) (a b : Int) : Option Value :=
  match op with
  | .add => some (.int k (k.wrap (a + b)))
  | .sub => some (.int k (k.wrap (a - b)))
  | .mul => some (.int k (k.wrap (a * b)))
  | .quo => if b = 0 then none else some (.int k (k.wrap (a.tdiv b)))
  | .rem => if b = 0 then none else some (.int k (a.tmod b))
  | .and => some (.int k (k.wrap (BitVec.ofInt k.bits a &&& BitVec.ofInt k.bits b).toNat))
  | .or => some (.int k (k.wrap (BitVec.ofInt k.bits a ||| BitVec.ofInt k.bits b).toNat))
  | .xor => some (.int k (k.wrap (BitVec.ofInt k.bits a ^^^ BitVec.ofInt k.bits b).toNat))
  | .eql => some (.bool (decide (a = b)))
  | .neq => some (.bool (!decide (a = b)))
  | .lss => some (.bool (decide (a < b)))
  | .leq => some (.bool (decide (a ≤ b)))
  | .gtr => some (.bool (decide (b < a)))
  | .geq => some (.bool (decide (b ≤ a)))
  | _ => none
/-- A NaN's bits. -/
def nanOf : FloatKind → Nat
  | .f32 => 0x7fc00000
  | .f64 => 0x7ff8000000000000
def fltOp (op : BinOp) (k : FloatKind) (a b : Nat) : Option Value :=
  match op with
  | .add => some (.float k ((k.format.add a b).getD (nanOf k)))
  | .sub => some (.float k ((k.format.sub a b).getD (nanOf k)))
  | .mul => some (.float k ((k.format.mul a b).getD (nanOf k)))
  | .quo => some (.float k ((k.format.div a b).getD (nanOf k)))
  | .eql => some (.bool (k.format.order a b == some .eq))
  | .neq => some (.bool (k.format.order a b != some .eq))
  | .lss => some (.bool (k.format.order a b == some .lt))
  | .leq => some (.bool (k.format.order a b == some .lt || k.format.order a b == some .eq))
  | .gtr => some (.bool (k.format.order a b == some .gt))
  | .geq => some (.bool (k.format.order a b == some .gt || k.format.order a b == some .eq))
  | _ => none
def strOp (op : BinOp) (a b : ByteArray) : Option Value :=
  match op with
  | .add => if a.size + b.size ≤ 9223372036854775807 then some (.string (a ++ b)) else none
  | .eql => some (.bool (a.toList == b.toList))
  | .neq => some (.bool (!(a.toList == b.toList)))
  | _ => none
def abin (op : BinOp) : Value → Value → Option Value
  | .int k a, .int k' b =>
    if op = .shl then (if b < 0 then none else some (.int k (k.wrap (a * 2 ^ min b.toNat k.bits))))
    else if op = .shr then (if b < 0 then none else some (.int k (a.fdiv (2 ^ min b.toNat k.bits))))
    else if k = k' then intOp op k a b else none
  | .float k a, .float k' b => if k = k' then fltOp op k a b else none
  | .string a, .string b => strOp op a b
  | _, _ => none
/-- Two cells of a plain kind (0: bool, 1: whole numbers, 2: strings), held against each other. -/
def ceq : Nat → Value → Value → Option Bool
  | 1, .int k a, .int k' b => if k = k' then some (decide (a = b)) else none
  | 0, .bool a, .bool b => some (a == b)
  | 2, .string a, .string b => some (a.toList == b.toList)
  | _, _, _ => none
def ceqs (xs ys : Array Value) : List (Nat × Nat) → Option Bool
  | [] => some true
  | o :: os => match xs[o.1]?, ys[o.1]? with
    | some a, some b => match ceq o.2 a b with
      | some true => ceqs xs ys os
      | some false => some false
      | none => none
    | _, _ => none
/-- The functions without a body that are known: how often bytes hold a byte, and where first. -/
def extName (cn : Bool) : String := if cn then "internal/bytealg.Count" else "internal/bytealg.IndexByte"
def extKnown (fn : Func) : Bool := fn.body.isNone && (Extern.findNext fn).isNone && (fn.name == extName true || fn.name == extName false)
def bsea (cn : Bool) (s : ByteArray) (c : UInt8) : Int :=
  if cn then s.foldl (fun n x => if x == c then n + 1 else n) ((0 : Nat) : Int)
  else match (List.range s.size).find? fun i => s[i]! == c with
    | some i => (i : Int)
    | none => -1
/-- The numbers of bytes. -/
def byteVs : List Value → Option (List Int)
  | [] => some []
  | .int .u8 z :: vs => (byteVs vs).map (z :: ·)
  | _ => none
/-- The bytes that a slice holds, as a string. -/
def byts (H : Heap) : Value → Option ByteArray
  | .slice none 0 0 => some .empty
  | .slice (some ⟨i, o, none⟩) n sz => if n = 0 then some .empty else match H.get i with
    | some ob => if sz = 1 ∧ o + n ≤ ob.cells.length then (byteVs ((ob.cells.drop o).take n)).map strOfNums else none
    | none => none
  | _ => none
def aun (op : UnOp) : Value → Option Value
  | .bool b => match op with | .not => some (.bool (!b)) | _ => none
  | .int k n => match op with | .neg => some (.int k (k.wrap (0 - n))) | _ => none
  | _ => none
def bound (T : Tm) (x : XArg) (y : Nat) : Option Nat :=
  match ev T x with
  | .int _ i => if 0 ≤ i ∧ i ≤ y then some i.toNat else none
  | _ => none
def bounds (T : Tm) (len cap : Nat) (lo hi mx : Option XArg) : Option (Nat × Nat × Nat) :=
  (match mx with | some v => bound T v cap | none => some cap).bind fun m =>
  (match hi with | some v => bound T v (match mx with | some _ => m | none => cap) | none => (match mx with | some _ => none | none => some len)).bind fun h =>
  (match lo with | some v => bound T v h | none => some 0).bind fun l => some (l, h, m)
/-- What an operation other than a call does: the value that it yields, and the heap behind it. -/
def step (T : Tm) (H : Heap) : XOp → Option (Value × Heap)
  | .mov x => some (ev T x, H)
  | .pick c a b => match ev T c with | .bool t => some (if t = true then ev T a else ev T b, H) | _ => none
  | .new zs => some (.pointer (some ⟨H.nxt, 0, none⟩), H.push zs)
  | .box x => if noTup (ev T x) = true then some (.pointer (some ⟨H.nxt, 0, none⟩), H.push (vcells (ev T x))) else none
  | .agg zs ps => (Zeq zs (ps.map fun p => (p.1, p.2.1, ev T p.2.2))).map fun cs => (.agg cs.toArray, H)
  | .bsl sz len zs ps => (Zeq zs (ps.map fun p => (p.1, p.2.1, ev T p.2.2))).map fun cs => (.slice (some ⟨H.nxt, 0, none⟩) len sz, H.push cs)
  | .load1 p => match ev T p with
    | .pointer (some ⟨i, o, none⟩) => match H.get i with
      | some ob => match ob.cells[o]? with
        | some v => some (v, H)
        | none => none
      | none => none
    | _ => none
  | .loadN n p => match ev T p with
    | .pointer (some ⟨i, o, none⟩) => match H.get i with
      | some ob => if o + n ≤ ob.cells.length then some (.agg ((ob.cells.drop o).take n).toArray, H) else none
      | none => none
    | _ => none
  | .store n p x => match ev T p with
    | .pointer (some ⟨i, o, none⟩) => match H.get i with
      | some (.own cs) => if noTup (ev T x) = true ∧ (vcells (ev T x)).length = n ∧ o + n ≤ cs.length then some (undef, H.set i (wr cs o (vcells (ev T x)))) else none
      | _ => none
    | _ => none
  | .nilc x => match ev T x with | .pointer (some a) => some (.pointer (some a), H) | _ => none
  | .bin op x y => (abin op (ev T x) (ev T y)).map fun v => (v, H)
  | .binB neg x y => match ev T x, ev T y with | .bool a, .bool b => some (.bool (if neg then !(a == b) else a == b), H) | _, _ => none
  | .b2s x => (byts H (ev T x)).map fun s => (.string s, H)
  | .cmp neg offs x y => match ev T x, ev T y with
    | .agg xs, .agg ys => (ceqs xs ys offs).map fun b => (.bool (b != neg), H)
    | _, _ => none
  | .un op x => (aun op (ev T x)).map fun v => (v, H)
  | .toInt k x => match ev T x with | .int _ n => some (.int k (k.wrap n), H) | _ => none
  | .toFlt k x => match ev T x with | .int _ n => some (.float k (k.nearest n), H) | _ => none
  | .fltOf k x => match ev T x with | .float k' b => if k' = k then some (.float k' b, H) else none | _ => none
  | .mks sz bytes z l c => match ev T l, ev T c with
    | .int .i64 l, .int .i64 c => if 0 ≤ l ∧ l ≤ c ∧ c ≤ 9223372036854775807 ∧ (bytes : Int) * c ≤ 140737488355328 then some (.slice (some ⟨H.nxt, 0, none⟩) l.toNat sz, H.push ((List.replicate l.toNat z).flatten)) else none
    | _, _ => none
  | .slc sz x lo hi mx => match ev T x with
    | .slice (some ⟨i, o, none⟩) n sz' => if sz' = sz then (bounds T n n lo hi mx).map fun (l, h, _) => (.slice (some ⟨i, o + l * sz, none⟩) (h - l) sz, H) else none
    | .slice none 0 0 => (bounds T 0 0 lo hi mx).map fun _ => (.slice none 0 0, H)
    | _ => none
  | .sstr x lo hi => match ev T x with
    | .string s => (bounds T s.size s.size lo hi none).map fun (l, h, _) => (.string (s.extract l h), H)
    | _ => none
  | .fad off x => match ev T x with | .pointer (some ⟨i, o, none⟩) => some (.pointer (some ⟨i, o + off, none⟩), H) | _ => none
  | .fdv1 off x => match ev T x with
    | .agg cs => match cs[off]? with
      | some v => some (v, H)
      | none => none
    | _ => none
  | .fdvN off n x => match ev T x with | .agg cs => some (.agg ((cs.toList.drop off).take n).toArray, H) | _ => none
  | .idx sz x i => match ev T x, ev T i with
    | .slice (some ⟨b, o, none⟩) n sz', .int _ j => if sz' = sz ∧ 0 ≤ j ∧ j < n then some (.pointer (some ⟨b, o + j.toNat * sz, none⟩), H) else none
    | _, _ => none
  | .aidx len sz x i => match ev T x, ev T i with
    | .pointer (some ⟨b, o, none⟩), .int _ j => if 0 ≤ j ∧ j < len then some (.pointer (some ⟨b, o + j.toNat * sz, none⟩), H) else none
    | _, _ => none
  | .sidx x i => match ev T x, ev T i with
    | .string s, .int _ j => if 0 ≤ j then match s[j.toNat]? with
        | some b => some (.int .u8 b.toNat, H)
        | none => none
      else none
    | _, _ => none
  | .ext i x => match ev T x with
    | .tuple vs => match vs[i]? with
      | some v => some (v, H)
      | none => none
    | _ => none
  | .len x => match ev T x with
    | .slice none 0 0 => some (.int .i64 0, H)
    | .slice (some ⟨_, _, none⟩) n _ => some (.int .i64 n, H)
    | _ => none
  | .lenS x => match ev T x with
    | .string s => some (.int .i64 s.size, H)
    | _ => none
  | .app sz bytes s x => match ev T s, ev T x with
    | sv, .slice none 0 0 => (match sv with | .slice none 0 0 | .slice (some _) _ _ => some (sv, H) | _ => none)
    | sv, .slice (some ⟨j, p, none⟩) k sz' =>
      if k = 0 then (match sv with | .slice none 0 0 | .slice (some _) _ _ => some (sv, H) | _ => none) else
      match H.get j with
      | some ob => if sz' = sz ∧ p + k * sz ≤ ob.cells.length then
          (match sv with
          | .slice none 0 0 => if k * bytes ≤ 140737488355328 then some (.slice (some ⟨H.nxt, 0, none⟩) k sz, H.push ((ob.cells.drop p).take (k * sz))) else none
          | .slice (some ⟨i, o, none⟩) n sz'' => match H.get i with
            | some (.own cs) => if sz'' = sz ∧ o + n * sz ≤ cs.length ∧ (n + k) * bytes ≤ 140737488355328 then some (.slice (some ⟨H.nxt, 0, none⟩) (n + k) sz, H.moved i ((cs.drop o).take (n * sz) ++ (ob.cells.drop p).take (k * sz))) else none
            | _ => none
          | _ => none)
        else none
      | none => none
    | _, _ => none
  | .mm mx x y => match ev T x, ev T y with
    | .int k a, .int k' b => if k = k' then some (.int k (if mx then (if b > a then b else a) else (if b < a then b else a)), H) else none
    | _, _ => none
  | .clo f xs => if (xs.all fun x => oneCell (ev T x) && noTup (ev T x)) = true then some (.func (.func f) #[] (xs.map (ev T)).toArray, H) else none
  | .call .. | .calld .. => none

/-! ### Out of the model's code -/
def carg (n : Nat) : Operand → Option XArg
  | .tmp t => if t < n then some (.tmp t) else none
  | .const v => if flatB v then some (.const v) else none
  | .func f => some (.const (.func (.func f) #[] #[]))
  | .global _ => none
def cargs (n : Nat) (xs : Array Operand) : Option (List XArg) := xs.toList.mapM (carg n)
def csize (P : Program) (t : TypeId) : Option Nat := (P.info? t).map (·.size)
def cagg (P : Program) (t : TypeId) : Option Bool := match P.underlying t with | some (.struct _) | some (.array ..) => some true | some _ => some false | none => none
def czero (P : Program) (t : TypeId) : Option (List Value) := (P.info? t).bind fun i => i.zero.map fun v => v.cells.toList
def copt (n : Nat) : Option Operand → Option (Option XArg)
  | none => some none
  | some x => (carg n x).map some
def plainCell : TypeDesc → Bool
  | .bool | .int _ | .float _ | .string => true
  | _ => false
def cmpOffs (P : Program) : List Field → Option (List (Nat × Nat))
  | [] => some []
  | f :: fs => if f.name = "_" then none else match P.underlying f.type, cmpOffs P fs with
    | some .bool, some os => some ((f.offset, 0) :: os)
    | some (.int _), some os => some ((f.offset, 1) :: os)
    | some .string, some os => some ((f.offset, 2) :: os)
    | _, _ => none
def cparts (n : Nat) (place : Nat → Option (Nat × Nat)) : List (Nat × Operand) → Option (List (Nat × Nat × XArg))
  | [] => some []
  | (i, x) :: ps => match place i, carg n x, cparts n place ps with
    | some (off, size), some y, some qs => some ((off, size, y) :: qs)
    | _, _, _ => none
/-- The model's operation, with its types looked up. -/
def cop (P : Program) (n : Nat) : Op → Option XOp
  | .move x | .assign x => (carg n x).map .mov
  | .pick c a b => do pure (.pick (← carg n c) (← carg n a) (← carg n b))
  | .alloc e => (czero P e).bind fun zs => if zs.all flatB then some (.new zs) else none
  | .box _ x => (carg n x).map .box
  | .build t parts => match P.underlying t with
    | some (.struct fs) => do
      let zs ← czero P t
      let places ← fs.toList.mapM (fun f => (P.info? f.type).map fun i => (f.offset, i.size))
      let ps ← cparts n (fun i => places.toArray[i]?) parts.toList
      if zs.all flatB then pure (.agg zs ps) else none
    | _ => none
  | .buildSlice t len parts => match P.underlying t with
    | some (.slice e) => do
      let i ← P.info? e
      let z ← i.zero
      if len * i.size > 2 ^ 24 ∨ ¬ z.cells.toList.all flatB = true then none else
      let ps ← cparts n (fun j => some (j * i.size, i.size)) parts.toList
      pure (.bsl i.size len ((List.range (len * i.size)).map fun j => z.cells[j % z.cells.size]!) ps)
    | _ => none
  | .load t p => do
    let x ← carg n p
    match ← cagg P t with
    | true => pure (.loadN (← csize P t) x)
    | false => pure (.load1 x)
  | .store t p x => do pure (.store (← csize P t) (← carg n p) (← carg n x))
  | .nilCheck x => (carg n x).map .nilc
  | .binOp op t x y _ => match P.underlying t with
    | some (.int _) | some .string | some (.float _) => do pure (.bin op (← carg n x) (← carg n y))
    | some .bool => match op with
      | .eql => do pure (.binB false (← carg n x) (← carg n y))
      | .neq => do pure (.binB true (← carg n x) (← carg n y))
      | _ => none
    | some (.struct fs) => if P.stoodInHeld t = true ∨ P.eqGuardType P.depth t = true then none else match op with
      | .eql => do pure (.cmp false (← cmpOffs P fs.toList) (← carg n x) (← carg n y))
      | .neq => do pure (.cmp true (← cmpOffs P fs.toList) (← carg n x) (← carg n y))
      | _ => none
    | _ => none
  | .unOp op _ x => (carg n x).map (.un op)
  | .convert s d x => match P.underlying s, P.underlying d with
    | some (.int _), some (.int k) => (carg n x).map (.toInt k)
    | some (.int _), some (.float k) => (carg n x).map (.toFlt k)
    | some (.float k), some (.float k') => if k = k' then (carg n x).map (.fltOf k) else none
    | some (.slice e), some .string => (match P.underlying e with | some (.int .u8) => (carg n x).map .b2s | _ => none)
    | _, _ => none
  | .makeSlice t l c => match P.underlying t with
    | some (.slice e) => do
      let i ← P.info? e
      let z ← i.zero
      if z.cells.size = i.size ∧ 0 < i.size ∧ 0 < i.bytes ∧ z.cells.toList.all flatB = true then pure (.mks i.size i.bytes z.cells.toList (← carg n l) (← carg n c)) else none
    | _ => none
  | .slice t x lo hi mx => match P.underlying t with
    | some (.slice e) => do pure (.slc (← csize P e) (← carg n x) (← copt n lo) (← copt n hi) (← copt n mx))
    | some .string => match mx with
      | none => do pure (.sstr (← carg n x) (← copt n lo) (← copt n hi))
      | some _ => none
    | _ => none
  | .fieldAddr s x f => match P.underlying s with
    | some (.struct fs) => do
      let f ← fs[f]?
      if (← csize P f.type) = 0 then none
      pure (.fad f.offset (← carg n x))
    | _ => none
  | .field s x f => match P.underlying s with
    | some (.struct fs) => do
      let f ← fs[f]?
      match ← cagg P f.type with
      | true => pure (.fdvN f.offset (← csize P f.type) (← carg n x))
      | false => pure (.fdv1 f.offset (← carg n x))
    | _ => none
  | .indexAddr t x i => match P.underlying t with
    | some (.slice e) => do pure (.idx (← csize P e) (← carg n x) (← carg n i))
    | some (.array len e) => do pure (.aidx len (← csize P e) (← carg n x) (← carg n i))
    | _ => none
  | .index t x i => match P.underlying t with
    | some .string => do pure (.sidx (← carg n x) (← carg n i))
    | _ => none
  | .extract x i => (carg n x).map (.ext i)
  | .call { callee := .builtin .len, args, argTypes } => match args.toList, (argTypes[0]?).bind P.underlying with
    | [x], some (.slice _) => (carg n x).map .len
    | [x], some .string => (carg n x).map .lenS
    | _, _ => none
  | .call { callee := .builtin .append, args, argTypes } => match args.toList, argTypes.toList with
    | [s, x], [st, xt] => match P.underlying st with
      | some (.slice e) => do
        let i ← P.info? e
        let z ← i.zero
        if st = xt ∧ z.cells.size = i.size ∧ 0 < i.size ∧ 0 < i.bytes then pure (.app i.size i.bytes (← carg n s) (← carg n x)) else none
      | _ => none
    | _, _ => none
  | .call { callee := .builtin .max, args, .. } => match args.toList with
    | [x, y] => do pure (.mm true (← carg n x) (← carg n y))
    | _ => none
  | .call { callee := .builtin .min, args, .. } => match args.toList with
    | [x, y] => do pure (.mm false (← carg n x) (← carg n y))
    | _ => none
  | .call { callee := .value (.func f), args, .. } => match P.funcs[f]? with
    | some fn => if fn.name == "runtime.NumGoroutine" || (fn.body.isNone && !extKnown fn) then none else (cargs n args).map (.call f)
    | none => none
  | .call { callee := .value (.tmp t), args, .. } => if t < n then (cargs n args).map (.calld (.tmp t)) else none
  | .makeFunc (.func f) first caps => if first.isEmpty then (cargs n caps).map (.clo f) else none
  | _ => none
def cguard (n : Nat) (ops : Array Oper) : Option (Nat × Bool) → Option (Option (Nat × Bool))
  | none => some none
  | some (j, want) => match (ops[j]?).bind (·.dst) with
    | some t => if t < n then some (some (t, want)) else none
    | none => none
def coper (P : Program) (n : Nat) (ops : Array Oper) (o : Oper) : Option XO :=
  match o.dst with
  | some d => if d < n then do pure ⟨some d, ← cop P n o.op, ← cguard n ops o.guard⟩ else none
  | none => do pure ⟨none, ← cop P n o.op, ← cguard n ops o.guard⟩
end Go.Proofs.Ytkadelndmaegdaa.AX
