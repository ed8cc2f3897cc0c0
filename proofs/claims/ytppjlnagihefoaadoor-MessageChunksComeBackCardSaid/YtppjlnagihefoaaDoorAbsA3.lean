import Derived.Test.YtppjlnagihefoaaDoorAbsA2
namespace Go.Abs
open Go

/- types, as the executor sees them -/
inductive TD where
  | none | int (k : IntKind) | bool | str | slice (e : TypeId) | arr (n : Nat) (e : TypeId) | struct (fs : List (Nat × TypeId)) | ptr (e : TypeId) | map (k e : TypeId) | func | iface | other
def tdOf : TypeDesc → TD
  | .int k => .int k
  | .bool => .bool
  | .string => .str
  | .slice e => .slice e
  | .array n e => .arr n e
  | .struct fs => .struct (fs.toList.map fun f => (f.offset, f.type))
  | .pointer e => .ptr e
  | .map k e => .map k e
  | .func _ _ _ => .func
  | .interface _ => .iface
  | _ => .other
def V.ofV1 : Value → V
  | .int k n => .int k n
  | .bool b => .bool b
  | .string s => .str s.data.toList
  | .slice _ 0 0 => .nilsl
  | v => .con v
def V.ofV : Value → V
  | .agg cs => bif cs.toList.all (·.oneCell') then .agg (cs.toList.map V.ofV1) else .con (.agg cs)
  | v => V.ofV1 v
structure TI where
  d : TD
  size : Nat
  bytes : Nat
  zero : Option V
def ti (P : Program) (t : TypeId) : TI :=
  match P.info? t, P.underlying t with
  | some i, some d => ⟨tdOf d, i.size, i.bytes, i.zero.map V.ofV⟩
  | _, _ => ⟨.none, 0, 0, none⟩
def TI.isAgg (i : TI) : Bool := match i.d with
  | .struct _ => true
  | .arr _ _ => true
  | _ => false

/-- within int's range -/
def I64 (n : Int) : Prop := -9223372036854775808 ≤ n ∧ n ≤ 9223372036854775807
theorem I64.mk {n : Int} (h1 : -4611686018427387904 ≤ n) (h2 : n ≤ 4611686018427387904) : I64 n := by unfold I64; omega

def V.strip : V → V
  | .opt _ v => v
  | v => v
def V.gd : V → Prop
  | .opt g _ => g = true
  | _ => True
/-- fits one cell -/
def V.one : V → Bool
  | .int _ _ | .bool _ | .str _ | .nilsl | .sl _ _ | .ptr _ _ | .eptr _ _ _ _ _ | .iptr _ | .fn _ _ _ | .map _ | .vec _ _ | .vw _ _ _ => true
  | .con v => v.oneCell'
  | _ => false
/-- what can lie in memory for good -/
def V.isPure : V → Bool
  | .int _ _ | .bool _ | .str _ | .nilsl | .sl _ _ | .con _ => true
  | .agg cs => cs.all fun | .int _ _ | .bool _ | .str _ | .nilsl | .sl _ _ | .con _ => true | _ => false
  | _ => false

inductive OR where
  | val (p : Prop) (v : V)
  | rd (id : Nat) (p : Prop) (v : V)
  | wr (ids : List Nat) (id : Nat) (p : Prop) (v : V) (b : Blk)
  | new (p : Prop) (v : V) (b : Blk)
  | call (p : Prop) (f : FuncId) (args : List V)
  | bad
def OR.and (g : Prop) : OR → OR
  | .val p v => .val (g ∧ p) v
  | .rd i p v => .rd i (g ∧ p) v
  | .wr l i p v b => .wr l i (g ∧ p) v b
  | .new p v b => .new (g ∧ p) v b
  | .call p f a => .call (g ∧ p) f a
  | .bad => .bad

def ev (e : Env) : Operand → V
  | .tmp t => e t
  | .const v => V.ofV v
  | .global g => .con (.pointer (some ⟨g, 0, none⟩))
  | .func f => .fn (.func f) [] []

/- lists of cells -/
def setR (cs : List V) (off : Nat) (new : List V) : List V := cs.take off ++ new ++ cs.drop (off + new.length)
def reV (x : V) (cs : List V) : V := match x with
  | .agg _ => .agg cs
  | _ => cs.getD 0 .any
def appF (n : Nat) (f g : Nat → V) : Nat → V := fun i => bif decide (i < n) then f i else g (i - n)
def setF (f : Nat → V) (i : Nat) (x : V) : Nat → V := fun j => bif decide (j = i) then x else f j
def shF (f : Nat → V) (l : Nat) : Nat → V := fun i => f (i + l)
def byF (s : List UInt8) : Nat → V := fun i => .int .u8 (s.getD i 0).toNat
def V.toByte : V → UInt8
  | .int _ n => UInt8.ofNat n.toNat
  | _ => 0
def bytesOf (n : Nat) (f : Nat → V) : List UInt8 := (List.range n).map fun i => (f i).toByte

/- integers -/
def bitsI (op : BinOp) (k : IntKind) (x y : Int) : Int :=
  let a := BitVec.ofInt k.bits x
  let b := BitVec.ofInt k.bits y
  k.wrap (match op with | .and => a &&& b | .or => a ||| b | .xor => a ^^^ b | _ => a &&& ~~~b).toNat
def isI64 : IntKind → Bool
  | .i64 => true
  | _ => false
def vArith (k : IntKind) (n : Int) : OR := match isI64 k with
  | true => .val (I64 n) (.int k n)
  | false => .val True (.int k (k.wrap n))
def vInt (op : BinOp) (k : IntKind) (x y : Int) : OR :=
  match op with
  | .add => vArith k (x + y)
  | .sub => vArith k (x - y)
  | .mul => vArith k (x * y)
  | .quo => match isI64 k with
    | true => .val (0 ≤ x ∧ 0 < y ∧ I64 x) (.int k (x / y))
    | false => .val (0 ≤ x ∧ 0 < y) (.int k (k.wrap (x / y)))
  | .rem => .val (0 ≤ x ∧ 0 < y) (.int k (x % y))
  | .and => .val True (.int k (bitsI .and k x y))
  | .or => .val True (.int k (bitsI .or k x y))
  | .xor => .val True (.int k (bitsI .xor k x y))
  | .andNot => .val True (.int k (bitsI .andNot k x y))
  | .eql => .val True (.bool (x == y))
  | .neq => .val True (.bool (x != y))
  | .lss => .val True (.bool (decide (x < y)))
  | .leq => .val True (.bool (decide (x ≤ y)))
  | .gtr => .val True (.bool (decide (y < x)))
  | .geq => .val True (.bool (decide (y ≤ x)))
  | .shl => .val (0 ≤ y) (.int k (k.wrap (x * 2 ^ min y.toNat k.bits)))
  | .shr => .val (0 ≤ y) (.int k (x.fdiv (2 ^ min y.toNat k.bits)))
def vStr (op : BinOp) (x y : List UInt8) : OR :=
  match op with
  | .add => .val (((x.length + y.length : Nat) : Int) ≤ 4611686018427387904) (.str (x ++ y))
  | .eql => .val True (.bool (x == y))
  | .neq => .val True (.bool (x != y))
  | .lss => .val True (.bool (Op.bytesLess x y))
  | .leq => .val True (.bool (Op.bytesLess x y || x == y))
  | .gtr => .val True (.bool (!(Op.bytesLess x y || x == y)))
  | .geq => .val True (.bool (!Op.bytesLess x y))
  | _ => .bad
def vBool (op : BinOp) (i : TI) (x y : Bool) : OR :=
  match i.d, op with
  | .bool, .eql => .val True (.bool (x == y))
  | .bool, .neq => .val True (.bool (!(x == y)))
  | _, _ => .bad
def isSh : BinOp → Bool
  | .shl => true
  | .shr => true
  | _ => false
def vBinI (op : BinOp) (k k' : IntKind) (x y : Int) : Bool → OR
  | true => vInt op k x y
  | false => OR.and (k = k') (vInt op k x y)
def vBin (P : Program) (op : BinOp) (t : TypeId) : V → V → OR
  | .int k x, .int k' y => vBinI op k k' x y (isSh op)
  | .str x, .str y => vStr op x y
  | .bool x, .bool y => vBool op (ti P t) x y
  | _, _ => .bad
def vUn (op : UnOp) : V → OR
  | .bool b => match op with
    | .not => .val True (.bool (!b))
    | _ => .bad
  | .int k n => match op with
    | .neg => vArith k (0 - n)
    | _ => .bad
  | _ => .bad
def vPick (x y : V) : V → OR
  | .bool c => match x.strip, y.strip with
    | .bool a, .bool b => .val ((c = true → x.gd) ∧ (c = false → y.gd)) (.bool (bif c then a else b))
    | _, _ => .bad
  | _ => .bad
def vToInt (k : IntKind) (n : Int) : OR := match isI64 k with
  | true => .val (I64 n) (.int k n)
  | false => .val True (.int k (k.wrap n))
def vConv (P : Program) (h : Heap) (d : Nat) (s t : TypeId) : V → OR
  | .int _ n => match (ti P s).d, (ti P t).d with
    | .int _, .int k => vToInt k n
    | _, _ => .bad
  | .str x => match (ti P s).d, (ti P t).d with
    | .str, .str => .val True (.str x)
    | .str, .slice e => match (ti P e).d with
      | .int .u8 => .new True (.vec d x.length) (.vec 1 x.length (byF x))
      | _ => .bad
    | _, _ => .bad
  | .nilsl => match (ti P s).d, (ti P t).d with
    | .slice e, .str => match (ti P e).d with
      | .int .u8 => .val True (.str [])
      | _ => .bad
    | _, _ => .bad
  | .sl n f => match (ti P s).d, (ti P t).d with
    | .slice e, .str => match (ti P e).d with
      | .int .u8 => .val (∀ i, i < n → ∃ m, f i = .int .u8 m) (.str (bytesOf n f))
      | _ => .bad
    | _, _ => .bad
  | .vec id n => match (ti P s).d, (ti P t).d with
    | .slice e, .str => match (ti P e).d, h id with
      | .int .u8, some (.vec sz m f) => .rd id (m = n ∧ sz = 1 ∧ ∀ i, i < n → ∃ m, f i = .int .u8 m) (.str (bytesOf n f))
      | _, _ => .bad
    | _, _ => .bad
  | .vw id off n => match (ti P s).d, (ti P t).d with
    | .slice e, .str => match (ti P e).d, h id with
      | .int .u8, some (.cells cs) => .rd id (off + n ≤ cs.length ∧ ∀ i, i < n → ∃ m, cs.getD (off + i) .any = .int .u8 m) (.str (bytesOf n fun i => cs.getD (off + i) .any))
      | _, _ => .bad
    | _, _ => .bad
  | _ => .bad
def vIndex (P : Program) (t : TypeId) : V → V → OR
  | .str s, .int _ n => match (ti P t).d with
    | .str => .val (0 ≤ n ∧ n < (s.length : Int)) (.int .u8 (s.getD n.toNat 0).toNat)
    | _ => .bad
  | _, _ => .bad
def vIndexAddr (P : Program) (h : Heap) (t : TypeId) : V → V → OR
  | .sl n f, .int _ i => match (ti P t).d with
    | .slice e => .val (0 ≤ i ∧ i < (n : Int) ∧ (f i.toNat).flat.length = (ti P e).size) (.iptr (f i.toNat).flat)
    | _ => .bad
  | .vec id n, .int _ i => match (ti P t).d, h id with
    | .slice e, some (.vec sz m _) => .rd id (0 ≤ i ∧ i < (n : Int) ∧ m = n ∧ sz = (ti P e).size) (.eptr id n sz i.toNat 0)
    | _, _ => .bad
  | .ptr id off, .int _ i => match (ti P t).d with
    | .arr len e => .val (0 ≤ i ∧ i < (len : Int) ∧ 0 < (ti P e).size) (.ptr id (off + i.toNat * (ti P e).size))
    | _ => .bad
  | _, _ => .bad
def fieldOff (i : TI) (f : Nat) : Option (Nat × TypeId) := match i.d with
  | .struct fs => fs[f]?
  | _ => none
def vFieldAddr (P : Program) (h : Heap) (s : TypeId) (f : Nat) (x : V) : OR :=
  match fieldOff (ti P s) f with
  | some (o, ft) => match x with
    | .ptr id off => .val (0 < (ti P ft).size) (.ptr id (off + o))
    | .eptr id n sz i off => match h id with
      | some (.vec _ m _) => .rd id (m = n ∧ 0 < (ti P ft).size) (.eptr id n sz i (off + o))
      | _ => .bad
    | .iptr cs => .val (0 < (ti P ft).size ∧ o ≤ cs.length) (.iptr (cs.drop o))
    | _ => .bad
  | none => .bad
def sub (ag : Bool) (cs : List V) (off n : Nat) : V := bif ag then .agg ((cs.drop off).take n) else cs.getD off .any
def vField (P : Program) (s : TypeId) (f : Nat) : V → OR
  | .agg cs => match fieldOff (ti P s) f with
    | some (o, ft) => .val (o + (ti P ft).size ≤ cs.length ∧ 0 < (ti P ft).size) (sub (ti P ft).isAgg cs o (ti P ft).size)
    | none => .bad
  | _ => .bad
def vLoad (P : Program) (h : Heap) (t : TypeId) : V → OR
  | .ptr id off => match h id with
    | some (.cells cs) => .rd id (off + (ti P t).size ≤ cs.length ∧ 0 < (ti P t).size) (sub (ti P t).isAgg cs off (ti P t).size)
    | _ => .bad
  | .eptr id n sz i off => match h id with
    | some (.vec sz' m f) => .rd id (m = n ∧ sz' = sz ∧ i < n ∧ off + (ti P t).size ≤ sz ∧ 0 < (ti P t).size) (sub (ti P t).isAgg (f i).flat off (ti P t).size)
    | _ => .bad
  | .iptr cs => .val ((ti P t).size ≤ cs.length ∧ 0 < (ti P t).size) (sub (ti P t).isAgg cs 0 (ti P t).size)
  | _ => .bad
/-- one-cell parts, or an aggregate as it came -/
def okCells : V → Bool
  | .agg _ => true
  | v => v.one
def vStore (P : Program) (h : Heap) (t : TypeId) (x : V) : V → OR
  | .ptr id off => match h id with
    | some (.cells cs) => .wr [] id (x.flat.length = (ti P t).size ∧ okCells x = true ∧ off + (ti P t).size ≤ cs.length ∧ 0 < (ti P t).size) .any (.cells (setR cs off x.flat))
    | _ => .bad
  | .eptr id n sz i off => match h id with
    | some (.vec sz' m f) => .wr [] id (m = n ∧ sz' = sz ∧ i < n ∧ off + (ti P t).size ≤ sz ∧ x.flat.length = (ti P t).size ∧ okCells x = true ∧ 0 < (ti P t).size)
        .any (.vec sz m (setF f i (reV (f i) (setR (f i).flat off x.flat))))
    | _ => .bad
  | _ => .bad
def vLen (h : Heap) (i : TI) (x : V) : OR := match i.d, x with
  | .str, .str s => .val True (.int .i64 s.length)
  | .slice _, .nilsl => .val True (.int .i64 0)
  | .slice _, .sl n _ => .val True (.int .i64 n)
  | .slice _, .vec id n => match h id with
    | some (.vec _ m _) => .rd id (m = n) (.int .i64 n)
    | _ => .bad
  | _, _ => .bad
def vMin (a b : V) : OR := match a, b with
  | .int k x, .int k' y => .val (k = k') (.int k (min x y))
  | _, _ => .bad
def vMax (a b : V) : OR := match a, b with
  | .int k x, .int k' y => .val (k = k') (.int k (max x y))
  | _, _ => .bad
def zok (i : TI) : Prop := match i.zero with
  | some z => z.flat.length = i.size ∧ okCells z = true
  | none => False
/-- what is appended: so many, which ones; and a condition -/
def vSrc (h : Heap) (sz : Nat) : V → Option (List Nat × Nat × (Nat → V) × Prop)
  | .nilsl => some ([], 0, (fun _ => .any), True)
  | .str s => some ([], s.length, byF s, sz = 1)
  | .sl n f => some ([], n, f, ∀ i, i < n → (f i).flat.length = sz)
  | .vec id n => match h id with
    | some (.vec sz' m f) => some ([id], n, f, m = n ∧ sz' = sz)
    | _ => none
  | _ => none
def srcT : TD → Bool
  | .slice _ => true
  | .str => true
  | _ => false
def vAppend (P : Program) (h : Heap) (d : Nat) (t u : TypeId) (s x : V) : OR :=
  match (ti P t).d, srcT (ti P u).d with
  | .slice e, true => match vSrc h (ti P e).size x with
    | some (ids, m, g, p) => match s with
      | .nilsl => match ids with
        | [] => .new (p ∧ zok (ti P e) ∧ 0 < (ti P e).size ∧ m * (ti P e).bytes ≤ 140737488355328 ∧ m ≤ 4611686018427387904) (.vec d m) (.vec (ti P e).size m g)
        | _ => .bad
      | .vec id n => match h id with
        | some (.vec sz n' f) => .wr ids id (p ∧ zok (ti P e) ∧ 0 < (ti P e).size ∧ n' = n ∧ sz = (ti P e).size ∧ (n + m) * (ti P e).bytes ≤ 140737488355328 ∧ n + m ≤ 4611686018427387904)
            (.vec id (n + m)) (.vec sz (n + m) (appF n f g))
        | _ => .bad
      | _ => .bad
    | none => .bad
  | _, _ => .bad
def bnd (len : Nat) : Option V → Int → Option (Prop × Int)
  | none, dflt => some (True, dflt)
  | some (.int _ i), _ => some (0 ≤ i ∧ i ≤ (len : Int), i)
  | _, _ => none
def vSlice (P : Program) (t : TypeId) (x : V) (lo hi mx : Option V) : OR :=
  match x with
  | .str s => match (ti P t).d, bnd s.length hi s.length, bnd s.length lo 0, mx with
    | .str, some (ph, h), some (pl, l), none => .val (ph ∧ pl ∧ l ≤ h) (.str ((s.drop l.toNat).take (h.toNat - l.toNat)))
    | _, _, _, _ => .bad
  | .sl n f => match (ti P t).d, mx with
    | .slice e, none => match bnd n hi n, bnd n lo 0 with
      | some (ph, h), some (pl, l) => .val (ph ∧ pl ∧ l ≤ h ∧ (0 < n → (f 0).flat.length = (ti P e).size) ∧ 0 < (ti P e).size) (.sl (h.toNat - l.toNat) (shF f l.toNat))
      | _, _ => .bad
    | .slice e, some m => match hi with
      | some hh => match bnd n (some m) 0, bnd n (some hh) n, bnd n lo 0 with
        | some (pm, m), some (ph, h), some (pl, l) => .val (pm ∧ ph ∧ pl ∧ h ≤ m ∧ l ≤ h ∧ (0 < n → (f 0).flat.length = (ti P e).size) ∧ 0 < (ti P e).size) (bif decide (m = l) then .nilsl else .sl (h.toNat - l.toNat) (shF f l.toNat))
        | _, _, _ => .bad
      | none => .bad
    | _, _ => .bad
  | .ptr id off => match (ti P t).d, mx with
    | .arr len e, none => match bnd len hi len, bnd len lo 0 with
      | some (ph, h), some (pl, l) => .val (ph ∧ pl ∧ l ≤ h ∧ (ti P e).size = 1) (.vw id (off + l.toNat) (h.toNat - l.toNat))
      | _, _ => .bad
    | _, _ => .bad
  | _ => .bad
def vMake (P : Program) (d : Nat) (t : TypeId) : V → V → OR
  | .int _ n, .int _ c => match (ti P t).d with
    | .slice e => match (ti P e).zero with
      | some z => .new (n = c ∧ 0 ≤ n ∧ n * ((ti P e).bytes : Int) ≤ 140737488355328 ∧ n ≤ 4611686018427387904 ∧ 0 < (ti P e).size ∧ z.flat.length = (ti P e).size ∧ okCells z = true) (.vec d n.toNat) (.vec (ti P e).size n.toNat (fun _ => z))
      | none => .bad
    | _ => .bad
  | _, _ => .bad
def vAlloc (P : Program) (d : Nat) (t : TypeId) : OR :=
  match (ti P t).zero with
  | some z => .new (okCells z = true) (.ptr d 0) (.cells z.flat)
  | none => .bad
def vBox (d : Nat) (x : V) : OR := .new (okCells x = true) (.ptr d 0) (.cells x.flat)
def buildS (P : Program) (fs : List (Nat × TypeId)) : List (Nat × V) → List V → Prop × List V
  | [], cs => (True, cs)
  | (i, x) :: r, cs => match fs[i]? with
    | some (o, t) => let q := buildS P fs r (setR cs o x.flat)
      (x.flat.length = (ti P t).size ∧ o + x.flat.length ≤ cs.length ∧ okCells x = true ∧ q.1, q.2)
    | none => (False, cs)
def sizedL (P : Program) : List (Nat × TypeId) → Prop
  | [] => True
  | (_, t) :: r => 0 < (ti P t).size ∧ sizedL P r
def vBuild (P : Program) (t : TypeId) (parts : List (Nat × V)) : OR :=
  match (ti P t).d, (ti P t).zero with
  | .struct fs, some (.agg z) => .val (sizedL P fs ∧ (buildS P fs parts z).1) (.agg (buildS P fs parts z).2)
  | _, _ => .bad
def inOrder : Nat → List (Nat × V) → Bool
  | _, [] => true
  | n, (i, _) :: r => n == i && inOrder (n + 1) r
def litF (l : List V) : Nat → V := fun i => l.getD i .any
def vBuildSlice (P : Program) (ow : Bool) (d : Nat) (t : TypeId) (len : Nat) (parts : List (Nat × V)) : OR :=
  match (ti P t).d with
  | .slice e => match inOrder 0 parts with
    | true => bif ow then
        .new (len = parts.length ∧ 0 < (ti P e).size ∧ len * (ti P e).size ≤ 16777216 ∧ (ti P e).zero.isSome = true ∧ ∀ x ∈ parts.map Prod.snd, x.flat.length = (ti P e).size ∧ okCells x = true) (.vec d len) (.vec (ti P e).size len (litF (parts.map Prod.snd)))
      else .val (len = parts.length ∧ 0 < (ti P e).size ∧ len * (ti P e).size ≤ 16777216 ∧ (ti P e).zero.isSome = true ∧ ∀ x ∈ parts.map Prod.snd, x.flat.length = (ti P e).size ∧ okCells x = true ∧ x.isPure = true) (.sl len (litF (parts.map Prod.snd)))
    | false => .bad
  | _ => .bad
def vNil (h : Heap) : V → OR
  | .ptr i o => .val True (.ptr i o)
  | .eptr id n sz i o => match h id with
    | some (.vec _ m _) => .rd id (m = n) (.eptr id n sz i o)
    | _ => .bad
  | .iptr cs => .val True (.iptr cs)
  | .fn f a b => match f with
    | .func _ => .val True (.fn f a b)
    | _ => .bad
  | _ => .bad
def vExtract (i : Nat) : V → OR
  | .tup vs => .val (i < vs.length) (vs.getD i .any)
  | _ => .bad
def vCallV (args : List V) : V → OR
  | .fn (.func f) a c => .call True f (a ++ args ++ c)
  | _ => .bad
def gdL : List V → Prop
  | [] => True
  | v :: r => v.gd ∧ gdL r

def vCall (P : Program) (h : Heap) (d : Nat) (ts : Array TypeId) (args : List V) : Builtin → OR
  | .len => match ts.toList, args with
    | [t], [a] => vLen h (ti P t) a
    | _, _ => .bad
  | .min => match args with
    | [a, b] => vMin a b
    | _ => .bad
  | .max => match args with
    | [a, b] => vMax a b
    | _ => .bad
  | .append => match ts.toList, args with
    | [t, u], [s, x] => vAppend P h d t u s x
    | _, _ => .bad
  | _ => .bad

def opO (P : Program) (ow : Nat → Bool) (d : Nat) (h : Heap) (e : Env) : Op → OR
  | .move x => .val (ev e x).gd (ev e x).strip
  | .assign x => .val (ev e x).gd (ev e x).strip
  | .pick c a b => OR.and (ev e c).gd (vPick (ev e a) (ev e b) (ev e c).strip)
  | .alloc t => vAlloc P d t
  | .box _ x => OR.and (ev e x).gd (vBox d (ev e x).strip)
  | .build t ps => OR.and (gdL (ps.toList.map fun p => ev e p.2)) (vBuild P t (ps.toList.map fun p => (p.1, (ev e p.2).strip)))
  | .buildSlice t n ps => OR.and (gdL (ps.toList.map fun p => ev e p.2)) (vBuildSlice P (ow d) d t n (ps.toList.map fun p => (p.1, (ev e p.2).strip)))
  | .load t a => OR.and (ev e a).gd (vLoad P h t (ev e a).strip)
  | .store t a x => OR.and ((ev e a).gd ∧ (ev e x).gd) (vStore P h t (ev e x).strip (ev e a).strip)
  | .nilCheck x => OR.and (ev e x).gd (vNil h (ev e x).strip)
  | .binOp op t x y _ => OR.and ((ev e x).gd ∧ (ev e y).gd) (vBin P op t (ev e x).strip (ev e y).strip)
  | .unOp op _ x => OR.and (ev e x).gd (vUn op (ev e x).strip)
  | .convert s t x => OR.and (ev e x).gd (vConv P h d s t (ev e x).strip)
  | .makeInterface _ _ => .bad
  | .makeFunc f a c => .val (gdL (a.toList.map (ev e)) ∧ gdL (c.toList.map (ev e))) (.fn f (a.toList.map fun x => (ev e x).strip) (c.toList.map fun x => (ev e x).strip))
  | .makeSlice t l c => OR.and ((ev e l).gd ∧ (ev e c).gd) (vMake P d t (ev e l).strip (ev e c).strip)
  | .slice t x lo hi mx => OR.and ((ev e x).gd ∧ gdL ((lo.toList ++ hi.toList ++ mx.toList).map (ev e))) (vSlice P t (ev e x).strip (lo.map fun o => (ev e o).strip) (hi.map fun o => (ev e o).strip) (mx.map fun o => (ev e o).strip))
  | .fieldAddr s x f => OR.and (ev e x).gd (vFieldAddr P h s f (ev e x).strip)
  | .field s x f => OR.and (ev e x).gd (vField P s f (ev e x).strip)
  | .indexAddr t x i => OR.and ((ev e x).gd ∧ (ev e i).gd) (vIndexAddr P h t (ev e x).strip (ev e i).strip)
  | .index t x i => OR.and ((ev e x).gd ∧ (ev e i).gd) (vIndex P t (ev e x).strip (ev e i).strip)
  | .extract x i => OR.and (ev e x).gd (vExtract i (ev e x).strip)
  | .call c => match c.callee with
    | .value f => OR.and (gdL (c.args.toList.map (ev e)) ∧ (ev e f).gd) (vCallV (c.args.toList.map fun x => (ev e x).strip) (ev e f).strip)
    | .builtin b => OR.and (gdL (c.args.toList.map (ev e))) (vCall P h d c.argTypes (c.args.toList.map fun x => (ev e x).strip) b)
    | .invoke _ _ => .bad
  | _ => .bad
end Go.Abs
