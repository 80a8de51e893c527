/-
  The abstract operations, and how a model's operation is turned into one of them.
-/
import Derived.Test.YthpclmlfmhjadaaFw1
set_option linter.unusedSectionVars false
set_option linter.unusedSimpArgs false
set_option linter.unusedVariables false
namespace Go.Abs

inductive AOp where
  | mv (x : Operand)
  | pick (c a b : Operand)
  | bin (op : BinOp) (x y : Operand)
  | binS (op : BinOp) (x y : Operand)
  | eqB (neg : Bool) (x y : Operand)
  | eqP (neg : Bool) (x y : Operand)
  | eqA (ks : List Nat) (neg : Bool) (x y : Operand)
  | eqI (neg : Bool) (x y : Operand)
  | neg (x : Operand)
  | not (x : Operand)
  | cint (k : IntKind) (x : Operand)
  | same (x : Operand)
  | b2s (x : Operand)
  | mkI (t : TypeId) (x : Operand)
  | mkF (fn : Fn) (first captured : List Operand)
  | fa (off : Nat) (x : Operand)
  | ia (sz : Nat) (x i : Operand)
  | iaA (len sz : Nat) (x i : Operand)
  | ix (x i : Operand)
  | sl (sz : Nat) (x : Operand) (lo hi mx : Option Operand)
  | slS (x : Operand) (lo hi : Option Operand)
  | nilchk (x : Operand)
  | ex (x : Operand) (i : Nat)
  | len (x : Operand)
  | lenS (x : Operand)
  | mx (x y : Operand)
  | mn (x y : Operand)
  | mn3 (x y z : Operand)
  | load (agg : Bool) (n : Nat) (x : Operand)
  | build (z : List Value) (parts : List (Nat × Nat × Operand))
  | lookup (z : Value) (m k : Operand)
  | eqNil (neg : Bool) (x : Operand)
  | cap (x : Operand)
  | bad
  -- effects
  | alloc (z : List Value) (T : TypeId)
  | box (T : TypeId) (x : Operand)
  | bslice (len : Nat) (z : List Value) (parts : List (Nat × Nat × Operand)) (T : TypeId)
  | store (n : Nat) (x y : Operand)
  | app (inpl : Bool) (sz bytes : Nat) (T : TypeId) (x y : Operand)
  | s2b (x : Operand)
  | copy (sz : Nat) (x y : Operand)
  | clear (sz : Nat) (z : List Value) (x : Operand)
  | mkS (bytes : Nat) (z : Value) (T : TypeId) (l c : Operand)
  | mkSN (bytes : Nat) (z : List Value) (T : TypeId) (l c : Operand)
  | mkMap
  | mapEntry (z : Value) (m k : Operand)
  | entryStore (m s v : Operand)
  -- calls
  | call (f : FuncId) (args : List Operand)
  | callV (x : Operand) (args : List Operand)

def wrapB (k : IntKind) (a b : Int) (f : BitVec k.bits → BitVec k.bits → BitVec k.bits) : Int := k.wrap (f (BitVec.ofInt k.bits a) (BitVec.ofInt k.bits b)).toNat
def iand (k : IntKind) (a b : Int) : Int := wrapB k a b (· &&& ·)
def ior (k : IntKind) (a b : Int) : Int := wrapB k a b (· ||| ·)
def ixor (k : IntKind) (a b : Int) : Int := wrapB k a b (· ^^^ ·)

def ibin (op : BinOp) (k : IntKind) (a b : Int) : Option (Prop × Value) :=
  match op with
  | .add => some (True, .int k (k.wrap (a + b)))
  | .sub => some (True, .int k (k.wrap (a - b)))
  | .mul => some (True, .int k (k.wrap (a * b)))
  | .quo => some (b ≠ 0, .int k (k.wrap (a.tdiv b)))
  | .rem => some (b ≠ 0, .int k (a.tmod b))
  | .and => some (True, .int k (iand k a b))
  | .or => some (True, .int k (ior k a b))
  | .xor => some (True, .int k (ixor k a b))
  | .shl => some (0 ≤ b, .int k (k.wrap (a * 2 ^ (min b.toNat k.bits))))
  | .shr => some (0 ≤ b, .int k (a.fdiv (2 ^ (min b.toNat k.bits))))
  | .eql => some (True, .bool (a == b))
  | .neq => some (True, .bool (a != b))
  | .lss => some (True, .bool (decide (a < b)))
  | .leq => some (True, .bool (decide (a ≤ b)))
  | .gtr => some (True, .bool (decide (a > b)))
  | .geq => some (True, .bool (decide (a ≥ b)))
  | _ => none

def sbin (op : BinOp) (a b : ByteArray) : Option (Prop × Value) :=
  match op with
  | .add => some (a.size + b.size ≤ 9223372036854775807, .string (a ++ b))
  | .eql => some (True, .bool (a.toList == b.toList))
  | .neq => some (True, .bool !(a.toList == b.toList))
  | .lss => some (True, .bool (Op.bytesLess a.toList b.toList))
  | _ => none

/-- '==' of two rows of plain cells; the kinds: 0 a number, 1 a bool, 2 a string. -/
def cellsEq : List Nat → List Value → List Value → Option Bool
  | [], [], [] => some true
  | 0 :: ks, .int k a :: xs, .int k' b :: ys => if k = k' then (match cellsEq ks xs ys with | some r => some (a == b && r) | none => none) else none
  | 1 :: ks, .bool a :: xs, .bool b :: ys => match cellsEq ks xs ys with | some r => some (a == b && r) | none => none
  | 2 :: ks, .string a :: xs, .string b :: ys => match cellsEq ks xs ys with | some r => some (a.toList == b.toList && r) | none => none
  | _, _, _ => none

/-- '==' of two interface values: nil, or one of numbers. -/
def ifaceEq : Value → Value → Option Bool
  | .nilIface, .nilIface => some true
  | .nilIface, .iface _ _ => some false
  | .iface _ _, .nilIface => some false
  | _, _ => none

def putCells (c : List Value) (off : Nat) (vs : List Value) : List Value := match vs with
  | [] => c
  | v :: r => putCells (c.set off v) (off + 1) r

def fillC : List Value → List (Nat × Nat × Value) → Option (List Value)
  | c, [] => some c
  | c, (off, size, v) :: r =>
    if v.cells.size = size ∧ off + size ≤ c.length then fillC (putCells c off v.cells.toList) r else none

def evs (e : Env) : List Operand → Option (List Value)
  | [] => some []
  | x :: r => match ev e x, evs e r with | some v, some l => some (v :: l) | _, _ => none
def evp (e : Env) : List (Nat × Nat × Operand) → Option (List (Nat × Nat × Value))
  | [] => some []
  | (o, s, x) :: r => match ev e x, evp e r with | some v, some l => some ((o, s, v) :: l) | _, _ => none

def cellsOf (H : AHeap) (i : Nat) : Option (List Value) := match H[i]? with | some o => o.cells | none => none

/-- What the abstract slice value 'x' shows: the cells of its elements. -/
def sliceCells (H : AHeap) (sz : Nat) : Value → Option (Prop × List Value)
  | .slice (some ⟨i, off, none⟩) n _ => match cellsOf H i with
    | some c => some (off + n * sz ≤ c.length, (c.drop off).take (n * sz))
    | none => none
  | .slice none 0 _ => some (True, [])
  | _ => none

def bytesOf : List Value → Option (List UInt8)
  | [] => some []
  | .int .u8 n :: r => match bytesOf r with | some l => some (UInt8.ofNat n.toNat :: l) | none => none
  | _ => none

def optInt (e : Env) : Option Operand → Option (Option Int)
  | none => some none
  | some x => match ev e x with | some (.int _ n) => some (some n) | _ => none

/-- x[lo:hi:mx] of a slice. -/
def slicing (H : AHeap) (sz : Nat) (v : Value) (lo hi mx : Option Int) : Option (Prop × Value) :=
  match v with
  | .slice none 0 0 => match mx with
    | none => some (lo.getD 0 = 0 ∧ hi.getD 0 = 0, .slice none 0 0)
    | some m => some (m = 0 ∧ hi = some 0 ∧ lo.getD 0 = 0, .slice none 0 0)
  | .slice (some ⟨i, off, none⟩) n c =>
    if c = HID then
      match H[i]? with
      | some (.row sz' cs _) => if sz' = sz then
          (match mx with
          | none => (match lo with
            | none => some (0 ≤ hi.getD n ∧ off + (hi.getD n).toNat * sz ≤ cs.length ∧ 0 < cs.length, .slice (some ⟨i, off, none⟩) (hi.getD n).toNat HID)
            | some l => if hi.getD n = l then some (0 ≤ l ∧ off + l.toNat * sz ≤ cs.length, .slice none 0 HID)
              else some (0 ≤ l ∧ l < hi.getD n ∧ off + (hi.getD n).toNat * sz ≤ cs.length, .slice (some ⟨i, off + l.toNat * sz, none⟩) (hi.getD n - l).toNat HID))
          | some m => some (m = lo.getD 0 ∧ 0 ≤ m ∧ hi = some m ∧ off + m.toNat * sz ≤ cs.length, .slice none 0 0))
        else none
      | _ => none
    else if c = ANY then
      match mx with
      | none => some (0 ≤ lo.getD 0 ∧ lo.getD 0 ≤ hi.getD n ∧ hi.getD n ≤ n, .slice (some ⟨i, off + (lo.getD 0).toNat * sz, none⟩) (hi.getD n - lo.getD 0).toNat ANY)
      | some _ => none
    else
      match mx with
      | none => if lo.getD 0 = (c : Int) then some (hi.getD n = (c : Int), .slice none 0 0)
        else some (0 ≤ lo.getD 0 ∧ lo.getD 0 ≤ hi.getD n ∧ hi.getD n ≤ c ∧ c - (lo.getD 0).toNat ≠ HID ∧ c - (lo.getD 0).toNat ≠ ANY, .slice (some ⟨i, off + (lo.getD 0).toNat * sz, none⟩) (hi.getD n - lo.getD 0).toNat (c - (lo.getD 0).toNat))
      | some m => some (m = lo.getD 0 ∧ 0 ≤ m ∧ hi = some m ∧ m ≤ c, .slice none 0 0)
  | _ => none

/-- What a map has at a key. -/
def mfind (s : Bs) : List (Bs × Value) → Option Value
  | [] => none
  | x :: es => if s = x.1 then some x.2 else mfind s es
def lookV (z : Value) : Option Value → Value
  | some v => .tuple ⟨[v, .bool true]⟩
  | none => .tuple ⟨[z, .bool false]⟩
def mset : List (Bs × Value) → Nat → Value → List (Bs × Value)
  | [], _, _ => []
  | x :: es, 0, v => (x.1, v) :: es
  | x :: es, n + 1, v => x :: mset es n v

/-- The quiet operations: a condition, and the value. -/
def aq (o : AOp) (e : Env) (H : AHeap) : Option (Prop × Value) :=
  match o with
  | .mv x => match ev e x with | some v => some (True, v) | none => none
  | .pick c a b => match ev e c with
    | some (.bool t) => if t = true then (match ev e a with | some v => some (True, v) | none => none) else (match ev e b with | some v => some (True, v) | none => none)
    | _ => none
  | .bin op x y => match ev e x, ev e y with
    | some (.int k a), some (.int k' b) => if op = .shl ∨ op = .shr ∨ k = k' then ibin op k a b else none
    | _, _ => none
  | .binS op x y => match ev e x, ev e y with
    | some (.string a), some (.string b) => sbin op a b
    | _, _ => none
  | .eqB neg x y => match ev e x, ev e y with
    | some (.bool a), some (.bool b) => some (True, .bool ((a == b) != neg))
    | _, _ => none
  | .eqP neg x y => match ev e x, ev e y with
    | some (.pointer none), some (.pointer none) => some (True, .bool (true != neg))
    | some (.pointer (some _)), some (.pointer none) => some (True, .bool (false != neg))
    | some (.pointer none), some (.pointer (some _)) => some (True, .bool (false != neg))
    | _, _ => none
  | .eqA ks neg x y => match ev e x, ev e y with
    | some (.agg a), some (.agg b) => match cellsEq ks a.toList b.toList with | some r => some (True, .bool (r != neg)) | none => none
    | _, _ => none
  | .eqI neg x y => match ev e x, ev e y with
    | some a, some b => match ifaceEq a b with | some r => some (True, .bool (r != neg)) | none => none
    | _, _ => none
  | .neg x => match ev e x with | some (.int k a) => some (True, .int k (k.wrap (0 - a))) | _ => none
  | .not x => match ev e x with | some (.bool a) => some (True, .bool !a) | _ => none
  | .cint k x => match ev e x with | some (.int _ a) => some (True, .int k (k.wrap a)) | _ => none
  | .same x => match ev e x with | some (.string s) => some (True, .string s) | _ => none
  | .b2s x => match ev e x with
    | some v => match sliceCells H 1 v with
      | some (c, l) => match bytesOf l with | some b => some (c, .string ⟨b.toArray⟩) | none => none
      | none => none
    | none => none
  | .mkI t x => match ev e x with | some v => some (True, .iface t v) | none => none
  | .mkF fn first cap => match evs e first, evs e cap with | some a, some b => some (True, .func fn ⟨a⟩ ⟨b⟩) | _, _ => none
  | .fa off x => match ev e x with | some (.pointer (some ⟨i, o, none⟩)) => some (True, .pointer (some ⟨i, o + off, none⟩)) | _ => none
  | .ia sz x i => match ev e x, ev e i with
    | some (.slice (some ⟨b, o, none⟩) n _), some (.int _ k) => some (0 ≤ k ∧ k < n, .pointer (some ⟨b, o + k.toNat * sz, none⟩))
    | _, _ => none
  | .iaA len sz x i => match ev e x, ev e i with
    | some (.pointer (some ⟨b, o, none⟩)), some (.int _ k) => some (0 ≤ k ∧ k < len, .pointer (some ⟨b, o + k.toNat * sz, none⟩))
    | _, _ => none
  | .ix x i => match ev e x, ev e i with
    | some (.string s), some (.int _ k) => some (0 ≤ k ∧ k < s.size, .int .u8 ((s.data.toList[k.toNat]?).getD 0).toNat)
    | _, _ => none
  | .sl sz x lo hi mx => match ev e x, optInt e lo, optInt e hi, optInt e mx with
    | some v, some l, some h, some m => slicing H sz v l h m
    | _, _, _, _ => none
  | .slS x lo hi => match ev e x, optInt e lo, optInt e hi with
    | some (.string s), some l, some h => some (0 ≤ l.getD 0 ∧ l.getD 0 ≤ h.getD s.size ∧ h.getD s.size ≤ s.size, .string (s.extract (l.getD 0).toNat (h.getD s.size).toNat))
    | _, _, _ => none
  | .nilchk x => match ev e x with | some (.pointer (some a)) => some (True, .pointer (some a)) | _ => none
  | .ex x i => match ev e x with | some (.tuple a) => (match a.toList[i]? with | some v => some (True, v) | none => none) | _ => none
  | .len x => match ev e x with
    | some (.slice _ n _) => some (True, .int .i64 n)
    | _ => none
  | .lenS x => match ev e x with
    | some (.string s) => some (True, .int .i64 s.size)
    | _ => none
  | .mx x y => match ev e x, ev e y with
    | some (.int k a), some (.int k' b) => if k = k' then some (True, .int k (max a b)) else none
    | _, _ => none
  | .mn x y => match ev e x, ev e y with
    | some (.int k a), some (.int k' b) => if k = k' then some (True, .int k (min a b)) else none
    | _, _ => none
  | .mn3 x y z => match ev e x, ev e y, ev e z with
    | some (.int k a), some (.int k' b), some (.int k2 c) => if k = k' ∧ k = k2 then some (True, .int k (min (min a b) c)) else none
    | _, _, _ => none
  | .load agg n x => match ev e x with
    | some (.pointer (some ⟨i, off, none⟩)) => match cellsOf H i with
      | some c => if agg = true then some (off + n ≤ c.length, .agg ⟨(c.drop off).take n⟩)
        else (match c[off]? with | some v => some (True, v) | none => none)
      | none => none
    | _ => none
  | .build z parts => match evp e parts with
    | some ps => (match fillC z ps with | some c => some (True, .agg ⟨c⟩) | none => none)
    | none => none
  | .lookup z m k => match ev e m, ev e k with
    | some (.map (some i)), some (.string s) => match H[i]? with
      | some (.map es) => some (True, lookV z (mfind s.data.toList es))
      | _ => none
    | _, _ => none
  | .eqNil neg x => match ev e x with
    | some (.slice _ n _) => if n = 0 then none else some (True, .bool (false != neg))
    | _ => none
  | .cap x => match ev e x with
    | some (.slice _ _ c) => if c = HID ∨ c = ANY then none else some (True, .int .i64 c)
    | _ => none
  | _ => none

def AObj.setCells : AObj → List Value → AObj
  | .blk _ T, c => .blk c T
  | .row sz _ T, c => .row sz c T
  | o, _ => o

/-- So many elements, all of them zero. -/
def zeroL (z : List Value) (n : Nat) : List Value := (List.replicate n z).flatten

def oneCell (v : Value) : Bool := match v with | .agg _ | .tuple _ => false | _ => true

/-- The operations that touch memory: a condition, the value, the memory behind it. -/
def aeff (o : AOp) (e : Env) (H : AHeap) : Option (Prop × Value × AHeap) :=
  match o with
  | .alloc z T => some (True, .pointer (some ⟨H.length, 0, none⟩), H ++ [.blk z T])
  | .box T x => match ev e x with
    | some v => some (True, .pointer (some ⟨H.length, 0, none⟩), H ++ [.blk v.cells.toList T])
    | none => none
  | .bslice len z parts T => match evp e parts with
    | some ps => match fillC z ps with
      | some c => some (True, .slice (some ⟨H.length, 0, none⟩) len len, H ++ [.blk c T])
      | none => none
    | none => none
  | .store n x y => match ev e x, ev e y with
    | some (.pointer (some ⟨i, off, none⟩)), some v => match H[i]? with
      | some o => if o.rw = true then (match o.cells with
        | some c => some (v.cells.size = n ∧ off + n ≤ c.length ∧ v.cells.toList.all oneCell = true, undef', H.set i (o.setCells (putCells c off v.cells.toList)))
        | none => none) else none
      | none => none
    | _, _ => none
  | .app inpl sz bytes T x y => match ev e x, ev e y with
    | some xv, some yv => match (match yv with | .slice _ m _ => (match sliceCells H sz yv with | some (c, l) => some (c, m, l) | none => none) | _ => none) with
      | none => none
      | some (cy, m, ys) => match xv with
        | .slice none 0 0 => some (cy ∧ m * bytes ≤ 70368744177664 ∧ m ≤ 70368744177664, .slice (some ⟨H.length, 0, none⟩) m HID, H ++ [.row sz ys T])
        | .slice (some ⟨i, off, none⟩) n c => match H[i]? with
          | some (.row sz' cs T') =>
            if inpl = true then
              some (cy ∧ c = HID ∧ sz = sz' ∧ T = T' ∧ off = 0 ∧ 0 < cs.length ∧ (n + m) * sz ≤ cs.length ∧ ys.all oneCell = true, .slice (some ⟨i, 0, none⟩) (n + m) HID, H.set i (.row sz' (putCells cs (n * sz) ys) T'))
            else
              some (cy ∧ c = HID ∧ sz = sz' ∧ T = T' ∧ off = 0 ∧ n * sz = cs.length ∧ (n + m) * bytes ≤ 70368744177664 ∧ n + m ≤ 70368744177664 ∧ ys.all oneCell = true, .slice (some ⟨H.length, 0, none⟩) (n + m) HID, (H.set i .dead) ++ [.row sz (cs ++ ys) T])
          | some (.blk cs T') =>
            if m = 0 then some (cy ∧ inpl = false ∧ c = n ∧ T = T' ∧ off = 0 ∧ n * sz = cs.length ∧ n ≤ 70368744177664, .slice (some ⟨i, off, none⟩) n c, H)
            else some (cy ∧ inpl = false ∧ c = n ∧ T = T' ∧ off = 0 ∧ n * sz = cs.length ∧ (n + m) * bytes ≤ 70368744177664 ∧ n + m ≤ 70368744177664, .slice (some ⟨H.length, 0, none⟩) (n + m) HID, (H.set i .dead) ++ [.row sz (cs ++ ys) T])
          | _ => none
        | _ => none
    | _, _ => none
  | .s2b x => match ev e x with
    | some (.string s) => some (True, .slice (some ⟨H.length, 0, none⟩) s.size ANY, H ++ [.fro (s.data.toList.map fun b => .int .u8 b.toNat)])
    | _ => none
  | .mkS bytes z T l c => match ev e l, ev e c with
    | some (.int .i64 n), some (.int .i64 m) => some (n = m ∧ 0 ≤ n ∧ n * bytes ≤ 70368744177664 ∧ n ≤ 70368744177664, .slice (some ⟨H.length, 0, none⟩) n.toNat n.toNat, H ++ [.blk (List.replicate n.toNat z) T])
    | _, _ => none
  | .mkSN bytes z T l c => match ev e l, ev e c with
    | some (.int .i64 n), some (.int .i64 m) => some (n = m ∧ 0 ≤ n ∧ n * bytes ≤ 70368744177664 ∧ n ≤ 70368744177664, .slice (some ⟨H.length, 0, none⟩) n.toNat n.toNat, H ++ [.blk (zeroL z n.toNat) T])
    | _, _ => none
  | .copy sz x y => match ev e x, ev e y with
    | some (.slice (some ⟨i, off, none⟩) n _), some (.slice a m c') => (match sliceCells H sz (.slice a m c') with
      | some (cy, ys) => (match H[i]? with
        | some o => if o.rw = true then (match o.cells with
          | some c => some (cy ∧ 0 < n ∧ off + n * sz ≤ c.length ∧ ys.all oneCell = true, .int .i64 (min m n : Nat), H.set i (o.setCells (putCells c off (ys.take (min m n * sz)))))
          | none => none) else none
        | none => none)
      | none => none)
    | _, _ => none
  | .clear sz z x => match ev e x with
    | some (.slice none 0 _) => some (True, undef', H)
    | some (.slice (some ⟨i, off, none⟩) n _) => (match H[i]? with
      | some o => if o.rw = true then (match o.cells with
        | some c => some (0 < n ∧ off + n * sz ≤ c.length ∧ z.length = sz ∧ (zeroL z n).all oneCell = true, undef', H.set i (o.setCells (putCells c off (zeroL z n))))
        | none => none) else none
      | none => none)
    | _ => none
  | .mkMap => some (True, .map (some H.length), H ++ [.map []])
  | .mapEntry z m k => match ev e m, ev e k with
    | some (.map (some i)), some (.string s) => match H[i]? with
      | some (.map es) => match mfind s.data.toList es with
        | none => some (True, .tuple ⟨[z, .int .i64 es.length]⟩, H.set i (.map (es ++ [(s.data.toList, z)])))
        | some _ => none
      | _ => none
    | _, _ => none
  | .entryStore m s x => match ev e m, ev e s, ev e x with
    | some (.map (some i)), some (.int _ n), some v => match H[i]? with
      | some (.map es) => some (0 ≤ n ∧ n < es.length, undef', H.set i (.map (mset es n.toNat v)))
      | _ => none
    | _, _, _ => none
  | _ => none
where undef' : Value := .tuple #[]
end Go.Abs
