/- The abstract operations, what they do, and how an operation of the model is turned into one. -/
import Derived.Test.YtepdflohpondbaaFwA
namespace Go.Fw

structure St where
  sl : Nat → AV
  h : AHeap
  nx : Nat

def upd {α : Type} (f : Nat → α) (i : Nat) (x : α) : Nat → α := fun j => if j = i then x else f j
@[simp] theorem upd_eq {α : Type} (f : Nat → α) (i : Nat) (x : α) : upd f i x i = x := by simp [upd]
theorem upd_ne {α : Type} (f : Nat → α) {i j : Nat} (x : α) (h : j ≠ i) : upd f i x j = f j := by simp [upd, h]

inductive AOpd where
  | t (i : Nat)
  | c (a : AV)
  deriving Inhabited
def AOpd.ev (sl : Nat → AV) : AOpd → AV
  | .t i => sl i
  | .c a => a

/-- One conversion. -/
inductive Cv where
  | int (k : IntKind)
  | str
  | bytesStr
  deriving Inhabited
/-- Of what kind a thing that is sliced or indexed is. -/
inductive Sk where
  | str
  | slice (z : Nat)
  | array (n z : Nat)
  deriving Inhabited
/-- A part of an aggregate: one cell, or so many. -/
abbrev Pt := Option Nat

/-- The kind of a cell that is compared. -/
inductive LK where
  | bool | int | str
  deriving DecidableEq, Inhabited
/-- What is known of the type of two values that are compared. -/
inductive EqTy where
  | none | bool | agg (ks : List LK) | ptr | iface | map | func | sl
  deriving Inhabited
inductive KTy where
  | leaf (k : LK)
  | agg (ks : List LK)
  deriving Inhabited

inductive LenK where
  | str | sl | map
  deriving DecidableEq
def lenIs : LenK → AV → Bool
  | .str, .str _ | .sl, .sl .. | .sl, .vsl .. | .map, .map _ | .map, .nilmap => true
  | _, _ => false
def lenK : TypeDesc → LenK
  | .string => .str
  | .slice _ => .sl
  | _ => .map
inductive AOp where
  | mov (x : AOpd)
  | pick (c a b : AOpd)
  | alloc (zs : List AV)
  | box (x : AOpd)
  | build (zs : List AV) (parts : List (Nat × Nat × AOpd))
  | buildSlice (z len : Nat) (zs : List AV) (parts : List (Nat × Nat × AOpd))
  | load (k : Pt) (x : AOpd)
  | store (k : Nat) (a x : AOpd)
  | nilCheck (x : AOpd)
  | bin (op : BinOp) (e : EqTy) (x y : AOpd)
  | un (op : UnOp) (x : AOpd)
  | conv (c : Cv) (x : AOpd)
  | mkIface (t : TypeId) (x : AOpd)
  | mkFunc (fn : Fn) (first captured : List AOpd)
  | mkMap
  | mkSlice (z bytes : Nat) (zs : List AV) (len cap : AOpd)
  | slice (s : Sk) (x : AOpd) (lo hi mx : Option AOpd)
  | fieldAddr (off : Nat) (x : AOpd)
  | field (off : Nat) (k : Pt) (x : AOpd)
  | indexAddr (s : Sk) (x i : AOpd)
  | index (s : Sk) (k : Pt) (x i : AOpd)
  | lookup (kt : KTy) (zs : AV) (x k : AOpd) (ok : Bool)
  | mapUpdate (kt : KTy) (m k x : AOpd)
  | mapEntry (kt : KTy) (zs : AV) (m k : AOpd)
  | entryStore (m s x : AOpd)
  | extract (x : AOpd) (i : Nat)
  | len (k : LenK) (x : AOpd)
  | lenConst (n : Nat)
  | cap (x : AOpd)
  | append (z bytes : Nat) (s x : AOpd)
  | copy (z : Nat) (d s : AOpd)
  | clear (z : Nat) (zs : List AV) (x : AOpd)
  | minmax (isMax : Bool) (xs : List AOpd)
  | call (f : FuncId) (args : List AOpd)
  | callv (f : AOpd) (args : List AOpd)
  deriving Inhabited

structure AOper where
  dst : Option Nat
  op : AOp
  guard : Option (Nat × Bool)
  chk : List Nat
  deriving Inhabited

/-! ### What they do -/
def AV.cellsOf : AV → Option (List AV)
  | .agg cs => some cs
  | a => if a.isCell then some [a] else none

def splice (cs : List AV) (off : Nat) (xs : List AV) : List AV := cs.take off ++ xs ++ cs.drop (off + xs.length)

def fillParts (sl : Nat → AV) : List AV → List (Nat × Nat × AOpd) → Option (List AV)
  | cs, [] => some cs
  | cs, (off, k, x) :: r =>
    match (x.ev sl).cellsOf with
    | some xs => if xs.length = k ∧ off + k ≤ cs.length then fillParts sl (splice cs off xs) r else none
    | none => none

/-- The cells at a pointer. -/
def cellsAt (h : AHeap) : AV → Option (List AV)
  | .ptr id off => match h id with
    | some (.cells cs _) => some (cs.drop off)
    | _ => none
  | .vptr cs => some cs
  | _ => none

def partOf (k : Pt) (cs : List AV) : Option AV :=
  match k with
  | some n => if n ≤ cs.length then some (.agg (cs.take n)) else none
  | none => cs.head?

def eqLeaf : LK → AV → AV → Option Bool
  | .int, .int k a, .int k' b => if k = k' then some (a == b) else none
  | .bool, .bool a, .bool b => some (a == b)
  | .str, .str a, .str b => some (a.toList == b.toList)
  | _, _, _ => none
def eqCells : List LK → List AV → List AV → Option Bool
  | [], [], [] => some true
  | k :: ks, a :: as, b :: bs => match eqLeaf k a b, eqCells ks as bs with
    | some x, some y => some (x && y)
    | _, _ => none
  | _, _, _ => none
def aeq : EqTy → AV → AV → Option Bool
  | .bool, .bool a, .bool b => some (a == b)
  | .agg ks, .agg xs, .agg ys => eqCells ks xs ys
  | .ptr, .nilptr, .nilptr => some true
  | .ptr, .nilptr, .ptr .. | .ptr, .nilptr, .vptr .. | .ptr, .ptr .., .nilptr | .ptr, .vptr .., .nilptr => some false
  | .iface, .niliface, .niliface => some true
  | .iface, .niliface, .iface .. | .iface, .iface .., .niliface => some false
  | .map, .nilmap, .nilmap => some true
  | .map, .nilmap, .map .. | .map, .map .., .nilmap => some false
  | .func, .nilfunc, .nilfunc => some true
  | .func, .nilfunc, .func .. | .func, .func .., .nilfunc => some false
  | .sl, .vsl z _ _, .vsl z' _ _ => if z' = 0 then some (z == 0) else none
  | .sl, .sl .., .vsl z' _ _ => if z' = 0 then some false else none
  | _, _, _ => none

def intBin (op : BinOp) (k : IntKind) (a b : Int) : Option AV :=
  match op with
  | .add => some (.int k (k.wrap (a + b)))
  | .sub => some (.int k (k.wrap (a - b)))
  | .mul => some (.int k (k.wrap (a * b)))
  | .quo => if b = 0 then none else some (.int k (k.wrap (a.tdiv b)))
  | .rem => if b = 0 then none else some (.int k (a.tmod b))
  | .and => some (.int k (k.wrap (BitVec.ofInt k.bits a &&& BitVec.ofInt k.bits b).toNat))
  | .or => some (.int k (k.wrap (BitVec.ofInt k.bits a ||| BitVec.ofInt k.bits b).toNat))
  | .xor => some (.int k (k.wrap (BitVec.ofInt k.bits a ^^^ BitVec.ofInt k.bits b).toNat))
  | .andNot => some (.int k (k.wrap (BitVec.ofInt k.bits a &&& ~~~BitVec.ofInt k.bits b).toNat))
  | .eql => some (.bool (a == b))
  | .neq => some (.bool (a != b))
  | .lss => some (.bool (a < b))
  | .leq => some (.bool (a ≤ b))
  | .gtr => some (.bool (a > b))
  | .geq => some (.bool (a ≥ b))
  | _ => none
def intShift (op : BinOp) (k : IntKind) (a b : Int) : Option AV :=
  match op with
  | .shl => if b < 0 then none else some (.int k (k.wrap (a * 2 ^ (min b.toNat k.bits))))
  | .shr => if b < 0 then none else some (.int k (a.fdiv (2 ^ (min b.toNat k.bits))))
  | _ => none
def strBin (op : BinOp) (a b : ByteArray) : Option AV :=
  match op with
  | .add => if ((a.size + b.size : Nat) : Int) > IntKind.i64.max then none else some (.str (a ++ b))
  | .eql => some (.bool (a.toList == b.toList))
  | .neq => some (.bool !(a.toList == b.toList))
  | _ => none
def eqRes (op : BinOp) (q : Option Bool) : Option AV :=
  match op with
  | .eql => q.map .bool
  | .neq => q.map fun b => .bool !b
  | _ => none
def binOf (op : BinOp) (e : EqTy) (x y : AV) : Option AV :=
  match x, y with
  | .int k a, .int k' b =>
    if op = .shl ∨ op = .shr then intShift op k a b else if k = k' then intBin op k a b else none
  | .str a, .str b => strBin op a b
  | x, y => eqRes op (aeq e x y)
def unOf (op : UnOp) (x : AV) : Option AV :=
  match op, x with
  | .neg, .int k n => some (.int k (k.wrap (0 - n)))
  | .xor, .int k n => some (.int k (k.wrap (BitVec.ofInt k.bits (if k.signed then -1 else k.max) ^^^ BitVec.ofInt k.bits n).toNat))
  | .not, .bool b => some (.bool !b)
  | _, _ => none

/-- A row cut into parts of so many cells. -/
def chunks (z : Nat) : Nat → List AV → List (List AV)
  | 0, _ => []
  | n + 1, cs => cs.take z :: chunks z n (cs.drop z)

/-- The elements of a slice. -/
def elemsOf (h : AHeap) : AV → Option (List (List AV))
  | .vsl _ es _ => some es
  | .sl id off len _ z => match h id with
    | some (.cells cs _) => if off + len * z ≤ cs.length then some (chunks z len (cs.drop off)) else none
    | _ => none
  | _ => none

def byteOf : List AV → Option UInt8
  | [.int .u8 n] => some (UInt8.ofNat n.toNat)
  | _ => none

def bound (x : Option AOpd) (sl : Nat → AV) (dflt : Nat) : Option Nat :=
  match x with
  | none => some dflt
  | some y => match y.ev sl with
    | .int _ n => if 0 ≤ n then some n.toNat else none
    | _ => none

def sliceOf (h : AHeap) (s : Sk) (x : AV) (lo hi mx : Option AOpd) (sl : Nat → AV) : Option AV :=
  match s, x with
  | .str, .str s => match bound lo sl 0, bound hi sl s.size, mx with
    | some l, some h, none => if l ≤ h ∧ h ≤ s.size then some (.str (s.extract l h)) else none
    | _, _, _ => none
  | .slice z, .vsl z' es cap => match bound lo sl 0, bound hi sl es.length, mx with
    | some l, some h, none => if ((z = z' ∨ es = []) ∧ z ≠ 0) ∧ l ≤ h ∧ h ≤ es.length then some (.vsl (if z' = 0 then 0 else z) ((es.take h).drop l) (cap.map (· - l))) else none
    | some l, some h, some m => match bound (some m) sl 0 with
      | some m => if ((z = z' ∨ es = []) ∧ z ≠ 0) ∧ l ≤ h ∧ h ≤ m ∧ h ≤ es.length ∧ m ≤ cap.getD es.length then some (.vsl (if z' = 0 then 0 else z) ((es.take h).drop l) (some (m - l))) else none
      | none => none
    | _, _, _ => none
  | .slice z, .sl id off len cap z' => match bound lo sl 0, bound hi sl len, mx with
    | some l, some h, none =>
      if (z = z' ∧ z ≠ 0) ∧ l ≤ h ∧ h ≤ cap.getD len then
        some (if l = h ∧ l ≠ 0 then .vsl z [] (cap.map (· - l)) else .sl id (off + l * z) (h - l) (cap.map (· - l)) z)
      else none
    | some l, some h, some m => match bound (some m) sl 0 with
      | some m =>
        if (z = z' ∧ z ≠ 0) ∧ l ≤ h ∧ h ≤ m ∧ m ≤ cap.getD len then
          some (if l = h ∧ l ≠ 0 then .vsl z [] (some (m - l)) else .sl id (off + l * z) (h - l) (some (m - l)) z)
        else none
      | none => none
    | _, _, _ => none
  | .array n z, .ptr id off => match bound lo sl 0, bound hi sl n, mx with
    | some l, some hh, none => match h id with
      | some (.cells cs _) =>
        if z ≠ 0 ∧ l ≤ hh ∧ hh ≤ n ∧ off + n * z ≤ cs.length then some (if l = hh ∧ l ≠ 0 then .vsl z [] (some (n - l)) else .sl id (off + l * z) (hh - l) (some (n - l)) z) else none
      | _ => none
    | _, _, _ => none
  | .array n z, .vptr cs => match bound lo sl 0, bound hi sl n, mx with
    | some l, some h, none => if z ≠ 0 ∧ l ≤ h ∧ h ≤ n ∧ n * z ≤ cs.length then some (.vsl z (((chunks z n cs).take h).drop l) (some (n - l))) else none
    | _, _, _ => none
  | _, _ => none

def indexAddrOf (s : Sk) (x : AV) (i : AV) : Option AV :=
  match i with
  | .int _ i =>
    if 0 ≤ i then match s, x with
      | .slice z, .vsl z' es _ => match es[i.toNat]? with
        | some e => if z = z' then some (.vptr e) else none
        | none => none
      | .slice z, .sl id off len _ z' => if z = z' ∧ i.toNat < len then some (.ptr id (off + i.toNat * z)) else none
      | .array n z, .ptr id off => if i.toNat < n then some (.ptr id (off + i.toNat * z)) else none
      | .array n z, .vptr cs => if i.toNat < n then some (.vptr (cs.drop (i.toNat * z))) else none
      | _, _ => none
    else none
  | _ => none

def indexOf (s : Sk) (k : Pt) (x i : AV) : Option AV :=
  match i with
  | .int _ i =>
    if 0 ≤ i then match s, x with
      | .str, .str s => match s[i.toNat]? with
        | some b => some (.int .u8 b.toNat)
        | none => none
      | .array n z, .agg cs => if i.toNat < n then partOf k (cs.drop (i.toNat * z)) else none
      | _, _ => none
    else none
  | _ => none

def eqKey : KTy → AV → AV → Option Bool
  | .leaf l, a, b => eqLeaf l a b
  | .agg ks, .agg xs, .agg ys => eqCells ks xs ys
  | _, _, _ => none
/-- Where a key is. -/
def findKey (kt : KTy) (k : AV) : List (AV × AV × Nat) → Nat → Option (Option (Nat × AV × Nat))
  | [], _ => some none
  | (k', x, n) :: r, i =>
    match eqKey kt k k' with
    | some true => some (some (i, x, n))
    | some false => findKey kt k r (i + 1)
    | none => none

/-- A key of its type. -/
def keyFits (kt : KTy) (k : AV) : Bool := match kt, k with
  | .leaf _, _ => true
  | .agg ks, .agg cs => cs.length == ks.length
  | _, _ => false

def mapOf (h : AHeap) : AV → Option (List (AV × AV × Nat) × Nat)
  | .nilmap => some ([], 0)
  | .map id => match h id with
    | some (.map es clock) => some (es, clock)
    | _ => none
  | _ => none

/-- How many places a slice that grows may get at most, for the bound on its bytes. -/
def growCap (need : Nat) : Option Nat → Nat
  | some c => if 2 * c < need then need else 2 * need
  | none => 2 * need

def capFits (cap : Option Nat) (need : Nat) : Bool := match cap with
  | some c => decide (need ≤ c)
  | none => true

def appendOf (z bytes : Nat) (s : AV) (xs : List (List AV)) (h : AHeap) (n : Nat) : Option (AV × List (Nat × Option Blk)) :=
  match s with
  | .vsl z' es cap =>
    if xs.length = 0 then some (s, [])
    else match cap with
      | some c => if (z = z' ∨ es = []) ∧ c < es.length + xs.length ∧ growCap (es.length + xs.length) (some c) * bytes ≤ 2 ^ 48 then
          some (.sl n 0 (es.length + xs.length) none z, [(n, some (.cells (es.flatten ++ xs.flatten) false))]) else none
      | none => none
  | .sl id off len cap z' => match h id with
    | some (.cells cs ro) =>
      if z = z' ∧ off + len * z ≤ cs.length then
        if ro = false ∧ off + (len + xs.length) * z ≤ cs.length ∧ capFits cap (len + xs.length) = true then
          some (.sl id off (len + xs.length) cap z, [(id, some (.cells (splice cs (off + len * z) xs.flatten) false))])
        else if growCap (len + xs.length) cap * bytes ≤ 2 ^ 48 then
          match cap with
          | some c => if c < len + xs.length then some (.sl n 0 (len + xs.length) none z, [(n, some (.cells ((cs.drop off).take (len * z) ++ xs.flatten) false))]) else none
          | none => if ro = false ∧ off = 0 then some (.sl n 0 (len + xs.length) none z, [(id, none), (n, some (.cells ((cs.drop off).take (len * z) ++ xs.flatten) false))]) else none
        else none
      else none
    | _ => none
  | _ => none

/-- The elements that are appended or copied: a string's bytes, or a slice's. -/
def srcOf (h : AHeap) (z : Nat) : AV → Option (List (List AV))
  | .str t => if z = 1 then some (t.data.toList.map fun (b : UInt8) => [AV.int .u8 b.toNat]) else none
  | .vsl z' es _ => if z' = z ∨ es = [] then some es else none
  | .sl id off len cap z' => if z' = z then elemsOf h (.sl id off len cap z') else none
  | _ => none

/-- A slice of bytes. -/
def bytesSrc (h : AHeap) : AV → Option (List (List AV))
  | .str _ => none
  | a => srcOf h 1 a

def foldMinMax (isMax : Bool) : AV → List AV → Option AV
  | a, [] => some a
  | .int k x, .int k' y :: r => if k = k' then foldMinMax isMax (.int k (if isMax then (if y > x then y else x) else (if y < x then y else x))) r else none
  | _, _ => none

def convOf (h : AHeap) : Cv → AV → Option AV
  | .int k, .int _ m => some (.int k (k.wrap m))
  | .str, .str s => some (.str s)
  | .bytesStr, a => match bytesSrc h a with
    | some es => (es.mapM byteOf).map fun bs => .str ⟨bs.toArray⟩
    | none => none
  | _, _ => none

def lenOf (h : AHeap) : AV → Option AV
  | .vsl _ es _ => some (.int .i64 es.length)
  | .sl _ _ len _ _ => some (.int .i64 len)
  | .str s => some (.int .i64 s.size)
  | .nilmap => some (.int .i64 (0 : Nat))
  | .map id => match h id with
    | some (.map es _) => some (.int .i64 es.length)
    | _ => none
  | _ => none

def fieldAddrOf (off : Nat) : AV → Option AV
  | .ptr id o => some (.ptr id (o + off))
  | .vptr cs => some (.vptr (cs.drop off))
  | _ => none
def fieldOf (off : Nat) (k : Pt) : AV → Option AV
  | .agg cs => partOf k (cs.drop off)
  | _ => none

def runOp (o : AOp) (sl : Nat → AV) (h : AHeap) (n : Nat) : Option (AV × List (Nat × Option Blk)) :=
  match o with
  | .mov x => some (x.ev sl, [])
  | .pick c a b => match c.ev sl with
    | .bool t => some (if t then a.ev sl else b.ev sl, [])
    | _ => none
  | .alloc zs => some (.ptr n 0, [(n, some (.cells zs false))])
  | .box x => match (x.ev sl).cellsOf with
    | some cs => some (.ptr n 0, [(n, some (.cells cs false))])
    | none => none
  | .build zs parts => (fillParts sl zs parts).map fun cs => (.agg cs, [])
  | .buildSlice z len zs parts => (fillParts sl zs parts).map fun cs => (.sl n 0 len (some len) z, [(n, some (.cells cs false))])
  | .load k x => match cellsAt h (x.ev sl) with
    | some cs => (partOf k cs).map fun a => (a, [])
    | none => none
  | .store k a x => match a.ev sl, (x.ev sl).cellsOf with
    | .ptr id off, some xs => match h id with
      | some (.cells cs false) => if xs.length = k ∧ off + k ≤ cs.length then some (.undef, [(id, some (.cells (splice cs off xs) false))]) else none
      | _ => none
    | _, _ => none
  | .nilCheck x => match x.ev sl with
    | .ptr id off => some (.ptr id off, [])
    | .vptr cs => some (.vptr cs, [])
    | .func (.func f) a b => some (.func (.func f) a b, [])
    | .iface t a => some (.iface t a, [])
    | _ => none
  | .bin op e x y => (binOf op e (x.ev sl) (y.ev sl)).map fun a => (a, [])
  | .un op x => (unOf op (x.ev sl)).map fun a => (a, [])
  | .conv c x => (convOf h c (x.ev sl)).map fun a => (a, [])
  | .mkIface t x => some (.iface t (x.ev sl), [])
  | .mkFunc fn as bs => some (.func fn (as.map (·.ev sl)) (bs.map (·.ev sl)), [])
  | .mkMap => some (.map n, [(n, some (.map [] 0))])
  | .mkSlice z bytes zs len cap => match len.ev sl, cap.ev sl with
    | .int _ l, .int _ c => if 0 ≤ l ∧ l ≤ c ∧ c * bytes ≤ 2 ^ 47 ∧ c ≤ 2 ^ 47 then
        some (.sl n 0 l.toNat (some c.toNat) z, [(n, some (.cells (List.replicate c.toNat zs).flatten false))]) else none
    | _, _ => none
  | .slice s x lo hi mx => (sliceOf h s (x.ev sl) lo hi mx sl).map fun a => (a, [])
  | .fieldAddr off x => (fieldAddrOf off (x.ev sl)).map fun a => (a, [])
  | .field off k x => (fieldOf off k (x.ev sl)).map fun a => (a, [])
  | .indexAddr s x i => (indexAddrOf s (x.ev sl) (i.ev sl)).map fun a => (a, [])
  | .index s k x i => (indexOf s k (x.ev sl) (i.ev sl)).map fun a => (a, [])
  | .lookup kt zs x k ok => match mapOf h (x.ev sl) with
    | some (es, _) => if keyFits kt (k.ev sl) = false then none else match findKey kt (k.ev sl) es 0 with
      | some (some (_, v, _)) => some (if ok then .tup [v, .bool true] else v, [])
      | some none => some (if ok then .tup [zs, .bool false] else zs, [])
      | none => none
    | none => none
  | .mapUpdate kt m k x => match m.ev sl with
    | .map id => match h id with
      | some (.map es clock) => if keyFits kt (k.ev sl) = false then none else match findKey kt (k.ev sl) es 0 with
        | some (some (i, _, b)) => some (.undef, [(id, some (.map (es.set i (k.ev sl, x.ev sl, b)) clock))])
        | some none => some (.undef, [(id, some (.map (es ++ [(k.ev sl, x.ev sl, clock)]) (clock + 1)))])
        | none => none
      | _ => none
    | _ => none
  | .mapEntry kt zs m k => match m.ev sl with
    | .map id => match h id with
      | some (.map es clock) => if keyFits kt (k.ev sl) = false then none else match findKey kt (k.ev sl) es 0 with
        | some (some (i, v, b)) => some (.tup [v, .int .i64 b], [(id, some (.map (es.set i (k.ev sl, v, b)) clock))])
        | some none => some (.tup [zs, .int .i64 clock], [(id, some (.map (es ++ [(k.ev sl, zs, clock)]) (clock + 1)))])
        | none => none
      | _ => none
    | _ => none
  | .entryStore m s x => match m.ev sl, s.ev sl with
    | .map id, .int _ b => match h id with
      | some (.map es clock) => match es.findIdx? (fun e => (e.2.2 : Int) == b) with
        | some i => match es[i]? with
          | some e => some (.undef, [(id, some (.map (es.set i (e.1, x.ev sl, e.2.2)) clock))])
          | none => none
        | none => none
      | _ => none
    | _, _ => none
  | .extract x i => match x.ev sl with
    | .tup vs => match vs[i]? with
      | some v => some (v, [])
      | none => none
    | _ => none
  | .len k x => if lenIs k (x.ev sl) then (lenOf h (x.ev sl)).map fun a => (a, []) else none
  | .lenConst m => some (.int .i64 m, [])
  | .cap x => match x.ev sl with
    | .vsl _ _ (some c) => some (.int .i64 c, [])
    | .sl _ _ _ (some c) _ => some (.int .i64 c, [])
    | _ => none
  | .append z bytes s x => match srcOf h z (x.ev sl) with
    | some xs => appendOf z bytes (s.ev sl) xs h n
    | none => none
  | .copy z d s => match d.ev sl, srcOf h z (s.ev sl) with
    | .sl id off len _ z', some xs => match h id with
      | some (.cells cs false) =>
        if z = z' ∧ off + len * z ≤ cs.length then
          some (.int .i64 (Nat.min xs.length len : Nat), [(id, some (.cells (splice cs off ((xs.take (Nat.min xs.length len)).flatten)) false))]) else none
      | _ => none
    | .vsl _ [] _, some _ => some (.int .i64 0, [])
    | _, _ => none
  | .clear z zs x => match x.ev sl with
    | .sl id off len _ z' => match h id with
      | some (.cells cs false) => if z = z' ∧ off + len * z ≤ cs.length then some (.tup [], [(id, some (.cells (splice cs off (List.replicate len zs).flatten) false))]) else none
      | _ => none
    | .vsl _ [] _ => some (.tup [], [])
    | _ => none
  | .minmax isMax xs => match xs.map (fun y => y.ev sl) with
    | [] => none
    | AV.int k a :: r => (foldMinMax isMax (.int k a) r).map fun a => (a, [])
    | _ => none
  | .call .. | .callv .. => none

def app (h : AHeap) : List (Nat × Option Blk) → AHeap
  | [] => h
  | (i, b) :: r => app (upd h i b) r

end Go.Fw
