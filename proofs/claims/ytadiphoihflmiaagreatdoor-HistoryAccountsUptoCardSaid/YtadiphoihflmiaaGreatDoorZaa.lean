/- The abstract evaluator of the loaded code: values, memory, one operation at a time. -/
import Derived.Calls
import Derived.KernelRfl
set_option linter.all false
namespace Go.Abs

/-! ### integers of a kind -/
abbrev TT : IntKind → Type
  | .u8 => UInt8
  | .u16 => UInt16
  | .u32 => UInt32
  | .u64 => UInt64
  | .i8 => Int
  | .i16 => Int
  | .i32 => Int
  | .i64 => Int

def toI : (k : IntKind) → TT k → Int
  | .u8, x => (UInt8.toNat x : Int)
  | .u16, x => (UInt16.toNat x : Int)
  | .u32, x => (UInt32.toNat x : Int)
  | .u64, x => (UInt64.toNat x : Int)
  | .i8, x => x
  | .i16, x => x
  | .i32, x => x
  | .i64, x => x

/-- The number brought into the kind, wrapped round. -/
def ofI : (k : IntKind) → Int → TT k
  | .u8, n => UInt8.ofNat (n % 256).toNat
  | .u16, n => UInt16.ofNat (n % 65536).toNat
  | .u32, n => UInt32.ofNat (n % 4294967296).toNat
  | .u64, n => UInt64.ofNat (n % 18446744073709551616).toNat
  | .i8, n => IntKind.i8.wrap n
  | .i16, n => IntKind.i16.wrap n
  | .i32, n => IntKind.i32.wrap n
  | .i64, n => IntKind.i64.wrap n

/-- The number as it is, for a kind that bears its sign; else wrapped (where it is in range that is nothing). -/
def rawI : (k : IntKind) → Int → TT k
  | .u8, n => UInt8.ofNat (n % 256).toNat
  | .u16, n => UInt16.ofNat (n % 65536).toNat
  | .u32, n => UInt32.ofNat (n % 4294967296).toNat
  | .u64, n => UInt64.ofNat (n % 18446744073709551616).toNat
  | .i8, n => n
  | .i16, n => n
  | .i32, n => n
  | .i64, n => n

def zeroT (k : IntKind) : TT k := rawI k 0

def castT : (k k' : IntKind) → TT k' → Option (TT k)
  | .u8, .u8, x => some x
  | .u16, .u16, x => some x
  | .u32, .u32, x => some x
  | .u64, .u64, x => some x
  | .i8, .i8, x => some x
  | .i16, .i16, x => some x
  | .i32, .i32, x => some x
  | .i64, .i64, x => some x
  | _, _, _ => none

def castL : (k k' : IntKind) → List (TT k') → Option (List (TT k))
  | .u8, .u8, x => some x
  | .u16, .u16, x => some x
  | .u32, .u32, x => some x
  | .u64, .u64, x => some x
  | .i8, .i8, x => some x
  | .i16, .i16, x => some x
  | .i32, .i32, x => some x
  | .i64, .i64, x => some x
  | _, _, _ => none

def addT (k : IntKind) (x y : TT k) : TT k := ofI k (toI k x + toI k y)
def subT (k : IntKind) (x y : TT k) : TT k := ofI k (toI k x - toI k y)
def mulT (k : IntKind) (x y : TT k) : TT k := ofI k (toI k x * toI k y)
def quoT (k : IntKind) (x y : TT k) : TT k := ofI k ((toI k x).tdiv (toI k y))
def remT (k : IntKind) (x y : TT k) : TT k := rawI k ((toI k x).tmod (toI k y))
def andT (k : IntKind) (x y : TT k) : TT k := ofI k ((BitVec.ofInt k.bits (toI k x) &&& BitVec.ofInt k.bits (toI k y)).toNat : Int)
def orT (k : IntKind) (x y : TT k) : TT k := ofI k ((BitVec.ofInt k.bits (toI k x) ||| BitVec.ofInt k.bits (toI k y)).toNat : Int)
def xorT (k : IntKind) (x y : TT k) : TT k := ofI k ((BitVec.ofInt k.bits (toI k x) ^^^ BitVec.ofInt k.bits (toI k y)).toNat : Int)
def andNotT (k : IntKind) (x y : TT k) : TT k := ofI k ((BitVec.ofInt k.bits (toI k x) &&& ~~~(BitVec.ofInt k.bits (toI k y))).toNat : Int)
def shlT (k : IntKind) (x : TT k) (n : Nat) : TT k := ofI k (toI k x * 2 ^ (min n k.bits))
def shrT (k : IntKind) (x : TT k) (n : Nat) : TT k := rawI k ((toI k x).fdiv (2 ^ (min n k.bits)))
def negT (k : IntKind) (x : TT k) : TT k := ofI k (0 - toI k x)
def notT (k : IntKind) (x : TT k) : TT k := ofI k ((BitVec.ofInt k.bits (if k.signed then -1 else k.max) ^^^ BitVec.ofInt k.bits (toI k x)).toNat : Int)
def convT (k k' : IntKind) (x : TT k) : TT k' := ofI k' (toI k x)
def eqT (k : IntKind) (x y : TT k) : Bool := toI k x == toI k y
def ltT (k : IntKind) (x y : TT k) : Bool := decide (toI k x < toI k y)
def leT (k : IntKind) (x y : TT k) : Bool := decide (toI k x ≤ toI k y)
def eqL (k : IntKind) : List (TT k) → List (TT k) → Bool
  | [], [] => true
  | x :: xs, y :: ys => eqT k x y && eqL k xs ys
  | _, _ => false

/-! ### values -/
/-- A step from a variable to a part of it. -/
inductive Step where
  | f (i : Nat)
  | i (n : Nat)

/-! ### records that are only read, by a tag -/
structure CommD where
  id : Int
  hid : List UInt8
  bin : List UInt8

structure SeenD where
  kind : Int
  event : Int
  id : Int
  ses : List UInt8
  src : Int
  dst : Int
  bytes : List UInt8
  pair : CommD
  list : List CommD
  text : List UInt8
  share : List UInt8
  sig : List UInt8
  code : Int
  ids : List Int

structure AcctD where
  ses : List UInt8
  ids : List Int
  text : List UInt8
  done : Bool
  sig : List UInt8
  failed : Bool
  code : Int
  culprits : List Int
  shared : List Int

inductive VT where
  | hash
  | comm
  | seen
  | acct

abbrev VT.ty : VT → Type
  | .hash => List UInt8
  | .comm => CommD
  | .seen => SeenD
  | .acct => AcctD

inductive AVal : Type 1 where
  | int (k : IntKind) (x : TT k)
  | bool (b : Bool)
  | str (s : List UInt8)
  | arr (k : IntKind) (n : Nat) (l : List (TT k))
  | unit
  | pair (a b : AVal)
  | ptr (key : Nat) (p : List Step)
  | nilptr
  /-- a slice of a block of this call's (or of one that it was lent): from the part at `p`, `len` elements from `off` on -/
  | sl (key : Nat) (p : List Step) (off len : Nat)
  /-- a slice of all elements of a block -/
  | sw (key : Nat)
  | nilsl
  /-- a slice that is only read: its elements -/
  | vw (k : IntKind) (l : List (TT k))
  | vr (t : VT) (e : Nat) (enc : t.ty → AVal) (d : t.ty) (l : List t.ty)
  /-- a pointer to what is only read -/
  | vp (v : AVal)
  /-- a pointer to n elements of a slice -/
  | kp (key : Nat) (p : List Step) (off n : Nat)
  | iface (t : Nat) (v : AVal)
  | nilIface
  | fn (f : Fn) (first captured : AVal)
  | nilfn
  | tnil
  | tcons (a b : AVal)
  /-- a pointer to a package-level variable, or to what such a one points to: what stands there is known -/
  | gp (id : Nat)
  /-- what stands for a type -/
  | th (t : Nat)
  /-- a map of this call's -/
  | mp (key : Nat)
  | nilmap
  /-- a value of the model's, as it is -/
  | raw (x : Value)

namespace AVal
def getF : AVal → Nat → Option AVal
  | .pair a _, 0 => some a
  | .pair _ b, n + 1 => getF b n
  | _, _ => none

def setF : AVal → Nat → AVal → Option AVal
  | .pair _ b, 0, v => some (.pair v b)
  | .pair a b, n + 1, v => match setF b n v with
    | some b' => some (.pair a b')
    | none => none
  | _, _, _ => none

def getT : AVal → Nat → Option AVal
  | .tcons a _, 0 => some a
  | .tcons _ b, n + 1 => getT b n
  | _, _ => none

def getP : List Step → AVal → Option AVal
  | [], v => some v
  | .f i :: p, v => match getF v i with
    | some u => getP p u
    | none => none
  | .i n :: p, v => match v with
    | .arr k _ l => match p with
      | [] => some (.int k (l.getD n (zeroT k)))
      | _ => none
    | v => match getF v n with
      | some u => getP p u
      | none => none

def setP : List Step → AVal → AVal → Option AVal
  | [], _, x => some x
  | .f i :: p, v, x => match getF v i with
    | some u => match setP p u x with
      | some u' => setF v i u'
      | none => none
    | none => none
  | .i n :: p, v, x => match v with
    | .arr k m l => match p, x with
      | [], .int k' y => match castT k k' y with
        | some y => some (.arr k m (l.set n y))
        | none => none
      | _, _ => none
    | v => match getF v n with
      | some u => match setP p u x with
        | some u' => setF v n u'
        | none => none
      | none => none

/-- The blocks that a value names. -/
def keys : AVal → List Nat
  | .pair a b => keys a ++ keys b
  | .ptr k _ => [k]
  | .sl k _ _ _ => [k]
  | .sw k => [k]
  | .kp k _ _ _ => [k]
  | .iface _ v => keys v
  | .fn _ a b => keys a ++ keys b
  | .tcons a b => keys a ++ keys b
  | .mp k => [k]
  | _ => []

def rename (r : Nat → Nat) : AVal → AVal
  | .pair a b => .pair (rename r a) (rename r b)
  | .ptr k p => .ptr (r k) p
  | .sl k p o n => .sl (r k) p o n
  | .sw k => .sw (r k)
  | .kp k p o n => .kp (r k) p o n
  | .iface t v => .iface t (rename r v)
  | .fn f a b => .fn f (rename r a) (rename r b)
  | .tcons a b => .tcons (rename r a) (rename r b)
  | .mp k => .mp (r k)
  | v => v

/-- Does it hold anything that is only read? -/
def views : AVal → Bool
  | .pair a b => views a || views b
  | .vw .. => true
  | .vr .. => true
  | .vp .. => true
  | .iface _ v => views v
  | .fn _ a b => views a || views b
  | .tcons a b => views a || views b
  | _ => false

def ofList : List AVal → AVal
  | [] => .unit
  | v :: vs => .pair v (ofList vs)

def toList : AVal → List AVal
  | .pair a b => a :: toList b
  | _ => []

def tup : List AVal → AVal
  | [] => .tnil
  | v :: vs => .tcons v (tup vs)
end AVal

/-! ### records as values -/
def hashE (l : List UInt8) : AVal := .arr .u8 32 l
def commE (c : CommD) : AVal := .pair (.int .i64 c.id) (.pair (.arr .u8 32 c.hid) (.pair (.arr .u8 32 c.bin) .unit))
def hash0 : List UInt8 := List.replicate 32 (zeroT .u8)
def comm0 : CommD := ⟨0, hash0, hash0⟩
def seenE (s : SeenD) : AVal := .pair (.int .i64 s.kind) (.pair (.int .i64 s.event) (.pair (.int .i64 s.id) (.pair (.arr .u8 32 s.ses)
  (.pair (.pair (.int .i64 s.src) (.pair (.int .i64 s.dst) (.pair (.vw .u8 s.bytes) .unit))) (.pair (commE s.pair) (.pair (.vr .comm 88 commE comm0 s.list)
  (.pair (.vw .u8 s.text) (.pair (.arr .u8 32 s.share) (.pair (.arr .u8 64 s.sig) (.pair (.int .i64 s.code) (.pair (.vw .i64 s.ids) .unit)))))))))))
def acctE (a : AcctD) : AVal := .pair (.arr .u8 32 a.ses) (.pair (.vw .i64 a.ids) (.pair (.vw .u8 a.text) (.pair (.bool a.done) (.pair (.arr .u8 64 a.sig)
  (.pair (.bool a.failed) (.pair (.int .i64 a.code) (.pair (.vw .i64 a.culprits) (.pair (.vw .i64 a.shared) .unit))))))))
def encT : (t : VT) → t.ty → AVal
  | .hash => hashE
  | .comm => commE
  | .seen => seenE
  | .acct => acctE

/-! ### types -/
inductive TD where
  | bool
  | int (k : IntKind)
  | str
  | ptr (e : Nat)
  | slice (e : Nat)
  | arr (n e : Nat)
  | struct (fs : List Nat)
  | iface
  | func
  | map (k e : Nat)

structure Codec : Type 1 where
  α : Type
  enc : α → AVal
  dec : AVal → Option α
  dflt : α
  /-- where values may be keys of a map: are two one? -/
  eq : Option (α → α → Bool)
  /-- what they are where they are only read -/
  vt : Option ((t : VT) × (List α → List t.ty) × (List t.ty → List α)) := none

structure Env : Type 1 where
  td : Nat → Option TD
  sz : Nat → Nat
  bytes : Nat → Nat
  codec : Nat → Option Codec
  /-- structs and arrays that may be held against each other -/
  eq : Nat → Bool
  /-- the method of a name of a dynamic type: a function, that takes the value as it is -/
  meth : Nat → String → Option Nat
  /-- package-level variables (below 1000: by their number), and what they point to: type and content -/
  gv : Nat → Option (Nat × AVal)
  /-- the number of package-level variables of the program -/
  ng : Nat
  /-- does a type have an interface type's methods? -/
  impl : Nat → Nat → Option Bool

def zeroL (z : Nat → Option AVal) : List Nat → Option AVal
  | [] => some .unit
  | t :: ts => match z t with
    | some v => match zeroL z ts with
      | some vs => some (.pair v vs)
      | none => none
    | none => none

def zeroV (env : Env) : Nat → Nat → Option AVal
  | 0, _ => none
  | d + 1, t => match env.td t with
    | some .bool => some (.bool false)
    | some (.int k) => some (.int k (zeroT k))
    | some .str => some (.str [])
    | some (.ptr _) => some .nilptr
    | some (.slice _) => some .nilsl
    | some (.arr n e) => match env.td e with
      | some (.int k) => some (.arr k n (List.replicate n (zeroT k)))
      | _ => zeroL (zeroV env d) (List.replicate n e)
    | some (.struct fs) => zeroL (zeroV env d) fs
    | some .iface => some .nilIface
    | some .func => some .nilfn
    | some (.map _ _) => some .nilmap
    | none => none

def IntKind.same : IntKind → IntKind → Bool
  | .u8, .u8 => true
  | .u16, .u16 => true
  | .u32, .u32 => true
  | .u64, .u64 => true
  | .i8, .i8 => true
  | .i16, .i16 => true
  | .i32, .i32 => true
  | .i64, .i64 => true
  | _, _ => false

def hasL (h : Nat → AVal → Bool) : List Nat → AVal → Bool
  | [], .unit => true
  | t :: ts, .pair a b => match h t a with
    | true => hasL h ts b
    | false => false
  | _, _ => false

def isSlV : Value → Bool
  | .slice .. => true
  | _ => false

/-- Is it of the type, as its form shows? -/
def hasTy (env : Env) : Nat → Nat → AVal → Bool
  | 0, _, _ => false
  | d + 1, t, v => match env.td t, v with
    | some .bool, .bool _ => true
    | some (.int k), .int k' _ => IntKind.same k k'
    | some .str, .str _ => true
    | some (.ptr _), .ptr _ _ => true
    | some (.ptr _), .nilptr => true
    | some (.ptr _), .gp _ => true
    | some (.ptr _), .th _ => true
    | some (.map _ _), .mp _ => true
    | some (.map _ _), .nilmap => true
    | some (.slice _), .sl _ _ _ _ => true
    | some (.slice _), .sw _ => true
    | some (.slice _), .nilsl => true
    | some (.slice _), .vw _ _ => true
    | some (.slice _), .vr _ _ _ _ _ => true
    | some (.slice _), .raw x => isSlV x
    | some (.arr n e), v => match env.td e, v with
      | some (.int k), .arr k' n' _ => match IntKind.same k k' with
        | true => Nat.beq n n'
        | false => false
      | some (.int _), _ => false
      | some _, v => hasL (hasTy env d) (List.replicate n e) v
      | none, _ => false
    | some (.struct fs), v => hasL (hasTy env d) fs v
    | some .iface, .iface _ _ => true
    | some .iface, .nilIface => true
    | some .func, .fn _ _ _ => true
    | some .func, .nilfn => true
    | _, _ => false

def sumSz (env : Env) : List Nat → Nat
  | [] => 0
  | t :: ts => env.sz t + sumSz env ts

def nth : List Nat → Nat → Option Nat
  | [], _ => none
  | t :: _, 0 => some t
  | _ :: ts, n + 1 => nth ts n

/-- The type of the part at a path. -/
def typeP (env : Env) : List Step → Nat → Option Nat
  | [], t => some t
  | .f i :: p, t => match env.td t with
    | some (.struct fs) => match nth fs i with
      | some u => typeP env p u
      | none => none
    | _ => none
  | .i _ :: p, t => match env.td t with
    | some (.arr _ e) => typeP env p e
    | _ => none

/-- The cells ahead of the part at a path. -/
def offP (env : Env) : List Step → Nat → Nat
  | [], _ => 0
  | .f i :: p, t => match env.td t with
    | some (.struct fs) => match nth fs i with
      | some u => sumSz env (fs.take i) + offP env p u
      | none => 0
    | _ => 0
  | .i n :: p, t => match env.td t with
    | some (.arr _ e) => n * env.sz e + offP env p e
    | _ => 0

/-! ### memory -/
inductive Root where
  /-- a variable of a type -/
  | var (t : Nat)
  /-- elements of a type, one behind the other -/
  | row (e : Nat)
  /-- a map -/
  | map (k e : Nat)

def Root.isMap : Root → Bool
  | .map _ _ => true
  | _ => false

inductive Cont : Type 1 where
  | var (v : AVal)
  | ints (k : IntKind) (l : List (TT k))
  | recs (c : Codec) (l : List c.α)
  | vals (l : List AVal)
  | map (k v : Codec) (l : List (k.α × v.α))
  | mapv (k : Codec) (l : List (k.α × AVal))

structure Blk : Type 1 where
  root : Root
  c : Cont

def Root.type (env : Env) : Root → List Step → Option Nat
  | .var t, p => typeP env p t
  | .row e, .i _ :: p => typeP env p e
  | .row _, _ => none
  | .map _ _, _ => none

def Root.off (env : Env) : Root → List Step → Nat
  | .var t, p => offP env p t
  | .row e, .i n :: p => n * env.sz e + offP env p e
  | .row _, _ => 0
  | .map _ _, _ => 0

def nthV : List AVal → Nat → Option AVal
  | [], _ => none
  | v :: _, 0 => some v
  | _ :: vs, n + 1 => nthV vs n

def setV : List AVal → Nat → AVal → Option (List AVal)
  | [], _, _ => none
  | _ :: vs, 0, x => some (x :: vs)
  | v :: vs, n + 1, x => match setV vs n x with
    | some vs' => some (v :: vs')
    | none => none

def Cont.get : Cont → List Step → Option AVal
  | .var v, p => AVal.getP p v
  | .ints k l, [.i n] => some (.int k (l.getD n (zeroT k)))
  | .recs c l, .i n :: p => AVal.getP p (c.enc (l.getD n c.dflt))
  | .vals l, .i n :: p => match nthV l n with
    | some v => AVal.getP p v
    | none => none
  | _, _ => none

def Cont.set : Cont → List Step → AVal → Option Cont
  | .var v, p, x => match AVal.setP p v x with
    | some v' => some (.var v')
    | none => none
  | .ints k l, [.i n], .int k' y => match castT k k' y with
    | some y => some (.ints k (l.set n y))
    | none => none
  | .recs c l, .i n :: p, x => match AVal.setP p (c.enc (l.getD n c.dflt)) x with
    | some v => match c.dec v with
      | some a => some (.recs c (l.set n a))
      | none => none
    | none => none
  | .vals l, .i n :: p, x => match nthV l n with
    | some v => match AVal.setP p v x with
      | some v' => match setV l n v' with
        | some l' => some (.vals l')
        | none => none
      | none => none
    | none => none
  | _, _, _ => none

def keysL : List AVal → List Nat
  | [] => []
  | v :: vs => v.keys ++ keysL vs

def keysM {α : Type} : List (α × AVal) → List Nat
  | [] => []
  | (_, v) :: vs => v.keys ++ keysM vs

def Cont.keys : Cont → List Nat
  | .var v => v.keys
  | .vals l => keysL l
  | .mapv _ l => keysM l
  | _ => []

def viewsL : List AVal → Bool
  | [] => false
  | v :: vs => v.views || viewsL vs

def renameL (r : Nat → Nat) : List AVal → List AVal
  | [] => []
  | v :: vs => v.rename r :: renameL r vs

def viewsM {α : Type} : List (α × AVal) → Bool
  | [] => false
  | (_, v) :: vs => v.views || viewsM vs

def renameM {α : Type} (r : Nat → Nat) : List (α × AVal) → List (α × AVal)
  | [] => []
  | (a, v) :: vs => (a, v.rename r) :: renameM r vs

def Cont.rename (r : Nat → Nat) : Cont → Cont
  | .var v => .var (v.rename r)
  | .vals l => .vals (renameL r l)
  | .mapv k l => .mapv k (renameM r l)
  | c => c

def Cont.views : Cont → Bool
  | .var v => v.views
  | .vals l => viewsL l
  | .mapv _ l => viewsM l
  | _ => false

abbrev Heap := Nat → Option Blk
end Go.Abs
