/- The abstract evaluator: operations, regions, code, functions. -/
import Derived.Test.YtadiphoihflmiaaGreatDoorZaa
import Derived.Still
set_option linter.all false
namespace Go.Abs

/-! ### small words -/
def ob {α : Type 1} (x : Option α) (k : α → Prop) : Prop := match x with
  | some a => k a
  | none => False
def ob0 {α : Type} (x : Option α) (k : α → Prop) : Prop := match x with
  | some a => k a
  | none => False
def chk (b : Bool) (p : Prop) : Prop := match b with
  | true => p
  | false => False
def br (b : Bool) (p q : Prop) : Prop := match b with
  | true => p
  | false => q

/-- What an operation does: the value that it leaves in its slot, the blocks that it turns. -/
structure Eff : Type 1 where
  val : Option AVal
  upd : List (Nat × Option Blk)

/-- What is known of a function: what it answers to values and blocks. -/
structure Ctr : Type 1 where
  run : List AVal → List Blk → (AVal → List (Nat × Blk) → Prop) → Prop

abbrev Tab := Nat → Option Ctr

def upd1 (h : Heap) (k : Nat) (b : Option Blk) : Heap := fun j => match Nat.beq j k with
  | true => b
  | false => h j
def updL (h : Heap) : List (Nat × Option Blk) → Heap
  | [] => h
  | (k, b) :: us => updL (upd1 h k b) us
def lookL : List (Nat × Blk) → Heap
  | [], _ => none
  | (k, b) :: us, j => match Nat.beq j k with
    | true => some b
    | false => lookL us j
def ofBlks : Nat → List Blk → Heap
  | _, [], _ => none
  | i, b :: bs, j => match Nat.beq j i with
    | true => some b
    | false => ofBlks (i + 1) bs j

/-- Slots, blocks, and at which places blocks were made since the last numbering. -/
structure St : Type 1 where
  tmps : List (Option AVal)
  heap : Heap
  used : Nat → Bool

def getL {α : Type 1} : List (Option α) → Nat → Option α
  | [], _ => none
  | v :: _, 0 => v
  | _ :: vs, n + 1 => getL vs n

def absConst : Value → Option AVal
  | .bool b => some (.bool b)
  | .int k n => match (toI k (rawI k n) == n : Bool) with
    | true => some (.int k (rawI k n))
    | false => none
  | .string s => some (.str s.data.toList)
  | .pointer none => some .nilptr
  | .map none => some .nilmap
  | .slice none 0 0 => some .nilsl
  | .nilIface => some .nilIface
  | .nilFunc => some .nilfn
  | _ => none

def opVal (tmps : List (Option AVal)) : Operand → Option AVal
  | .tmp t => getL tmps t
  | .const v => absConst v
  | .global g => match Nat.blt g 1000 with
    | true => some (.gp g)
    | false => none
  | .func f => some (.fn (.func f) .unit .unit)

def opVals (tmps : List (Option AVal)) : List Operand → Option (List AVal)
  | [] => some []
  | x :: xs => match opVal tmps x with
    | some v => match opVals tmps xs with
      | some vs => some (v :: vs)
      | none => none
    | none => none

/-! ### lists of numbers of blocks -/
def memN (k : Nat) : List Nat → Bool
  | [] => false
  | j :: js => match Nat.beq k j with
    | true => true
    | false => memN k js

def disj : List Nat → List Nat → Bool
  | [], _ => true
  | k :: ks, l => match memN k l with
    | true => false
    | false => disj ks l

def subN : List Nat → List Nat → Bool
  | [], _ => true
  | k :: ks, l => match memN k l with
    | true => subN ks l
    | false => false

def nodupN : List Nat → Bool
  | [] => true
  | k :: ks => match memN k ks with
    | true => false
    | false => nodupN ks

def allLt (n : Nat) : List Nat → Bool
  | [] => true
  | k :: ks => match Nat.blt k n with
    | true => allLt n ks
    | false => false

/-- All blocks that are reached from these, in order, each once. -/
def reach (h : Heap) : Nat → List Nat → List Nat → List Nat
  | 0, _, seen => seen
  | _ + 1, [], seen => seen
  | n + 1, k :: ks, seen => match memN k seen with
    | true => reach h n ks seen
    | false => match h k with
      | some b => reach h n (ks ++ b.c.keys) (seen ++ [k])
      | none => reach h n ks (seen ++ [k])

def keysAt (h : Heap) : List Nat → List Nat
  | [] => []
  | k :: ks => match h k with
    | some b => b.c.keys ++ keysAt h ks
    | none => keysAt h ks

def idxN (k : Nat) : List Nat → Nat
  | [] => 0
  | j :: js => match Nat.beq k j with
    | true => 0
    | false => idxN k js + 1

def nthN : List Nat → Nat → Nat
  | [], _ => 0
  | k :: _, 0 => k
  | _ :: ks, n + 1 => nthN ks n

def Blk.rename (r : Nat → Nat) (b : Blk) : Blk := ⟨b.root, b.c.rename r⟩

def blksOf (h : Heap) (r : Nat → Nat) : List Nat → Option (List Blk)
  | [] => some []
  | k :: ks => match h k with
    | some b => match blksOf h r ks with
      | some bs => some (b.rename r :: bs)
      | none => none
    | none => none

/-- The blocks at these keys, numbered from i on. -/
def listOf (h : Heap) (r : Nat → Nat) : Nat → List Nat → List (Nat × Blk)
  | _, [] => []
  | i, k :: ks => match h k with
    | some b => (i, b.rename r) :: listOf h r (i + 1) ks
    | none => listOf h r (i + 1) ks

/-! ### slices -/
/-- The elements of a slice. -/
inductive Seq : Type 1 where
  | ints (k : IntKind) (l : List (TT k))
  | recs {α : Type} (enc : α → AVal) (d : α) (l : List α)
  | views (t : VT) (l : List t.ty)
  | vals (l : List AVal)

def Seq.len : Seq → Nat
  | .ints _ l => l.length
  | .recs _ _ l => l.length
  | .views _ l => l.length
  | .vals l => l.length

def Seq.sub : Seq → Nat → Nat → Seq
  | .ints k l, off, len => .ints k ((l.drop off).take len)
  | .recs enc d l, off, len => .recs enc d ((l.drop off).take len)
  | .views t l, off, len => .views t ((l.drop off).take len)
  | .vals l, off, len => .vals ((l.drop off).take len)

def Cont.seq : Cont → Option Seq
  | .ints k l => some (.ints k l)
  | .recs c l => some (.recs c.enc c.dflt l)
  | .vals l => some (.vals l)
  | _ => none

def isInt (env : Env) (e : Nat) (k : IntKind) : Bool := match env.td e with
  | some (.int k') => IntKind.same k k'
  | _ => false

/-- Is it the whole of an array? -/
def fullB (off len n : Nat) : Bool := match Nat.beq off 0 with
  | true => match Nat.blt 0 len with
    | true => Nat.beq len n
    | false => false
  | false => false

/-- The elements of a slice whose elements are of type e. -/
def seqOf (env : Env) (h : Heap) (e : Nat) : AVal → Option Seq
  | .nilsl => some (.vals [])
  | .sw key => match h key with
    | some ⟨.row e', c⟩ => match Nat.beq e e' with
      | true => c.seq
      | false => none
    | _ => none
  | .sl key [] off len => match h key with
    | some ⟨.row e', c⟩ => match Nat.beq e e' with
      | true => match c.seq with
        | some q => some (q.sub off len)
        | none => none
      | false => none
    | some ⟨.var t, .var (.arr k n l)⟩ => match env.td t with
      | some (.arr m e') => match Nat.beq e e', Nat.beq m n with
        | true, true => match fullB off len n with
          | true => some (.ints k l)
          | false => some (.ints k ((l.drop off).take len))
        | _, _ => none
      | _ => none
    | _ => none
  | .sl key (s :: p) off len => match h key with
    | some b => match b.root.type env (s :: p) with
      | some t => match env.td t with
        | some (.arr m e') => match Nat.beq e e' with
          | true => match b.c.get (s :: p) with
            | some (.arr k n l) => match Nat.beq m n with
              | true => match fullB off len n with
                | true => some (.ints k l)
                | false => some (.ints k ((l.drop off).take len))
              | false => none
            | _ => none
          | false => none
        | _ => none
      | none => none
    | none => none
  | .vw k l => match isInt env e k with
    | true => some (.ints k l)
    | false => none
  | .vr tg e' enc d l => match Nat.beq e e' with
    | true => some (.views tg l)
    | false => none
  | _ => none

/-! ### calls -/
def fstH : List (Nat × Blk) → List Nat
  | [] => []
  | (k, _) :: us => k :: fstH us

def fstL : List (Nat × Option Blk) → List Nat
  | [] => []
  | (k, _) :: us => k :: fstL us

def goneOf (h2 : List (Nat × Blk)) : Nat → List Nat → List (Nat × Option Blk)
  | _, [] => []
  | i, k :: ks => match lookL h2 i with
    | some _ => goneOf h2 (i + 1) ks
    | none => (k, none) :: goneOf h2 (i + 1) ks

def backOf (ks : List Nat) (n base : Nat) (j : Nat) : Nat := match Nat.blt j n with
  | true => nthN ks j
  | false => base + (j - n)

def putsOf (r : Nat → Nat) : List (Nat × Blk) → List (Nat × Option Blk)
  | [] => []
  | (j, b) :: hs => (r j, some (b.rename r)) :: putsOf r hs

def keysB : List (Nat × Blk) → List Nat
  | [] => []
  | (_, b) :: hs => b.c.keys ++ keysB hs

/-- A function value's own arguments. -/
def isList : AVal → Bool
  | .unit => true
  | .pair _ b => isList b
  | _ => false

/-- A call, its arguments ready. -/
def callBase (c : Ctr) (base : Nat) (h : Heap) (us : List AVal) (K : AVal → List (Nat × Option Blk) → Prop) : Prop :=
  let ks := reach h 512 (keysL us) []
  chk (nodupN ks) (chk (subN (keysL us) ks) (chk (subN (keysAt h ks) ks)
  (ob (blksOf h (fun k => idxN k ks) ks) fun bs =>
  c.run (renameL (fun k => idxN k ks) us) bs fun v h2 =>
  chk (nodupN (fstH h2)) (chk (allLt (ks.length + 256) (fstH h2)) (chk (allLt (ks.length + 256) (keysB h2)) (chk (allLt (ks.length + 256) v.keys)
  (K (v.rename (backOf ks ks.length base)) (goneOf h2 0 ks ++ putsOf (backOf ks ks.length base) h2))))))))

def evalCall (C : Tab) (base : Nat) (h : Heap) (f : Nat) (vs : List AVal) (K : Eff → Prop) : Prop :=
  ob (C f) fun c => callBase c base h vs fun v upd => K ⟨some v, upd⟩

/-! ### operations -/
def isNeg (k : IntKind) (x : TT k) : Bool := match k.signed with
  | true => decide (toI k x < 0)
  | false => false

/-- An index that must be below n. -/
def ix (v : AVal) (n : Nat) (K : Nat → Prop) : Prop := match v with
  | .int k x => chk (!isNeg k x) (chk (decide (toI k x < (n : Int))) (K (toI k x).toNat))
  | _ => False

/-- A bound that is n at most. -/
def bd (v : AVal) (n : Nat) (K : Nat → Prop) : Prop := match v with
  | .int k x => chk (!isNeg k x) (chk (decide (toI k x ≤ (n : Int))) (K (toI k x).toNat))
  | _ => False

def bdO (v : Option AVal) (dflt n : Nat) (K : Nat → Prop) : Prop := match v with
  | none => K dflt
  | some v => bd v n K

def binInt (op : BinOp) (k : IntKind) (x y : TT k) (K : AVal → Prop) : Prop := match op with
  | .add => K (.int k (addT k x y))
  | .sub => K (.int k (subT k x y))
  | .mul => K (.int k (mulT k x y))
  | .quo => chk (!(toI k y == 0)) (K (.int k (quoT k x y)))
  | .rem => chk (!(toI k y == 0)) (K (.int k (remT k x y)))
  | .and => K (.int k (andT k x y))
  | .or => K (.int k (orT k x y))
  | .xor => K (.int k (xorT k x y))
  | .andNot => K (.int k (andNotT k x y))
  | .eql => K (.bool (eqT k x y))
  | .neq => K (.bool (!eqT k x y))
  | .lss => K (.bool (ltT k x y))
  | .leq => K (.bool (leT k x y))
  | .gtr => K (.bool (ltT k y x))
  | .geq => K (.bool (leT k y x))
  | _ => False

def andB (a b : Bool) : Bool := match a with
  | true => b
  | false => false

def eqL' (f : Nat → AVal → AVal → Option Bool) : List Nat → AVal → AVal → Option Bool
  | [], .unit, .unit => some true
  | t :: ts, .pair a b, .pair c d => match f t a c with
    | some x => match eqL' f ts b d with
      | some y => some (andB x y)
      | none => none
    | none => none
  | _, _, _ => none

def eqPtr (env : Env) (e i j : Nat) : Option Bool := match env.td e, env.gv i, env.gv j with
  | some _, some _, some _ => match Nat.ble 1000 i, Nat.ble 1000 j, Nat.beq (env.sz e) 0 with
    | true, true, false => some (Nat.beq i j)
    | _, _, _ => none
  | _, _, _ => none

/-- Are two values of a type one (none: not known here)? -/
def eqV (env : Env) : Nat → Nat → AVal → AVal → Option Bool
  | 0, _, _, _ => none
  | d + 1, t, v, w => match env.td t, v, w with
    | some (.int _), .int k x, .int k' y => match castT k k' y with
      | some y => some (eqT k x y)
      | none => none
    | some .bool, .bool a, .bool b => some (a == b)
    | some .str, .str a, .str b => some (a == b)
    | some (.arr n e), .arr k m l, .arr k' m' l' => match env.td e with
      | some (.int _) => match castL k k' l', Nat.beq n m, Nat.beq n m' with
        | some l', true, true => some (eqL k l l')
        | _, _, _ => none
      | _ => none
    | some (.struct fs), v, w => match env.eq t with
      | true => eqL' (eqV env d) fs v w
      | false => none
    | some .iface, .nilIface, .iface _ _ => some false
    | some .iface, .iface _ _, .nilIface => some false
    | some .iface, .iface t v, .iface u w => match Nat.beq t u with
      | true => match env.td t, v, w with
        | some (.int _), .int k x, .int k' y => match castT k k' y with
          | some y => some (eqT k x y)
          | none => none
        | some (.ptr e), .gp i, .gp j => eqPtr env e i j
        | _, _, _ => none
      | false => some false
    | some (.ptr _), .nilptr, .nilptr => some true
    | some (.ptr _), .nilptr, .ptr _ _ => some false
    | some (.ptr _), .ptr _ _, .nilptr => some false
    | some (.ptr _), .nilptr, .gp _ => some false
    | some (.ptr _), .gp _, .nilptr => some false
    | some (.ptr e), .gp i, .gp j => eqPtr env e i j
    | some (.map _ _), .nilmap, .nilmap => some true
    | some (.map _ _), .nilmap, .mp _ => some false
    | some (.map _ _), .mp _, .nilmap => some false
    | some (.slice _), .nilsl, .nilsl => some true
    | some .func, .nilfn, .nilfn => some true
    | some .func, .fn _ _ _, .nilfn => some false
    | some .func, .nilfn, .fn _ _ _ => some false
    | _, _, _ => none

/-- nil against nil of an interface type: where one of the two is the literal. -/
def isLit : Operand → Bool
  | .const _ => true
  | _ => false

def AVal.agg : AVal → Bool
  | .arr .. => true
  | .unit => true
  | .pair .. => true
  | _ => false

def eqA (env : Env) (t : Nat) (x y : Operand) (a b : AVal) : Option Bool := match a, b with
  | .nilIface, .nilIface => match isLit x || isLit y, env.td t with
    | true, some .iface => some true
    | _, _ => none
  | a, b => match hasTy env 8 t a, hasTy env 8 t b with
    | true, true => match AVal.agg a with
      | true => match env.eq t with
        | true => eqV env 8 t a b
        | false => none
      | false => eqV env 8 t a b
    | _, _ => none

def binOpA (env : Env) (op : BinOp) (t : Nat) (x y : Operand) (a b : AVal) (K : AVal → Prop) : Prop := match op, a, b with
  | .shl, .int k x, .int k' y => chk (!isNeg k' y) (K (.int k (shlT k x (toI k' y).toNat)))
  | .shr, .int k x, .int k' y => chk (!isNeg k' y) (K (.int k (shrT k x (toI k' y).toNat)))
  | op, .int k x, .int k' y => ob0 (castT k k' y) fun y => binInt op k x y K
  | .add, .str a, .str b => chk (decide (a.length + b.length ≤ 1099511627776)) (K (.str (a ++ b)))
  | .eql, .str a, .str b => K (.bool (a == b))
  | .neq, .str a, .str b => K (.bool (!(a == b)))
  | .eql, a, b => ob0 (eqA env t x y a b) fun r => K (.bool r)
  | .neq, a, b => ob0 (eqA env t x y a b) fun r => K (.bool (!r))
  | _, _, _ => False

def unOpA (op : UnOp) (a : AVal) (K : AVal → Prop) : Prop := match op, a with
  | .neg, .int k x => K (.int k (negT k x))
  | .xor, .int k x => K (.int k (notT k x))
  | .not, .bool b => K (.bool (!b))
  | _, _ => False

/-- New storage of n elements that are zero. -/
def zeroRow (env : Env) (e n : Nat) : Option Cont := match env.td e with
  | some (.int k) => some (.ints k (List.replicate n (zeroT k)))
  | some _ => match env.codec e with
    | some c => some (.recs c (List.replicate n c.dflt))
    | none => match zeroV env 8 e with
      | some v => some (.vals (List.replicate n v))
      | none => none
  | none => none

/-- A slice that is written down: its elements as they are. -/
def litRow (env : Env) (e n : Nat) : Option Cont := match env.td e with
  | some (.int k) => some (.ints k (List.replicate n (zeroT k)))
  | some _ => match zeroV env 8 e with
    | some v => some (.vals (List.replicate n v))
    | none => none
  | none => none

def setAll (env : Env) (e n : Nat) : List (Nat × AVal) → Cont → Option Cont
  | [], c => some c
  | (i, v) :: vs, c => match hasTy env 8 e v, Nat.blt i n with
    | true, true => match c.set [.i i] v with
      | some c' => setAll env e n vs c'
      | none => none
    | _, _ => none

/-- A new variable of a type, zero. -/
def zeroVar (env : Env) (t : Nat) : Option Cont := match zeroV env 8 t with
  | some v => match env.td t with
    | some (.arr n e) => match env.td e, env.codec e with
      | some (.int _), _ => some (.var v)
      | _, some c => some (.recs c (List.replicate n c.dflt))
      | _, none => some (.var v)
    | _ => some (.var v)
  | none => none

def buildS (env : Env) (fs : List Nat) : List (Nat × AVal) → AVal → Option AVal
  | [], z => some z
  | (i, v) :: vs, z => match nth fs i with
    | some t => match hasTy env 8 t v with
      | true => match AVal.setF z i v with
        | some z' => buildS env fs vs z'
        | none => none
      | false => none
    | none => none

def buildA (env : Env) (n e : Nat) : List (Nat × AVal) → AVal → Option AVal
  | [], z => some z
  | (i, v) :: vs, z => match hasTy env 8 e v, Nat.blt i n with
    | true, true => match AVal.setP [.i i] z v with
      | some z' => buildA env n e vs z'
      | none => none
    | _, _ => none

def partVals (tmps : List (Option AVal)) : List (Nat × Operand) → Option (List (Nat × AVal))
  | [] => some []
  | (i, x) :: xs => match opVal tmps x with
    | some v => match partVals tmps xs with
      | some vs => some ((i, v) :: vs)
      | none => none
    | none => none

def lenV (env : Env) (h : Heap) (t : Nat) (v : AVal) : Option Nat := match env.td t, v with
  | some .str, .str s => some s.length
  | some (.arr n _), _ => some n
  | some (.slice _), .nilsl => some 0
  | some (.slice _), .sw k => match h k with
    | some ⟨.row _, c⟩ => match c.seq with
      | some q => some q.len
      | none => none
    | _ => none
  | some (.slice _), .sl _ _ _ n => some n
  | some (.slice _), .vw _ l => some l.length
  | some (.slice _), .vr _ _ _ _ l => some l.length
  | some (.ptr u), _ => match env.td u with
    | some (.arr n _) => some n
    | _ => none
  | _, _ => none

/-- What is appended or copied, as elements of type e. -/
def srcOf (env : Env) (h : Heap) (e : Nat) : AVal → Option Seq
  | .str s => match isInt env e .u8 with
    | true => some (.ints .u8 s)
    | false => none
  | v => seqOf env h e v

def Seq.toInts (k : IntKind) : Seq → Option (List (TT k))
  | .ints k' l => castL k k' l
  | .vals [] => some []
  | _ => none

def encAll {α : Type} (enc : α → AVal) : List α → List AVal
  | [] => []
  | a :: az => enc a :: encAll enc az

def Seq.toVals : Seq → Option (List AVal)
  | .vals l => some l
  | .recs enc _ l => some (encAll enc l)
  | .views t l => some (encAll (encT t) l)
  | .ints _ _ => none

def castV : (t' t : VT) → List t.ty → Option (List t'.ty)
  | .hash, .hash, l => some l
  | .comm, .comm, l => some l
  | .seen, .seen, l => some l
  | .acct, .acct, l => some l
  | _, _, _ => none
/-- Records that are only read, as a row's records. -/
def viewsIn (env : Env) (e : Nat) (c : Codec) : Seq → Option (List c.α)
  | .views t m => match env.codec e with
    | some c' => match c'.vt with
      | some vt' => match castV vt'.1 t m with
        | some _ => match c.vt with
          | some vt => match castV vt.1 t m with
            | some m' => some (vt.2.2 m')
            | none => none
          | none => none
        | none => none
      | none => none
    | none => none
  | _ => none

def decAll (c : Codec) : List AVal → Option (List c.α)
  | [] => some []
  | v :: vs => match c.dec v with
    | some a => match decAll c vs with
      | some az => some (a :: az)
      | none => none
    | none => none

def allTy (env : Env) (e : Nat) : List AVal → Bool
  | [] => true
  | v :: vs => match hasTy env 8 e v with
    | true => allTy env e vs
    | false => false

def roomy (n b : Nat) : Bool := decide (n * (b + 1) ≤ 70368744177664)

/-- What stands in a slice that is appended to. -/
def headOf (env : Env) (h : Heap) (e : Nat) : AVal → Option Cont
  | .nilsl => zeroRow env e 0
  | .sw key => match h key with
    | some ⟨.row e', c⟩ => match Nat.beq e e' with
      | true => some c
      | false => none
    | _ => none
  | _ => none

def Cont.join (env : Env) (e : Nat) (c : Cont) (q : Seq) : Option Cont := match c with
  | .ints k l => match isInt env e k, q.toInts k with
    | true, some m => some (.ints k (l ++ m))
    | _, _ => none
  | .recs c l => match viewsIn env e c q with
    | some m => some (.recs c (l ++ m))
    | none => match q.toVals with
      | some vs => match allTy env e vs, decAll c vs with
        | true, some m => some (.recs c (l ++ m))
        | _, _ => none
      | none => none
  | .vals l => match q.toVals with
    | some vs => match allTy env e vs with
      | true => some (.vals (l ++ vs))
      | false => none
    | none => none
  | _ => none

def Cont.count : Cont → Nat
  | .ints _ l => l.length
  | .recs _ l => l.length
  | .vals l => l.length
  | _ => 0

def goneKey : AVal → List (Nat × Option Blk)
  | .sw key => [(key, none)]
  | _ => []

def evalAppend (env : Env) (key : Nat) (h : Heap) (st : Nat) (s x : AVal) (K : Eff → Prop) : Prop :=
  match env.td st with
  | some (.slice e) => ob (headOf env h e s) fun c => ob (srcOf env h e x) fun q => ob (c.join env e q) fun c' => ob (zeroV env 8 e) fun _ =>
    chk (roomy (c.count + q.len) (env.bytes e)) (K ⟨some (.sw key), goneKey s ++ [(key, some ⟨.row e, c'⟩)]⟩)
  | _ => False

/-- A copy of numbers that are only read is only read. -/
def evalAppendV (env : Env) (key : Nat) (h : Heap) (st : Nat) (s x : AVal) (K : Eff → Prop) : Prop := match s, x with
  | .nilsl, .vw k l => evalAppend env key h st .nilsl (.vw k l) fun _ => K ⟨some (.vw k l), []⟩
  | s, x => evalAppend env key h st s x K

/-- m laid over l from a place on. -/
def splice {α : Type} (l : List α) (at_ : Nat) (m : List α) : List α := l.take at_ ++ m ++ l.drop (at_ + m.length)

def evalCopy (env : Env) (h : Heap) (st : Nat) (d x : AVal) (K : Eff → Prop) : Prop := match env.td st with
  | some (.slice e) => ob (srcOf env h e x) fun q => match d with
    | .sl key [] off len => ob (h key) fun b => match b with
      | ⟨.row e', .ints k l⟩ => chk (Nat.beq e e') (ob0 (q.toInts k) fun m =>
        K ⟨some (.int .i64 ((m.take len).length : Int)), [(key, some ⟨.row e', .ints k (splice l off (m.take len))⟩)]⟩)
      | ⟨.var t, .var (.arr k n l)⟩ => match env.td t with
        | some (.arr n' e') => chk (Nat.beq e e') (chk (Nat.beq n n') (ob0 (q.toInts k) fun m =>
          K ⟨some (.int .i64 ((m.take len).length : Int)), [(key, some ⟨.var t, .var (.arr k n (splice l off (m.take len)))⟩)]⟩))
        | _ => False
      | _ => False
    | .sl key (s :: p) off len => ob (h key) fun b => ob0 (b.root.type env (s :: p)) fun t => match env.td t with
      | some (.arr n' e') => chk (Nat.beq e e') (ob (b.c.get (s :: p)) fun v => match v with
        | .arr k n l => chk (Nat.beq n n') (ob0 (q.toInts k) fun m =>
          ob (b.c.set (s :: p) (.arr k n (splice l off (m.take len)))) fun c' =>
          K ⟨some (.int .i64 ((m.take len).length : Int)), [(key, some ⟨b.root, c'⟩)]⟩)
        | _ => False)
      | _ => False
    | .sw key => ob (h key) fun b => match b with
      | ⟨.row e', .ints k l⟩ => chk (Nat.beq e e') (ob0 (q.toInts k) fun m =>
        K ⟨some (.int .i64 ((m.take l.length).length : Int)), [(key, some ⟨.row e', .ints k (splice l 0 (m.take l.length))⟩)]⟩)
      | _ => False
    | _ => False
  | _ => False

def subV {α : Type} (l : List α) (lo hi : Option AVal) (a b : Nat) : List α := match lo, hi with
  | none, none => l
  | none, some _ => l.take b
  | some _, none => l.drop a
  | some _, some _ => (l.drop a).take (b - a)

/-- The elements' type of the array at a path of a block, and how many there are. -/
def arrAt (env : Env) (b : Blk) (p : List Step) : Option (Nat × Nat) := match b.root.type env p with
  | some u => match env.td u with
    | some (.arr n e) => some (n, e)
    | _ => none
  | none => none

/-- The elements' type where a slice of a block goes. -/
def elemAt (env : Env) (h : Heap) (key : Nat) (p : List Step) : Option Nat := match h key with
  | some ⟨.row e, c⟩ => match p with
    | [] => some e
    | p => match arrAt env ⟨.row e, c⟩ p with
      | some (_, e) => some e
      | none => none
  | some b => match arrAt env b p with
    | some (_, e) => some e
    | none => none
  | none => none

def sliceA (env : Env) (h : Heap) (t : Nat) (x : AVal) (lo hi : Option AVal) (K : AVal → Prop) : Prop := match env.td t with
  | some .str => match x with
    | .str s => bdO hi s.length s.length fun b => bdO lo 0 b fun a => K (.str (subV s lo hi a b))
    | _ => False
  | some (.slice e) => match x with
    | .nilsl => bdO hi 0 0 fun b => bdO lo 0 b fun _ => K .nilsl
    | .sw key => match h key with
      | some ⟨.row e', c⟩ => chk (Nat.beq e e') (ob c.seq fun q => bdO hi q.len q.len fun b => bdO lo 0 b fun a => K (.sl key [] a (b - a)))
      | _ => False
    | .sl key p off n => ob0 (elemAt env h key p) fun e' => chk (Nat.beq e e') (bdO hi n n fun b => bdO lo 0 b fun a => K (.sl key p (off + a) (b - a)))
    | .vw k l => chk (isInt env e k) (bdO hi l.length l.length fun b => bdO lo 0 b fun a => K (.vw k (subV l lo hi a b)))
    | .vr tg e' enc d l => chk (Nat.beq e e') (bdO hi l.length l.length fun b => bdO lo 0 b fun a => K (.vr tg e' enc d (subV l lo hi a b)))
    | _ => False
  | some (.arr n _) => match x with
    | .ptr key p => ob (h key) fun b => ob0 (b.root.type env p) fun u => chk (Nat.beq t u) (bdO hi n n fun b => bdO lo 0 b fun a => K (.sl key p a (b - a)))
    | _ => False
  | some (.ptr u) => match x with
    | .ptr key p => ob (h key) fun b => ob0 (b.root.type env p) fun u' => chk (Nat.beq u u') (match env.td u with
      | some (.arr n _) => bdO hi n n fun b => bdO lo 0 b fun a => K (.sl key p a (b - a))
      | _ => False)
    | _ => False
  | _ => False

def loadA (env : Env) (h : Heap) (t : Nat) (a : AVal) (K : AVal → Prop) : Prop := match a with
  | .ptr key p => ob (h key) fun b => ob0 (b.root.type env p) fun u => chk (Nat.beq t u) (ob (b.c.get p) K)
  | .vp v => chk (hasTy env 8 t v) (K v)
  | .kp key p off n => match env.td t with
    | some (.arr n' e) => chk (Nat.beq n n') (ob (seqOf env h e (.sl key p off n)) fun q => match q with
      | .ints k l => chk (isInt env e k) (K (.arr k n l))
      | _ => False)
    | _ => False
  | _ => False

def storeA (env : Env) (h : Heap) (t : Nat) (a v : AVal) (K : Eff → Prop) : Prop := match a with
  | .ptr key p => ob (h key) fun b => ob0 (b.root.type env p) fun u => chk (Nat.beq t u) (chk (hasTy env 8 t v) (ob (b.c.set p v) fun c => K ⟨none, [(key, some ⟨b.root, c⟩)]⟩))
  | _ => False

/-- One of n places: which one is asked of the number, so that each goes on with its own. -/
def splitN : Nat → Nat → Nat → (Nat → Prop) → Prop
  | 0, _, _, _ => False
  | n + 1, s, m, K => match Nat.beq m s with
    | true => K s
    | false => splitN n (Nat.add s 1) m K
def pickI (env : Env) (e n j : Nat) (K : Nat → Prop) : Prop := match env.td e with
  | some (.int _) => K j
  | _ => splitN n 0 j K
def indexAddrA (env : Env) (h : Heap) (t : Nat) (x i : AVal) (K : AVal → Prop) : Prop := match env.td t with
  | some (.arr n e) => match x with
    | .ptr key p => ob (h key) fun b => ob0 (b.root.type env p) fun u => chk (Nat.beq t u) (ix i n fun j => pickI env e n j fun j => K (.ptr key (p ++ [.i j])))
    | .vp v => match v with
      | .arr k n' l => chk (hasTy env 8 t (.arr k n' l)) (ix i n fun j => K (.vp (.int k (l.getD j (zeroT k)))))
      | _ => False
    | _ => False
  | some (.slice e) => match x with
    | .sw key => match h key with
      | some ⟨.row e', c⟩ => chk (Nat.beq e e') (ob c.seq fun q => ix i q.len fun j => K (.ptr key [.i j]))
      | _ => False
    | .sl key p off n => ob0 (elemAt env h key p) fun e' => chk (Nat.beq e e') (ix i n fun j => K (.ptr key (p ++ [.i (off + j)])))
    | .vw k l => chk (isInt env e k) (ix i l.length fun j => K (.vp (.int k (l.getD j (zeroT k)))))
    | .vr _ e' enc d l => chk (Nat.beq e e') (ix i l.length fun j => K (.vp (enc (l.getD j d))))
    | _ => False
  | _ => False

def convertA (env : Env) (key : Nat) (h : Heap) (src dst : Nat) (x : AVal) (K : Eff → Prop) : Prop := match env.td src, env.td dst with
  | some _, some (.int k') => match x with
    | .int k v => K ⟨some (.int k' (convT k k' v)), []⟩
    | _ => False
  | some _, some .str => match x with
    | .str s => K ⟨some (.str s), []⟩
    | v => match env.td src with
      | some (.slice e) => chk (isInt env e .u8) (ob (seqOf env h e v) fun q => ob0 (q.toInts .u8) fun l => K ⟨some (.str l), []⟩)
      | _ => False
  | some .str, some (.slice e) => match x with
    | .str s => chk (isInt env e .u8) (chk (roomy s.length 1) (K ⟨some (.sw key), [(key, some ⟨.row e, .ints .u8 s⟩)]⟩))
    | _ => False
  | _, _ => False

def s2apA (env : Env) (h : Heap) (t : Nat) (x : AVal) (K : AVal → Prop) : Prop := match env.td t with
  | some (.arr n e) => chk (Nat.blt 0 n) (match x with
    | .vw k l => chk (isInt env e k) (chk (decide (n ≤ l.length)) (K (.vp (.arr k n (l.take n)))))
    | .sw key => match h key with
      | some ⟨.row e', c⟩ => chk (Nat.beq e e') (ob c.seq fun q => chk (decide (n ≤ q.len)) (K (.kp key [] 0 n)))
      | _ => False
    | .sl key p off m => ob0 (elemAt env h key p) fun e' => chk (Nat.beq e e') (chk (decide (n ≤ m)) (K (.kp key p off n)))
    | _ => False)
  | _ => False

/-- A pointer to what is known, as a pointer to what is only read. -/
def gpv (env : Env) : AVal → AVal
  | .gp id => match env.gv id with
    | some (_, v) => .vp v
    | none => .gp id
  | v => v

/-! ### maps -/
universe v
/-- The first of its name. -/
def findM {α : Type} {β : Type 1} (f : α → α → Bool) (a : α) : List (α × β) → Option β
  | [] => none
  | (b, v) :: l => match f a b with
    | true => some v
    | false => findM f a l
def getM {α β : Type} (f : α → α → Bool) (a : α) (d : β) : List (α × β) → β
  | [] => d
  | (b, v) :: l => match f a b with
    | true => v
    | false => getM f a d l
def hasM {α : Type} {β : Type v} (f : α → α → Bool) (a : α) : List (α × β) → Bool
  | [] => false
  | (b, _) :: l => match f a b with
    | true => true
    | false => hasM f a l
def idxM {α : Type} {β : Type v} (f : α → α → Bool) (a : α) : List (α × β) → Nat
  | [] => 0
  | (b, _) :: l => match f a b with
    | true => 0
    | false => idxM f a l + 1
/-- A value put at its name, or behind the end. -/
def putM {α : Type} {β : Type v} (f : α → α → Bool) (a : α) (v : β) : List (α × β) → List (α × β)
  | [] => [(a, v)]
  | (b, x) :: l => match f a b with
    | true => (b, v) :: l
    | false => (b, x) :: putM f a v l
/-- A value put at a place. -/
def putAt {α : Type} {β : Type v} (v : β) : Nat → List (α × β) → List (α × β)
  | _, [] => []
  | 0, (b, _) :: l => (b, v) :: l
  | n + 1, x :: l => x :: putAt v n l

def okV (ok : Bool) (v : AVal) (b : Bool) : AVal := match ok with
  | true => .tup [v, .bool b]
  | false => v

/-- A key that a map may be asked for. -/
def keyOf (env : Env) (kt : Nat) (kc : Codec) (k : AVal) (K : (kc.α → kc.α → Bool) → kc.α → Prop) : Prop := match kc.eq, kc.dec k, env.codec kt with
  | some f, some a, some _ => K f a
  | _, _, _ => False

def evalLookup (env : Env) (h : Heap) (t : Nat) (m k : AVal) (ok : Bool) (K : AVal → Prop) : Prop := match env.td t with
  | some (.map kt vt) => match m with
    | .nilmap => ob (env.codec kt) fun kc => keyOf env kt kc k fun _ _ => ob (zeroV env 8 vt) fun z => K (okV ok z false)
    | .mp key => ob (h key) fun b => match b with
      | ⟨.map kt' vt', .map kc vc l⟩ => chk (Nat.beq kt kt') (chk (Nat.beq vt vt') (keyOf env kt kc k fun f a => K (okV ok (vc.enc (getM f a vc.dflt l)) (hasM f a l))))
      | ⟨.map kt' vt', .mapv kc l⟩ => chk (Nat.beq kt kt') (chk (Nat.beq vt vt') (keyOf env kt kc k fun f a => ob (zeroV env 8 vt) fun z => match findM f a l with
        | some v => K (okV ok v true)
        | none => K (okV ok z false)))
      | _ => False
    | _ => False
  | _ => False

def evalMapUpdate (env : Env) (h : Heap) (t : Nat) (m k v : AVal) (K : Eff → Prop) : Prop := match env.td t with
  | some (.map kt vt) => chk (hasTy env 8 vt v) (chk (hasTy env 8 kt k) (match m with
    | .mp key => ob (h key) fun b => match b with
      | ⟨.map kt' vt', .map kc vc l⟩ => chk (Nat.beq kt kt') (chk (Nat.beq vt vt') (keyOf env kt kc k fun f a => ob0 (vc.dec v) fun x => K ⟨none, [(key, some ⟨.map kt' vt', .map kc vc (putM f a x l)⟩)]⟩))
      | ⟨.map kt' vt', .mapv kc l⟩ => chk (Nat.beq kt kt') (chk (Nat.beq vt vt') (keyOf env kt kc k fun f a => K ⟨none, [(key, some ⟨.map kt' vt', .mapv kc (putM f a v l)⟩)]⟩))
      | _ => False
    | _ => False))
  | _ => False

def evalMapEntry (env : Env) (h : Heap) (t : Nat) (m k : AVal) (K : Eff → Prop) : Prop := match env.td t with
  | some (.map kt vt) => match m with
    | .mp key => ob (h key) fun b => match b with
      | ⟨.map kt' vt', .map kc vc l⟩ => chk (Nat.beq kt kt') (chk (Nat.beq vt vt') (keyOf env kt kc k fun f a =>
        K ⟨some (.tup [vc.enc (getM f a vc.dflt l), .int .i64 (idxM f a l : Int)]), [(key, some ⟨.map kt' vt', .map kc vc (putM f a (getM f a vc.dflt l) l)⟩)]⟩))
      | _ => False
    | _ => False
  | _ => False

def evalEntryStore (env : Env) (h : Heap) (t : Nat) (m n v : AVal) (K : Eff → Prop) : Prop := match env.td t with
  | some (.map kt vt) => chk (hasTy env 8 vt v) (match m, n with
    | .mp key, .int .i64 n => ob (h key) fun b => match b with
      | ⟨.map kt' vt', .map kc vc l⟩ => chk (Nat.beq kt kt') (chk (Nat.beq vt vt') (chk (decide (0 ≤ n)) (chk (decide (n < (l.length : Int))) (ob0 (vc.dec v) fun x => K ⟨none, [(key, some ⟨.map kt' vt', .map kc vc (putAt x n.toNat l)⟩)]⟩))))
      | _ => False
    | _, _ => False)
  | _ => False

def evalMakeMap (env : Env) (base t : Nat) (K : Eff → Prop) : Prop := match env.td t with
  | some (.map kt vt) => ob (env.codec kt) fun kc => match kc.eq with
    | some _ => match env.codec vt with
      | some vc => K ⟨some (.mp base), [(base, some ⟨.map kt vt, .map kc vc []⟩)]⟩
      | none => K ⟨some (.mp base), [(base, some ⟨.map kt vt, .mapv kc []⟩)]⟩
    | none => False
  | _ => False

def optVal (tmps : List (Option AVal)) : Option Operand → Option (Option AVal)
  | none => some none
  | some x => match opVal tmps x with
    | some v => some (some v)
    | none => none

def K1 (K : Eff → Prop) (v : AVal) : Prop := K ⟨some v, []⟩

/-- Strings and slices: what is appended (no number of zeros). -/
def notInt (env : Env) (t : Nat) : Bool := match env.td t with
  | some .str => true
  | some (.slice _) => true
  | _ => false

def evalBuiltin (env : Env) (base : Nat) (h : Heap) (b : Builtin) (ts : List Nat) (vs : List AVal) (K : Eff → Prop) : Prop := match b, ts, vs with
  | .len, t :: _, [v] => ob0 (lenV env h t v) fun n => K1 K (.int .i64 (n : Int))
  | .min, _, [.int k x, .int k' y] => ob0 (castT k k' y) fun y => br (ltT k y x) (K1 K (.int k y)) (K1 K (.int k x))
  | .append, [t, t2], [s, x] => chk (notInt env t2) (evalAppendV env base h t s x K)
  | _, _, _ => False

/-- A slice that has elements for certain. -/
def fullS (env : Env) (h : Heap) (t : Nat) (a : AVal) : Bool := match env.td t with
  | some (.slice _) => match a with
    | .sw key => match h key with
      | some ⟨.row _, c⟩ => match c.seq with
        | some q => Nat.blt 0 q.len
        | none => false
      | _ => false
    | .sl _ _ _ n => Nat.blt 0 n
    | _ => false
  | _ => false
def isNilS : AVal → Bool
  | .nilsl => true
  | _ => false
def nilNo : BinOp → Option Bool
  | .eql => some false
  | .neq => some true
  | _ => none
/-- A slice that has elements, held against nil. -/
def nilCmp (env : Env) (h : Heap) (op : BinOp) (t : Nat) (a b : AVal) : Option Bool := match isNilS b with
  | true => match fullS env h t a with
    | true => nilNo op
    | false => none
  | false => none

def evalOp (env : Env) (C : Tab) (base : Nat) (tmps : List (Option AVal)) (h : Heap) (o : Oper) (K : Eff → Prop) : Prop :=
  match o.op with
  | .move x => ob (opVal tmps x) (K1 K)
  | .assign x => ob (opVal tmps x) (K1 K)
  | .pick c a b => ob (opVal tmps c) fun c => match c with
    | .bool t => br t (ob (opVal tmps a) (K1 K)) (ob (opVal tmps b) (K1 K))
    | _ => False
  | .alloc t => ob (zeroVar env t) fun c => K ⟨some (.ptr base []), [(base, some ⟨.var t, c⟩)]⟩
  | .box t x => ob (opVal tmps x) fun v => chk (hasTy env 8 t v) (K ⟨some (.ptr base []), [(base, some ⟨.var t, .var v⟩)]⟩)
  | .build t ps => ob (partVals tmps ps.toList) fun vs => ob (zeroV env 8 t) fun z => match env.td t with
    | some (.struct fs) => ob (buildS env fs vs z) (K1 K)
    | some (.arr n e) => ob (buildA env n e vs z) (K1 K)
    | _ => False
  | .buildSlice t n ps => match env.td t with
    | some (.slice e) => ob (partVals tmps ps.toList) fun vs => ob (litRow env e n) fun c => ob (setAll env e n vs c) fun c =>
      chk (Nat.ble (n * env.sz e) 16777216) (K ⟨some (.sw base), [(base, some ⟨.row e, c⟩)]⟩)
    | _ => False
  | .load t a => ob (opVal tmps a) fun a => loadA env h t (gpv env a) (K1 K)
  | .store t a x => ob (opVal tmps a) fun a => ob (opVal tmps x) fun v => storeA env h t a v K
  | .nilCheck x => ob (opVal tmps x) fun v => match v with
    | .ptr .. => K1 K v
    | .kp .. => K1 K v
    | .vp .. => K1 K v
    | .gp .. => K1 K v
    | .iface .. => K1 K v
    | .fn (.func _) _ _ => K1 K v
    | _ => False
  | .binOp op t x y _ => ob (opVal tmps x) fun a => ob (opVal tmps y) fun b => match nilCmp env h op t a b with
    | some r => K1 K (.bool r)
    | none => binOpA env op t x y a b (K1 K)
  | .unOp op _ x => ob (opVal tmps x) fun a => unOpA op a (K1 K)
  | .convert src dst x => ob (opVal tmps x) fun a => convertA env base h src dst a K
  | .sliceToArrayPointer t x => ob (opVal tmps x) fun a => s2apA env h t a (K1 K)
  | .makeInterface t x => ob (opVal tmps x) fun a => match env.td t with
    | some .iface => False
    | some _ => chk (hasTy env 8 t a) (K1 K (.iface t a))
    | none => False
  | .makeFunc f first captured => ob (opVals tmps first.toList) fun a => ob (opVals tmps captured.toList) fun b => K1 K (.fn f (.ofList a) (.ofList b))
  | .makeSlice t n c => match env.td t with
    | some (.slice e) => ob (opVal tmps n) fun n => ob (opVal tmps c) fun c => match n, c with
      | .int .i64 n, .int .i64 c => chk (decide (0 ≤ n)) (chk (decide (n ≤ c)) (chk (decide (c * (env.bytes e : Int) ≤ 70368744177664)) (chk (decide (c ≤ 70368744177664)) (ob (zeroRow env e n.toNat) fun r =>
        K ⟨some (.sw base), [(base, some ⟨.row e, r⟩)]⟩))))
      | _, _ => False
    | _ => False
  | .slice t x lo hi mx => match mx with
    | none => ob (opVal tmps x) fun x => ob (optVal tmps lo) fun lo => ob (optVal tmps hi) fun hi => sliceA env h t x lo hi (K1 K)
    | some _ => False
  | .fieldAddr s x f => ob (opVal tmps x) fun x => match env.td s with
    | some (.struct fs) => ob0 (nth fs f) fun u => match Nat.beq (env.sz u) 0 with
      | true => False
      | false => match gpv env x with
        | .ptr key p => ob (h key) fun b => ob0 (b.root.type env p) fun t => chk (Nat.beq s t) (K1 K (.ptr key (p ++ [.f f])))
        | .vp v => chk (hasTy env 8 s v) (ob (v.getF f) fun w => K1 K (.vp w))
        | _ => False
    | _ => False
  | .field s x f => ob (opVal tmps x) fun x => chk (hasTy env 8 s x) (match env.td s with
    | some (.struct _) => ob (x.getF f) (K1 K)
    | _ => False)
  | .indexAddr t x i => ob (opVal tmps x) fun x => ob (opVal tmps i) fun i => indexAddrA env h t (gpv env x) i (K1 K)
  | .index t x i => ob (opVal tmps x) fun x => ob (opVal tmps i) fun i => match env.td t, x with
    | some (.arr n _), .arr k n' l => chk (hasTy env 8 t (.arr k n' l)) (ix i n fun j => K1 K (.int k (l.getD j (zeroT k))))
    | some .str, .str s => ix i s.length fun j => K1 K (.int .u8 (s.getD j 0))
    | _, _ => False
  | .makeMap t r => match r with
    | none => evalMakeMap env base t K
    | some _ => False
  | .lookup t x k ok => ob (opVal tmps x) fun m => ob (opVal tmps k) fun k => evalLookup env h t m k ok (K1 K)
  | .mapUpdate t x k v => ob (opVal tmps x) fun m => ob (opVal tmps k) fun k => ob (opVal tmps v) fun v => evalMapUpdate env h t m k v K
  | .typeAssert x _ t ok => match ok, env.td t with
    | true, some .iface => ob (opVal tmps x) fun x => match x with
      | .nilIface => K1 K (.tup [.nilIface, .bool false])
      | .iface u v => ob0 (env.impl u t) fun r => br r (K1 K (.tup [.iface u v, .bool true])) (K1 K (.tup [.nilIface, .bool false]))
      | _ => False
    | true, some _ => ob (opVal tmps x) fun x => ob (zeroV env 8 t) fun z => match x with
      | .nilIface => K1 K (.tup [z, .bool false])
      | .iface u v => match Nat.beq u t with
        | true => K1 K (.tup [v, .bool true])
        | false => K1 K (.tup [z, .bool false])
      | _ => False
    | _, _ => False
  | .extract x i => ob (opVal tmps x) fun x => ob (x.getT i) (K1 K)
  | .call c => ob (opVals tmps c.args.toList) fun vs => match c.callee with
    | .builtin b => evalBuiltin env base h b c.argTypes.toList vs K
    | .value f => ob (opVal tmps f) fun f => match f with
      | .fn (.func f) a b => chk (andB (isList a) (isList b)) (evalCall C base h f (a.toList ++ vs ++ b.toList) K)
      | _ => False
    | .invoke r name => ob (opVal tmps r) fun r => match r with
      | .iface t v => ob0 (env.meth t name) fun f => evalCall C base h f (v :: vs) K
      | _ => False
  | _ => False

/-- May the operation make blocks? -/
def makes (o : Oper) : Bool := match o.op with
  | .alloc _ => true
  | .box .. => true
  | .buildSlice .. => true
  | .convert .. => true
  | .makeSlice .. => true
  | .makeMap .. => true
  | .call _ => true
  | _ => false

/-! ### regions -/
def setL {α : Type 1} : List (Option α) → Nat → Option α → List (Option α)
  | [], _, _ => []
  | _ :: vs, 0, x => x :: vs
  | v :: vs, n + 1, x => v :: setL vs n x

def putT (tmps : List (Option AVal)) (d : Option Nat) (v : Option AVal) : List (Option AVal) := match d with
  | some d => setL tmps d v
  | none => tmps

def use (u : Nat → Bool) (base : Nat) : Nat → Bool := fun j => match Nat.beq j base with
  | true => true
  | false => u j

def opAt : List Oper → Nat → Option Oper
  | [], _ => none
  | o :: _, 0 => some o
  | _ :: os, n + 1 => opAt os n

/-- Is the operation to be carried out? -/
def guarded (ops : List Oper) (tmps : List (Option AVal)) (o : Oper) (yes no : Prop) : Prop := match o.guard with
  | none => yes
  | some (j, want) => match opAt ops j with
    | some g => match g.dst with
      | some d => match getL tmps d with
        | some (.bool b) => match want with
          | true => br b yes no
          | false => br b no yes
        | some .tnil => no
        | _ => False
      | none => False
    | none => False

/-- What a slot holds is known now. -/
def St.know (S : St) (d : Nat) (b : Bool) : St := ⟨setL S.tmps d (some (.bool b)), S.heap, S.used⟩

/-- As guarded; what was asked is known behind it. -/
def guardedS (ops : List Oper) (S : St) (o : Oper) (yes no : St → Prop) : Prop := match o.guard with
  | none => yes S
  | some (j, want) => match opAt ops j with
    | some g => match g.dst with
      | some d => match getL S.tmps d with
        | some (.bool b) => match want with
          | true => br b (yes (S.know d true)) (no (S.know d false))
          | false => br b (no (S.know d true)) (yes (S.know d false))
        | some .tnil => no S
        | _ => False
      | none => False
    | none => False

def keyAt (rid i : Nat) : Nat := 256 * (1000 * rid + i + 1)

/-- The state behind an operation. -/
def St.after (S : St) (o : Oper) (base : Nat) (e : Eff) : St := ⟨putT S.tmps o.dst e.val, updL S.heap e.upd, use S.used base⟩
/-- The state behind an operation that was left out. -/
def St.skip (S : St) (o : Oper) : St := ⟨putT S.tmps o.dst (some .tnil), S.heap, S.used⟩

/-- An operation in a state: a place makes its blocks once. -/
def stepOp (env : Env) (C : Tab) (base : Nat) (S : St) (h : Heap) (o : Oper) (K : Eff → Prop) : Prop :=
  chk (!S.used base) (evalOp env C base S.tmps h o K)

def evalOps (env : Env) (C : Tab) (rid : Nat) (ops : List Oper) : List Oper → Nat → St → (St → Prop) → Prop
  | [], _, S, K => K S
  | o :: os, i, S, K => guardedS ops S o
    (fun S => stepOp env C (keyAt rid i) S S.heap o fun e => evalOps env C rid ops os (i + 1) (S.after o (keyAt rid i) e) K)
    (fun S => evalOps env C rid ops os (i + 1) (S.skip o) K)

/-- What an operation of a region that draws touched: the blocks that it may have looked at, those that it turned. -/
structure Mark where
  rd : List Nat
  wr : List Nat

def Mark.apart (a b : Mark) : Bool := andB (disj a.wr b.wr) (andB (disj a.wr b.rd) (disj b.wr a.rd))

/-- All operands of an operation, as far as they are known. -/
def opKeys (tmps : List (Option AVal)) : List Operand → List Nat
  | [] => []
  | x :: xs => match opVal tmps x with
    | some v => v.keys ++ opKeys tmps xs
    | none => opKeys tmps xs

def waitsOn (o : Oper) (i : Nat) : Bool := o.after.toList.any fun e => Region.binds .any e && Nat.beq e.on i

/-- Does an operation wait for another, or for one that does? -/
def waitsT (ops : List Oper) : Nat → Oper → Nat → Bool
  | 0, o, i => waitsOn o i
  | n + 1, o, i => match waitsOn o i with
    | true => true
    | false => o.after.toList.any fun e => Region.binds .any e && (Nat.blt i e.on && match opAt ops e.on with
      | some p => waitsT ops n p i
      | none => false)

/-- Is an operation apart from all earlier ones that it does not wait for? -/
def apartAll (ops : List Oper) (o : Oper) (m : Mark) : Nat → List Mark → Bool
  | _, [] => true
  | i, m' :: ms => match m'.apart m with
    | true => apartAll ops o m (i + 1) ms
    | false => match waitsT ops 6 o i with
      | true => apartAll ops o m (i + 1) ms
      | false => false

def restr (h : Heap) (ks : List Nat) : Heap := fun k => match memN k ks with
  | true => h k
  | false => none

/-- How far does an operation look: not into memory, at the blocks that it names, at all that is reached from them? -/
def deepOp : Op → Nat
  | .move _ => 0
  | .assign _ => 0
  | .pick .. => 0
  | .alloc _ => 0
  | .box .. => 0
  | .build .. => 0
  | .buildSlice .. => 0
  | .nilCheck _ => 0
  | .unOp .. => 0
  | .makeInterface .. => 0
  | .makeFunc .. => 0
  | .makeSlice .. => 0
  | .makeMap .. => 0
  | .extract .. => 0
  | .field .. => 0
  | .typeAssert .. => 0
  | .call _ => 2
  | _ => 1
def lookOf (h : Heap) (ks : List Nat) : Nat → List Nat
  | 0 => []
  | 1 => ks
  | _ => reach h 512 ks []

/-- An operation of a region that draws: it sees what it reaches, and nothing else. -/
def evalDraw (env : Env) (C : Tab) (rid : Nat) (ops : List Oper) : List Oper → Nat → List Mark → St → (St → Prop) → Prop
  | [], _, _, S, K => K S
  | o :: os, i, ms, S, K => guardedS ops S o
    (fun S => stepOp env C (keyAt rid i) S (restr S.heap (lookOf S.heap (opKeys S.tmps o.op.operands.toList) (deepOp o.op))) o
      fun e => chk (apartAll ops o ⟨lookOf S.heap (opKeys S.tmps o.op.operands.toList) (deepOp o.op), fstL e.upd⟩ 0 ms)
        (evalDraw env C rid ops os (i + 1) (ms ++ [⟨lookOf S.heap (opKeys S.tmps o.op.operands.toList) (deepOp o.op), fstL e.upd⟩]) (S.after o (keyAt rid i) e) K))
    (fun S => evalDraw env C rid ops os (i + 1) (ms ++ [⟨[], []⟩]) (S.skip o) K)

/-! ### code -/
inductive XE where
  | normal
  | exit (id : Nat)
  | ret

def keepT (live : List Nat) : Nat → List (Option AVal) → List (Option AVal)
  | _, [] => []
  | i, v :: vs => (match memN i live with
    | true => v
    | false => none) :: keepT live (i + 1) vs

def keysO : List (Option AVal) → List Nat
  | [] => []
  | some v :: vs => v.keys ++ keysO vs
  | none :: vs => keysO vs

def renameO (r : Nat → Nat) : List (Option AVal) → List (Option AVal)
  | [] => []
  | some v :: vs => some (v.rename r) :: renameO r vs
  | none :: vs => none :: renameO r vs

def upTo : Nat → Nat → List Nat
  | _, 0 => []
  | i, n + 1 => i :: upTo (i + 1) n

/-- The state with these slots alone, its blocks numbered anew; the first nb keep their numbers. -/
def canon (nb : Nat) (live : List Nat) (S : St) (K : St → Prop) : Prop :=
  let t := keepT live 0 S.tmps
  let ks := reach S.heap 512 (keysAt S.heap (upTo 0 nb) ++ keysO t) (upTo 0 nb)
  chk (nodupN ks) (chk (subN (keysO t) ks) (chk (subN (keysAt S.heap ks) ks) (chk (Nat.ble ks.length 256)
    (K ⟨renameO (fun k => idxN k ks) t, lookL (listOf S.heap (fun k => idxN k ks) 0 ks), fun _ => false⟩))))

def firstRegion : Code → Option Nat
  | .region id _ _ => some id
  | .seq a b => match firstRegion a with
    | some r => some r
    | none => firstRegion b
  | .block _ a => firstRegion a
  | .loop a => firstRegion a
  | _ => none

def evalLoop (nb : Nat) (live : List Nat) (body : St → (XE → St → Prop) → Prop) : Nat → St → (XE → St → Prop) → Prop
  | 0, _, _ => False
  | n + 1, S, K => canon nb live S fun S => body S (fun e S' => match e with
    | .normal => evalLoop nb live body n S' K
    | .exit id => K (.exit id) S'
    | .ret => K .ret S')

def evalCode (env : Env) (C : Tab) (nb : Nat) (live : Nat → List Nat) (fuel : Nat) : Code → St → (XE → St → Prop) → Prop
  | .skip, S, K => K .normal S
  | .region id ops draw, S, K => match draw with
    | true => chk (Region.lexB .any ops) (evalDraw env C id ops.toList ops.toList 0 [] S (K .normal))
    | false => evalOps env C id ops.toList ops.toList 0 S (K .normal)
  | .seq a b, S, K => evalCode env C nb live fuel a S fun e S' => match e with
    | .normal => evalCode env C nb live fuel b S' K
    | .exit id => K (.exit id) S'
    | .ret => K .ret S'
  | .cond c a b, S, K => ob (opVal S.tmps c) fun v => match v with
    | .bool t => br t (evalCode env C nb live fuel a S K) (evalCode env C nb live fuel b S K)
    | _ => False
  | .block id c, S, K => evalCode env C nb live fuel c S fun e S' => match e with
    | .normal => K .normal S'
    | .exit i => match Nat.beq i id with
      | true => K .normal S'
      | false => K (.exit i) S'
    | .ret => K .ret S'
  | .loop c, S, K => evalLoop nb (match firstRegion c with
    | some r => live r
    | none => []) (fun S K => evalCode env C nb live fuel c S K) fuel S K
  | .exit id, S, K => K (.exit id) S
  | .ret, S, K => K .ret S
  | _, _, _ => False

/-! ### functions -/
def resVals (env : Env) (S : St) : List ResultVar → Option (List AVal)
  | [] => some []
  | .tmp t :: rs => match getL S.tmps t with
    | some v => match resVals env S rs with
      | some vs => some (v :: vs)
      | none => none
    | none => none
  | .cell a t :: rs => match getL S.tmps a with
    | some (.ptr key p) => match S.heap key with
      | some b => match b.root.type env p with
        | some u => match Nat.beq t u with
          | true => match b.c.get p with
            | some v => match resVals env S rs with
              | some vs => some (v :: vs)
              | none => none
            | none => none
          | false => none
        | none => none
      | none => none
    | _ => none

def oneOf : List AVal → AVal
  | [v] => v
  | vs => .tup vs

/-- The outcome of a call: what is answered, and the blocks that it leaves to its caller. -/
def finish (nb : Nat) (h : Heap) (v : AVal) (K : AVal → List (Nat × Blk) → Prop) : Prop :=
  let ks := reach h 512 (keysAt h (upTo 0 nb) ++ v.keys) (upTo 0 nb)
  chk (nodupN ks) (chk (subN v.keys ks) (chk (subN (keysAt h ks) ks)
    (K (v.rename fun k => idxN k ks) (listOf h (fun k => idxN k ks) 0 ks))))

def noneL {α : Type 1} : Nat → List (Option α)
  | 0 => []
  | n + 1 => none :: noneL n

def someL : List AVal → Nat → List (Option AVal)
  | [], n => noneL n
  | v :: vs, n => some v :: someL vs n

def evalFn (env : Env) (C : Tab) (live : Nat → List Nat) (fn : Func) (body : Code) (fuel : Nat) (args : List AVal) (bs : List Blk) (K : AVal → List (Nat × Blk) → Prop) : Prop :=
  chk (Nat.ble bs.length 256)
  (evalCode env C bs.length live fuel body ⟨someL args (fn.ntmps - args.length), ofBlks 0 bs, fun _ => false⟩ fun e S => match e with
    | .exit _ => False
    | _ => ob (resVals env S fn.results.toList) fun vs => finish bs.length S.heap (oneOf vs) K)
end Go.Abs
