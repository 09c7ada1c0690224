/- Closed runs: what is handed on is reckoned before it goes on. Closed runs: what is known of a call at these values and blocks. -/
import Derived.Test.YtadiphoihflmiaaGreatDoorZn
import Derived.Test.YtadiphoihflmiaaGreatDoorZy
set_option linter.all false
set_option maxRecDepth 1000000
namespace Go.Abs
open Go.Proofs

def gN {α : Type} (n : Nat) (k : Nat → α) : α := Nat.rec (motive := fun _ => α) (k 0) (fun m _ => k (Nat.succ m)) n
theorem gN_eq {α : Type} (n : Nat) (k : Nat → α) : gN n k = k n := by cases n <;> rfl
def gI (x : Int) (K : Int → Prop) : Prop := match x with
  | .ofNat n => gN n fun n => K (.ofNat n)
  | .negSucc n => gN n fun n => K (.negSucc n)
theorem gI_eq (x : Int) (K : Int → Prop) : gI x K = K x := by cases x <;> simp only [gI, gN_eq]
def gT : (k : IntKind) → TT k → (TT k → Prop) → Prop
  | .u8, x, K => gN (UInt8.toNat x) fun n => K (UInt8.ofNat n)
  | .u16, x, K => gN (UInt16.toNat x) fun n => K (UInt16.ofNat n)
  | .u32, x, K => gN (UInt32.toNat x) fun n => K (UInt32.ofNat n)
  | .u64, x, K => gN (UInt64.toNat x) fun n => K (UInt64.ofNat n)
  | .i8, x, K => gI x K
  | .i16, x, K => gI x K
  | .i32, x, K => gI x K
  | .i64, x, K => gI x K
theorem gT_eq : ∀ (k : IntKind) (x : TT k) (K : TT k → Prop), gT k x K = K x
  | .u8, x, K => by simp only [gT, gN_eq]; congr 1; exact UInt8.ofNat_toNat
  | .u16, x, K => by simp only [gT, gN_eq]; congr 1; exact UInt16.ofNat_toNat
  | .u32, x, K => by simp only [gT, gN_eq]; congr 1; exact UInt32.ofNat_toNat
  | .u64, x, K => by simp only [gT, gN_eq]; congr 1; exact UInt64.ofNat_toNat
  | .i8, x, K => gI_eq x K
  | .i16, x, K => gI_eq x K
  | .i32, x, K => gI_eq x K
  | .i64, x, K => gI_eq x K
def gTs (k : IntKind) : List (TT k) → (List (TT k) → Prop) → Prop
  | [], K => K []
  | x :: l, K => gT k x fun x => gTs k l fun l => K (x :: l)
theorem gTs_eq (k : IntKind) : ∀ (l : List (TT k)) (K : List (TT k) → Prop), gTs k l K = K l
  | [], K => rfl
  | x :: l, K => by simp only [gTs, gT_eq, gTs_eq k l]
def gP : List Step → (List Step → Prop) → Prop
  | [], K => K []
  | .f i :: p, K => gN i fun i => gP p fun p => K (.f i :: p)
  | .i n :: p, K => gN n fun n => gP p fun p => K (.i n :: p)
theorem gP_eq : ∀ (p : List Step) (K : List Step → Prop), gP p K = K p
  | [], K => rfl
  | .f i :: p, K => by simp only [gP, gN_eq, gP_eq p]
  | .i n :: p, K => by simp only [gP, gN_eq, gP_eq p]
def gB (b : Bool) (K : Bool → Prop) : Prop := match b with
  | true => K true
  | false => K false
theorem gB_eq (b : Bool) (K : Bool → Prop) : gB b K = K b := by cases b <;> rfl
def gV : AVal → (AVal → Prop) → Prop
  | .int k x, K => gT k x fun x => K (.int k x)
  | .bool b, K => gB b fun b => K (.bool b)
  | .str s, K => gTs .u8 s fun s => K (.str s)
  | .arr k n l, K => gN n fun n => gTs k l fun l => K (.arr k n l)
  | .unit, K => K .unit
  | .pair a b, K => gV a fun a => gV b fun b => K (.pair a b)
  | .ptr key p, K => gN key fun key => gP p fun p => K (.ptr key p)
  | .nilptr, K => K .nilptr
  | .sl key p off len, K => gN key fun key => gP p fun p => gN off fun off => gN len fun len => K (.sl key p off len)
  | .sw key, K => gN key fun key => K (.sw key)
  | .nilsl, K => K .nilsl
  | .vw k l, K => K (.vw k l)
  | .vr e enc d l, K => K (.vr e enc d l)
  | .vp v, K => K (.vp v)
  | .kp key p off n, K => gN key fun key => gP p fun p => gN off fun off => gN n fun n => K (.kp key p off n)
  | .iface t v, K => gN t fun t => gV v fun v => K (.iface t v)
  | .nilIface, K => K .nilIface
  | .fn f a b, K => gV a fun a => gV b fun b => K (.fn f a b)
  | .nilfn, K => K .nilfn
  | .tnil, K => K .tnil
  | .tcons a b, K => gV a fun a => gV b fun b => K (.tcons a b)
  | .gp id, K => gN id fun id => K (.gp id)
  | .th t, K => gN t fun t => K (.th t)
  | .mp key, K => gN key fun key => K (.mp key)
  | .nilmap, K => K .nilmap
theorem gV_eq : ∀ (v : AVal) (K : AVal → Prop), gV v K = K v := by
  intro v
  induction v with
  | int k x => intro K; simp only [gV, gT_eq]
  | bool b => intro K; simp only [gV, gB_eq]
  | str s => intro K; simp only [gV, gTs_eq]
  | arr k n l => intro K; simp only [gV, gN_eq, gTs_eq]
  | pair a b iha ihb => intro K; simp only [gV, iha, ihb]
  | ptr key p => intro K; simp only [gV, gN_eq, gP_eq]
  | sl key p off len => intro K; simp only [gV, gN_eq, gP_eq]
  | sw key => intro K; simp only [gV, gN_eq]
  | kp key p off n => intro K; simp only [gV, gN_eq, gP_eq]
  | iface t v ih => intro K; simp only [gV, gN_eq, ih]
  | fn f a b iha ihb => intro K; simp only [gV, iha, ihb]
  | tcons a b iha ihb => intro K; simp only [gV, iha, ihb]
  | gp id => intro K; simp only [gV, gN_eq]
  | th t => intro K; simp only [gV, gN_eq]
  | mp key => intro K; simp only [gV, gN_eq]
  | _ => intro K; rfl
def gVs : List AVal → (List AVal → Prop) → Prop
  | [], K => K []
  | v :: vs, K => gV v fun v => gVs vs fun vs => K (v :: vs)
theorem gVs_eq : ∀ (vs : List AVal) (K : List AVal → Prop), gVs vs K = K vs
  | [], K => rfl
  | v :: vs, K => by simp only [gVs, gV_eq, gVs_eq vs]
/-- The backbone of a list. -/
def gS {α : Type} : List α → (List α → Prop) → Prop
  | [], K => K []
  | x :: l, K => gS l fun l => K (x :: l)
theorem gS_eq {α : Type} : ∀ (l : List α) (K : List α → Prop), gS l K = K l
  | [], K => rfl
  | x :: l, K => by simp only [gS, gS_eq l]
def gM {α : Type} : List (α × AVal) → (List (α × AVal) → Prop) → Prop
  | [], K => K []
  | (a, v) :: l, K => gV v fun v => gM l fun l => K ((a, v) :: l)
theorem gM_eq {α : Type} : ∀ (l : List (α × AVal)) (K : List (α × AVal) → Prop), gM l K = K l
  | [], K => rfl
  | (a, v) :: l, K => by simp only [gM, gV_eq, gM_eq l]
def gR (r : Root) (K : Root → Prop) : Prop := match r with
  | .var t => gN t fun t => K (.var t)
  | .row e => gN e fun e => K (.row e)
  | .map k e => gN k fun k => gN e fun e => K (.map k e)
theorem gR_eq (r : Root) (K : Root → Prop) : gR r K = K r := by cases r <;> simp only [gR, gN_eq]
def gC (c : Cont) (K : Cont → Prop) : Prop := match c with
  | .var v => gV v fun v => K (.var v)
  | .ints k l => gTs k l fun l => K (.ints k l)
  | .recs c l => gS l fun l => K (.recs c l)
  | .vals l => gVs l fun l => K (.vals l)
  | .map k v l => gS l fun l => K (.map k v l)
  | .mapv k l => gM l fun l => K (.mapv k l)
theorem gC_eq (c : Cont) (K : Cont → Prop) : gC c K = K c := by cases c <;> simp only [gC, gV_eq, gTs_eq, gS_eq, gVs_eq, gM_eq]
def gBk (b : Blk) (K : Blk → Prop) : Prop := match b with
  | ⟨r, c⟩ => gR r fun r => gC c fun c => K ⟨r, c⟩
theorem gBk_eq (b : Blk) (K : Blk → Prop) : gBk b K = K b := by cases b; simp only [gBk, gR_eq, gC_eq]
def gBs : List Blk → (List Blk → Prop) → Prop
  | [], K => K []
  | b :: bs, K => gBk b fun b => gBs bs fun bs => K (b :: bs)
theorem gBs_eq : ∀ (bs : List Blk) (K : List Blk → Prop), gBs bs K = K bs
  | [], K => rfl
  | b :: bs, K => by simp only [gBs, gBk_eq, gBs_eq bs]
def gH : List (Nat × Blk) → (List (Nat × Blk) → Prop) → Prop
  | [], K => K []
  | (i, b) :: hs, K => gN i fun i => gBk b fun b => gH hs fun hs => K ((i, b) :: hs)
theorem gH_eq : ∀ (hs : List (Nat × Blk)) (K : List (Nat × Blk) → Prop), gH hs K = K hs
  | [], K => rfl
  | (i, b) :: hs, K => by simp only [gH, gN_eq, gBk_eq, gH_eq hs]
def gO : List (Option AVal) → (List (Option AVal) → Prop) → Prop
  | [], K => K []
  | none :: l, K => gO l fun l => K (none :: l)
  | some v :: l, K => gV v fun v => gO l fun l => K (some v :: l)
theorem gO_eq : ∀ (l : List (Option AVal)) (K : List (Option AVal) → Prop), gO l K = K l
  | [], K => rfl
  | none :: l, K => by simp only [gO, gO_eq l]
  | some v :: l, K => by simp only [gO, gV_eq, gO_eq l]

/-! ### the evaluator, reckoning -/
/-- A contract, what is handed in and out reckoned. -/
def gCtr (c : Ctr) : Ctr := ⟨fun us bs K => gVs us fun us => gBs bs fun bs => c.run us bs fun v h => gV v fun v => gH h fun h => K v h⟩
theorem gCtr_eq (c : Ctr) : gCtr c = c := by
  cases c
  simp only [gCtr, gVs_eq, gBs_eq, gV_eq, gH_eq]

def gSt (S : St) (K : St → Prop) : Prop := gO S.tmps fun t => K ⟨t, S.heap, S.used⟩
theorem gSt_eq (S : St) (K : St → Prop) : gSt S K = K S := by simp only [gSt, gO_eq]

/-- The state at a loop's head. -/
def canonG (nb : Nat) (live : List Nat) (S : St) (K : St → Prop) : Prop :=
  let t := keepT live 0 S.tmps
  let ks := reach S.heap 512 (keysAt S.heap (upTo 0 nb) ++ keysO t) (upTo 0 nb)
  chk (nodupN ks) (chk (subN (keysO t) ks) (chk (subN (keysAt S.heap ks) ks) (chk (Nat.ble ks.length 256)
    (gO (renameO (fun k => idxN k ks) t) fun t => gH (listOf S.heap (fun k => idxN k ks) 0 ks) fun h => K ⟨t, lookL h, fun _ => false⟩))))
theorem canonG_eq (nb : Nat) (live : List Nat) (S : St) (K : St → Prop) : canonG nb live S K = canon nb live S K := by
  simp only [canonG, canon, gO_eq, gH_eq]

def evalLoopG (nb : Nat) (live : List Nat) (body : St → (XE → St → Prop) → Prop) : Nat → St → (XE → St → Prop) → Prop
  | 0, _, _ => False
  | n + 1, S, K => canonG nb live S fun S => body S (fun e S' => match e with
    | .normal => evalLoopG nb live body n S' K
    | .exit id => K (.exit id) S'
    | .ret => K .ret S')
theorem evalLoopG_eq (nb : Nat) (live : List Nat) (body : St → (XE → St → Prop) → Prop) : ∀ (n : Nat) (S : St) (K : XE → St → Prop), evalLoopG nb live body n S K = evalLoop nb live body n S K
  | 0, S, K => rfl
  | n + 1, S, K => by
    simp only [evalLoopG, evalLoop, canonG_eq]
    congr 1
    funext S
    congr 1
    funext e S'
    cases e with
    | normal => exact evalLoopG_eq nb live body n S' K
    | exit id => rfl
    | ret => rfl

def evalCodeG (env : Env) (C : Tab) (nb : Nat) (live : Nat → List Nat) (fuel : Nat) : Code → St → (XE → St → Prop) → Prop
  | .skip, S, K => K .normal S
  | .region id ops draw, S, K => match draw with
    | true => chk (Region.lexB .any ops) (evalDraw env C id ops.toList ops.toList 0 [] S fun S => gSt S (K .normal))
    | false => evalOps env C id ops.toList ops.toList 0 S fun S => gSt S (K .normal)
  | .seq a b, S, K => evalCodeG env C nb live fuel a S fun e S' => match e with
    | .normal => evalCodeG env C nb live fuel b S' K
    | .exit id => K (.exit id) S'
    | .ret => K .ret S'
  | .cond c a b, S, K => ob (opVal S.tmps c) fun v => match v with
    | .bool t => br t (evalCodeG env C nb live fuel a S K) (evalCodeG env C nb live fuel b S K)
    | _ => False
  | .block id c, S, K => evalCodeG env C nb live fuel c S fun e S' => match e with
    | .normal => K .normal S'
    | .exit i => match Nat.beq i id with
      | true => K .normal S'
      | false => K (.exit i) S'
    | .ret => K .ret S'
  | .loop c, S, K => evalLoopG nb (match firstRegion c with
    | some r => live r
    | none => []) (fun S K => evalCodeG env C nb live fuel c S K) fuel S K
  | .exit id, S, K => K (.exit id) S
  | .ret, S, K => K .ret S
  | _, _, _ => False
theorem evalCodeG_eq (env : Env) (C : Tab) (nb : Nat) (live : Nat → List Nat) (fuel : Nat) : ∀ (c : Code) (S : St) (K : XE → St → Prop), evalCodeG env C nb live fuel c S K = evalCode env C nb live fuel c S K := by
  have e1 : ∀ (K : XE → St → Prop), (fun S => gSt S (K .normal)) = K .normal := fun K => by funext S; exact gSt_eq S _
  intro c
  induction c with
  | seq a b iha ihb =>
    intro S K
    simp only [evalCodeG, evalCode, iha]
    congr 1
    funext e S'
    cases e with
    | normal => exact ihb S' K
    | exit id => rfl
    | ret => rfl
  | cond c a b iha ihb =>
    intro S K
    simp only [evalCodeG, evalCode, iha, ihb]
    congr 1
  | block id a ih =>
    intro S K
    simp only [evalCodeG, evalCode, ih]
    congr 1
  | loop a ih =>
    intro S K
    have : (fun S K => evalCodeG env C nb live fuel a S K) = fun S K => evalCode env C nb live fuel a S K := by funext S K; exact ih S K
    simp only [evalCodeG, evalCode, this, evalLoopG_eq]
    cases firstRegion a <;> rfl
  | region id ops draw =>
    intro S K
    cases draw <;> simp only [evalCodeG, evalCode, e1]
  | _ => intro S K; rfl

def evalFnG (env : Env) (C : Tab) (live : Nat → List Nat) (fn : Func) (body : Code) (fuel : Nat) (args : List AVal) (bs : List Blk) (K : AVal → List (Nat × Blk) → Prop) : Prop :=
  chk (Nat.ble bs.length 256)
  (evalCodeG env C bs.length live fuel body ⟨someL args (fn.ntmps - args.length), ofBlks 0 bs, fun _ => false⟩ fun e S => match e with
    | .exit _ => False
    | _ => ob (resVals env S fn.results.toList) fun vs => finish bs.length S.heap (oneOf vs) K)
theorem evalFnG_eq (env : Env) (C : Tab) (live : Nat → List Nat) (fn : Func) (body : Code) (fuel : Nat) : evalFnG env C live fn body fuel = evalFn env C live fn body fuel := by
  funext args bs K
  simp only [evalFnG, evalFn, evalCodeG_eq]
  congr 1

/-- The table by depth, reckoning. -/
def tabG (env : Env) (base : Tab) (fns : Nat → Option (Func × Code)) (live : Nat → Nat → List Nat) (fuel : Nat) : Nat → Tab
  | 0 => base
  | n + 1 => fun f => match base f with
    | some c => some c
    | none => match fns f with
      | some (fn, body) => some (gCtr ⟨evalFnG env (tabG env base fns live fuel n) (live f) fn body fuel⟩)
      | none => none
theorem tabG_eq (env : Env) (base : Tab) (fns : Nat → Option (Func × Code)) (live : Nat → Nat → List Nat) (fuel : Nat) : ∀ n, tabG env base fns live fuel n = tabN env base fns live fuel n
  | 0 => rfl
  | n + 1 => by
    funext f
    simp only [tabG, tabN, gCtr_eq, tabG_eq env base fns live fuel n, evalFnG_eq]
    cases base f with
    | some c => rfl
    | none => cases fns f <;> rfl

/-- A function's own run, reckoning. -/
noncomputable def runG (l : List (Nat × Ctr)) (f n : Nat) (us : List AVal) (bs : List Blk) (K : AVal → List (Nat × Blk) → Prop) : Prop := match fnsOf f with
  | some (fn, body) => evalFnG env (tabG env (tabL l) fnsOf liveOf 5000 n) (liveOf f) fn body 5000 us bs K
  | none => False
theorem runG_eq (l : List (Nat × Ctr)) (f n : Nat) : runG l f n = run l f n := by
  funext us bs K
  unfold runG run
  cases fnsOf f with
  | none => rfl
  | some p =>
    obtain ⟨fn, body⟩ := p
    simp only [tabG_eq, evalFnG_eq]
attribute [irreducible] runG
end Go.Abs

namespace Go.Abs
open Go.Proofs

/-! ### values held against each other -/
def sameP : List Step → List Step → Bool
  | [], [] => true
  | .f i :: p, .f j :: q => andB (Nat.beq i j) (sameP p q)
  | .i i :: p, .i j :: q => andB (Nat.beq i j) (sameP p q)
  | _, _ => false
theorem sameP_eq : ∀ {p q : List Step}, sameP p q = true → p = q
  | [], [], _ => rfl
  | .f i :: p, .f j :: q, h => by
    obtain ⟨h1, h2⟩ := andB_iff.1 h
    rw [beq_eq h1, sameP_eq h2]
  | .i i :: p, .i j :: q, h => by
    obtain ⟨h1, h2⟩ := andB_iff.1 h
    rw [beq_eq h1, sameP_eq h2]
  | [], _ :: _, h => by simp [sameP] at h
  | .f _ :: _, [], h => by simp [sameP] at h
  | .i _ :: _, [], h => by simp [sameP] at h
  | .f _ :: _, .i _ :: _, h => by simp [sameP] at h
  | .i _ :: _, .f _ :: _, h => by simp [sameP] at h
def sameT (k : IntKind) : List (TT k) → List (TT k) → Bool
  | [], [] => true
  | x :: xs, y :: ys => andB (eqT k x y) (sameT k xs ys)
  | _, _ => false
theorem eqT_eq {k : IntKind} {x y : TT k} (h : eqT k x y = true) : x = y := toI_inj (by simpa [eqT] using h)
theorem sameT_eq {k : IntKind} : ∀ {l m : List (TT k)}, sameT k l m = true → l = m
  | [], [], _ => rfl
  | x :: l, y :: m, h => by
    obtain ⟨h1, h2⟩ := andB_iff.1 h
    rw [eqT_eq h1, sameT_eq h2]
  | [], _ :: _, h => by simp [sameT] at h
  | _ :: _, [], h => by simp [sameT] at h
def sameI (k : IntKind) (x : TT k) (k' : IntKind) (y : TT k') : Bool := match castT k k' y with
  | some y => eqT k x y
  | none => false
def sameLs (k : IntKind) (l : List (TT k)) (k' : IntKind) (m : List (TT k')) : Bool := match castL k k' m with
  | some m => sameT k l m
  | none => false
def sameB (a b : Bool) : Bool := match a with
  | true => b
  | false => !b
def sameV : AVal → AVal → Bool
  | .int k x, .int k' y => sameI k x k' y
  | .bool a, .bool b => sameB a b
  | .str a, .str b => sameT .u8 a b
  | .arr k n l, .arr k' m l' => andB (Nat.beq n m) (sameLs k l k' l')
  | .unit, .unit => true
  | .pair a b, .pair c d => andB (sameV a c) (sameV b d)
  | .ptr k p, .ptr k' p' => andB (Nat.beq k k') (sameP p p')
  | .nilptr, .nilptr => true
  | .sw k, .sw k' => Nat.beq k k'
  | .nilsl, .nilsl => true
  | .iface t a, .iface u b => andB (Nat.beq t u) (sameV a b)
  | .nilIface, .nilIface => true
  | .gp i, .gp j => Nat.beq i j
  | _, _ => false
theorem sameB_eq {a b : Bool} (h : sameB a b = true) : a = b := by
  cases a <;> cases b <;> first | rfl | simp [sameB] at h
theorem sameI_eq {k k' : IntKind} {x : TT k} {y : TT k'} (h : sameI k x k' y = true) : AVal.int k x = AVal.int k' y := by
  unfold sameI at h
  cases hc : castT k k' y with
  | none => rw [hc] at h; cases h
  | some z =>
    rw [hc] at h
    obtain ⟨rfl, rfl⟩ := castT_some hc
    rw [eqT_eq h]
theorem sameLs_eq {k k' : IntKind} {n m : Nat} {x : List (TT k)} {y : List (TT k')} (hn : n = m) (h : sameLs k x k' y = true) : AVal.arr k n x = AVal.arr k' m y := by
  unfold sameLs at h
  cases hc : castL k k' y with
  | none => rw [hc] at h; cases h
  | some z =>
    rw [hc] at h
    obtain ⟨rfl, rfl⟩ := castL_some hc
    rw [sameT_eq h, hn]
theorem sameV_eq : ∀ {v w : AVal}, sameV v w = true → v = w := by
  intro v
  induction v with
  | int k x => intro w h; cases w <;> first | exact sameI_eq h | simp [sameV] at h
  | bool a => intro w h; cases w <;> first | exact congrArg AVal.bool (sameB_eq h) | simp [sameV] at h
  | str a => intro w h; cases w <;> first | exact congrArg AVal.str (sameT_eq (k := .u8) h) | simp [sameV] at h
  | arr k n l => intro w h; cases w <;> first | exact sameLs_eq (beq_eq (andB_iff.1 h).1) (andB_iff.1 h).2 | simp [sameV] at h
  | unit => intro w h; cases w <;> first | rfl | simp [sameV] at h
  | pair a b iha ihb => intro w h; cases w <;> first | exact congr (congrArg AVal.pair (iha (andB_iff.1 h).1)) (ihb (andB_iff.1 h).2) | simp [sameV] at h
  | ptr k p => intro w h; cases w <;> first | exact congr (congrArg AVal.ptr (beq_eq (andB_iff.1 h).1)) (sameP_eq (andB_iff.1 h).2) | simp [sameV] at h
  | nilptr => intro w h; cases w <;> first | rfl | simp [sameV] at h
  | sw k => intro w h; cases w <;> first | exact congrArg AVal.sw (beq_eq h) | simp [sameV] at h
  | nilsl => intro w h; cases w <;> first | rfl | simp [sameV] at h
  | iface t a ih => intro w h; cases w <;> first | exact congr (congrArg AVal.iface (beq_eq (andB_iff.1 h).1)) (ih (andB_iff.1 h).2) | simp [sameV] at h
  | nilIface => intro w h; cases w <;> first | rfl | simp [sameV] at h
  | gp i => intro w h; cases w <;> first | exact congrArg AVal.gp (beq_eq h) | simp [sameV] at h
  | _ => intro w h; cases w <;> simp [sameV] at h
def sameVs : List AVal → List AVal → Bool
  | [], [] => true
  | v :: vs, w :: ws => andB (sameV v w) (sameVs vs ws)
  | _, _ => false
theorem sameVs_eq : ∀ {vs ws : List AVal}, sameVs vs ws = true → vs = ws
  | [], [], _ => rfl
  | v :: vs, w :: ws, h => by
    obtain ⟨h1, h2⟩ := andB_iff.1 h
    rw [sameV_eq h1, sameVs_eq h2]
  | [], _ :: _, h => by simp [sameVs] at h
  | _ :: _, [], h => by simp [sameVs] at h
def sameR : Root → Root → Bool
  | .var t, .var u => Nat.beq t u
  | .row t, .row u => Nat.beq t u
  | _, _ => false
theorem sameR_eq {r s : Root} (h : sameR r s = true) : r = s := by
  cases r <;> cases s <;> first | exact congrArg Root.var (beq_eq h) | exact congrArg Root.row (beq_eq h) | simp [sameR] at h
theorem sameLs_ints {k k' : IntKind} {x : List (TT k)} {y : List (TT k')} (h : sameLs k x k' y = true) : Cont.ints k x = Cont.ints k' y := by
  have := sameLs_eq (n := 0) rfl h
  cases this
  rfl
def sameC : Cont → Cont → Bool
  | .var v, .var w => sameV v w
  | .ints k l, .ints k' m => sameLs k l k' m
  | .vals l, .vals m => sameVs l m
  | _, _ => false
theorem sameC_eq {c d : Cont} (h : sameC c d = true) : c = d := by
  cases c <;> cases d <;> first | exact congrArg Cont.var (sameV_eq h) | exact congrArg Cont.vals (sameVs_eq h) | exact sameLs_ints h | simp [sameC] at h
def sameBl : List Blk → List Blk → Bool
  | [], [] => true
  | ⟨r, c⟩ :: bs, ⟨s, d⟩ :: ds => andB (sameR r s) (andB (sameC c d) (sameBl bs ds))
  | _, _ => false
theorem sameBl_eq : ∀ {bs ds : List Blk}, sameBl bs ds = true → bs = ds
  | [], [], _ => rfl
  | ⟨r, c⟩ :: bs, ⟨s, d⟩ :: ds, h => by
    obtain ⟨h1, h2⟩ := andB_iff.1 h
    obtain ⟨h2, h3⟩ := andB_iff.1 h2
    rw [sameR_eq h1, sameC_eq h2, sameBl_eq h3]
  | [], _ :: _, h => by simp [sameBl] at h
  | _ :: _, [], h => by simp [sameBl] at h

/-! ### calls that are known -/
structure Known : Type 1 where
  us : List AVal
  bs : List Blk
  v : AVal
  h : List (Nat × Blk)
def knRun : List Known → List AVal → List Blk → (AVal → List (Nat × Blk) → Prop) → Prop
  | [], _, _, _ => False
  | k :: ks, us, bs, K => match andB (sameVs us k.us) (sameBl bs k.bs) with
    | true => K k.v k.h
    | false => knRun ks us bs K
def knC (ks : List Known) : Ctr := ⟨knRun ks⟩
theorem kn_det : ∀ (ks : List Known) (us : List AVal) (bs : List Blk), Det fun (K : Out → Prop) => knRun ks us bs fun v h => K ⟨v, h⟩
  | [], us, bs => det_false
  | k :: ks, us, bs => by
    simp only [knRun]
    cases andB (sameVs us k.us) (sameBl bs k.bs) with
    | true => exact det_pure (⟨k.v, k.h⟩ : Out)
    | false => exact kn_det ks us bs
def AllKn (R : List AVal → List Blk → (AVal → List (Nat × Blk) → Prop) → Prop) : List Known → Prop
  | [] => True
  | k :: ks => (∀ K, R k.us k.bs K = K k.v k.h) ∧ AllKn R ks
theorem kn_run {R : List AVal → List Blk → (AVal → List (Nat × Blk) → Prop) → Prop} : ∀ {ks : List Known} {us : List AVal} {bs : List Blk} {K : AVal → List (Nat × Blk) → Prop}, AllKn R ks → knRun ks us bs K → R us bs K
  | [], _, _, _, _, h => h.elim
  | k :: ks, us, bs, K, hk, h => by
    simp only [knRun] at h
    cases hq : andB (sameVs us k.us) (sameBl bs k.bs) with
    | true =>
      rw [hq] at h
      obtain ⟨h1, h2⟩ := andB_iff.1 hq
      rw [sameVs_eq h1, sameBl_eq h2, hk.1]
      exact h
    | false => rw [hq] at h; exact kn_run hk.2 h
theorem kn_ok {l : List (Nat × Ctr)} (hl : AllOk l) {f n : Nat} {ks : List Known} (hk : AllKn (runG l f n) ks) : CtrOk Tryz.prog env f (knC ks) :=
  (run_ok hl f n).of (fun us bs => kn_det ks us bs) fun {ρ Z w us bs xs K} hh hx hr => by
    have := kn_run hk hr
    rw [runG_eq] at this
    exact this

/-! ### the setup of two, and the rows -/
def numL (l : List Nat) : List UInt8 := l.map UInt8.ofNat
def setupV : AVal := .pair (.sw 0) (.pair (.sw 1) (.pair (.sw 2) (.pair .nilsl .unit)))
def setupB : List Blk := [⟨.row 90, .vals [.arr .u8 32 an2, .arr .u8 32 an4]⟩, ⟨.row 3, .ints .i64 [(1 : Int), (2 : Int)]⟩, ⟨.row 162, .vals [.nilsl, .nilsl]⟩]
noncomputable def seen0 : AVal := (zeroV env 8 92).getD .unit
noncomputable def seenV (kind id : Int) : AVal := (((seen0.setF 0 (.int .i64 kind)).getD .unit).setF 2 (.int .i64 id)).getD .unit
end Go.Abs
