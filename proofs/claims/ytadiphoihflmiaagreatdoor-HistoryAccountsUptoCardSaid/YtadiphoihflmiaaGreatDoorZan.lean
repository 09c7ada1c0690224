/- One outcome: each operation that goes on with an outcome goes on with one. The evaluator's state and the model's, side by side: one step; regions in their order. -/
import Derived.Test.YtadiphoihflmiaaGreatDoorZam
set_option linter.all false
namespace Go.Abs
section
variable {α β : Type 1} {γ : Type}

theorem det_pure (a : α) : Det fun K => K a := fun K h => ⟨a, h, fun _ h => h⟩
theorem det_false : Det fun (_ : α → Prop) => False := fun K h => h.elim
theorem det_ob {x : Option β} {F : β → (α → Prop) → Prop} (h : ∀ b, Det (F b)) : Det fun K => ob x fun b => F b K := fun K hK => by
  cases x with
  | none => exact hK.elim
  | some b => exact h b K hK
theorem det_ob0 {x : Option γ} {F : γ → (α → Prop) → Prop} (h : ∀ b, Det (F b)) : Det fun K => ob0 x fun b => F b K := fun K hK => by
  cases x with
  | none => exact hK.elim
  | some b => exact h b K hK
theorem det_chk {b : Bool} {F : (α → Prop) → Prop} (h : Det F) : Det fun K => chk b (F K) := fun K hK => by
  cases b with
  | false => exact hK.elim
  | true => exact h K hK
theorem det_br {b : Bool} {F G : (α → Prop) → Prop} (h : Det F) (h' : Det G) : Det fun K => br b (F K) (G K) := fun K hK => by
  cases b with
  | false => exact h' K hK
  | true => exact h K hK
theorem det_ix {v : AVal} {n : Nat} {F : Nat → (α → Prop) → Prop} (h : ∀ j, Det (F j)) : Det fun K => ix v n fun j => F j K := fun K hK => by
  unfold ix at *
  cases v <;> try exact hK.elim
  exact det_chk (det_chk (h _)) K hK
theorem det_bd {v : AVal} {n : Nat} {F : Nat → (α → Prop) → Prop} (h : ∀ j, Det (F j)) : Det fun K => bd v n fun j => F j K := fun K hK => by
  unfold bd at *
  cases v <;> try exact hK.elim
  exact det_chk (det_chk (h _)) K hK
theorem det_bdO {v : Option AVal} {d n : Nat} {F : Nat → (α → Prop) → Prop} (h : ∀ j, Det (F j)) : Det fun K => bdO v d n fun j => F j K := fun K hK => by
  cases v with
  | none => exact h d K hK
  | some v => exact det_bd h K hK
theorem det_comp {F : (β → Prop) → Prop} (g : β → α) (h : Det F) : Det fun (K : α → Prop) => F fun b => K (g b) := fun K hK => by
  obtain ⟨b, h1, h2⟩ := h _ hK
  exact ⟨g b, h1, fun K' h' => h2 _ h'⟩
theorem det_k1 {F : (AVal → Prop) → Prop} (h : Det F) : Det fun (K : Eff → Prop) => F (K1 K) := det_comp (fun v => (⟨some v, []⟩ : Eff)) h
theorem det_of {F : (α → Prop) → Prop} (h : ∀ K, F K → ∃ G : (α → Prop) → Prop, Det G ∧ G K ∧ ∀ K', G K' → F K') : Det F := fun K hK => by
  obtain ⟨G, h1, h2, h3⟩ := h K hK
  obtain ⟨a, h4, h5⟩ := h1 K h2
  exact ⟨a, h4, fun K' h' => h3 _ (h5 _ h')⟩
/-- A continuation that is a function of what comes. -/
theorem det_bind {F : (β → Prop) → Prop} {G : β → (α → Prop) → Prop} (h : Det F) (hg : ∀ b, Det (G b)) : Det fun K => F fun b => G b K := fun K hK => by
  obtain ⟨b, h1, h2⟩ := h _ hK
  obtain ⟨a, h3, h4⟩ := hg b K h1
  exact ⟨a, h3, fun K' h' => h2 _ (h4 _ h')⟩
end

section
variable {P : Program} {env : Env} {C : Tab} {base : Nat} {tmps : List (Option AVal)} {H : Heap}

theorem det_binInt {op : BinOp} {k : IntKind} {x y : TT k} : Det (binInt op k x y) := by
  cases op <;> first | exact det_pure _ | exact det_chk (det_pure _) | exact det_false

theorem det_binOpA {op : BinOp} {t : Nat} {X Y : Operand} {a b : AVal} : Det (binOpA env op t X Y a b) := by
  cases a with
  | int k x =>
    cases b with
    | int k' y => cases op <;> first | exact det_chk (det_pure _) | exact det_ob0 fun y => det_binInt
    | _ => cases op <;> first | exact det_ob0 fun y => det_pure _ | exact det_false
  | str s =>
    cases b with
    | str s' => cases op <;> first | exact det_chk (det_pure _) | exact det_pure _ | exact det_false
    | _ => cases op <;> first | exact det_ob0 fun y => det_pure _ | exact det_false
  | _ => cases op <;> first | exact det_ob0 fun y => det_pure _ | exact det_false

theorem det_unOpA {op : UnOp} {a : AVal} : Det (unOpA op a) := by
  refine det_of fun K h => ?_
  unfold unOpA at h
  split at h
  · exact ⟨_, det_pure _, h, fun K' h' => h'⟩
  · exact ⟨_, det_pure _, h, fun K' h' => h'⟩
  · exact ⟨_, det_pure _, h, fun K' h' => h'⟩
  · exact h.elim

theorem det_sliceA {t : Nat} {x : AVal} {lo hi : Option AVal} : Det (sliceA env H t x lo hi) := by
  unfold sliceA
  generalize env.td t = td
  cases td with
  | none => exact det_false
  | some td =>
    cases td with
    | str => cases x <;> first | exact det_bdO fun b => det_bdO fun a => det_pure _ | exact det_false
    | slice e =>
      cases x with
      | nilsl => exact det_bdO fun b => det_bdO fun a => det_pure _
      | sw key =>
        simp only
        generalize H key = b
        cases b with
        | none => exact det_false
        | some b =>
          obtain ⟨root, c⟩ := b
          cases root with
          | row e' => exact det_chk (det_ob fun q => det_bdO fun b => det_bdO fun a => det_pure _)
          | _ => exact det_false
      | sl key p off n => exact det_ob0 fun _ => det_chk (det_bdO fun b => det_bdO fun a => det_pure _)
      | vw k l => exact det_chk (det_bdO fun b => det_bdO fun a => det_pure _)
      | vr tg e' enc d l => exact det_chk (det_bdO fun b => det_bdO fun a => det_pure _)
      | _ => exact det_false
    | arr n e => cases x <;> first | exact det_ob fun _ => det_ob0 fun _ => det_chk (det_bdO fun b => det_bdO fun a => det_pure _) | exact det_false
    | ptr u =>
      cases x with
      | ptr key p =>
        refine det_ob fun _ => det_ob0 fun _ => det_chk ?_
        generalize env.td u = td
        cases td with
        | none => exact det_false
        | some td => cases td <;> first | exact det_bdO fun b => det_bdO fun a => det_pure _ | exact det_false
      | _ => exact det_false
    | _ => exact det_false

theorem det_loadA {t : Nat} {a : AVal} : Det (loadA env H t a) := by
  unfold loadA
  cases a with
  | ptr key p => exact det_ob fun b => det_ob0 fun u => det_chk (det_ob fun v => det_pure v)
  | vp v => exact det_chk (det_pure _)
  | kp key p off n =>
    simp only
    generalize env.td t = td
    cases td with
    | none => exact det_false
    | some td =>
      cases td with
      | arr n' e =>
        refine det_chk (det_ob fun q => ?_)
        cases q <;> first | exact det_chk (det_pure _) | exact det_false
      | _ => exact det_false
  | _ => exact det_false

theorem det_storeA {t : Nat} {a v : AVal} : Det (storeA env H t a v) := by
  unfold storeA
  cases a with
  | ptr key p => exact det_ob fun b => det_ob0 fun u => det_chk (det_chk (det_ob fun v => det_pure _))
  | _ => exact det_false

theorem det_splitN {α : Type 1} {F : Nat → (α → Prop) → Prop} (h : ∀ j, Det (F j)) : ∀ (n s m : Nat), Det fun K => splitN n s m fun j => F j K
  | 0, s, m => det_false
  | n + 1, s, m => by
    simp only [splitN]
    cases Nat.beq m s with
    | true => exact h s
    | false => exact det_splitN h n _ m
theorem det_pickI {α : Type 1} {e n j : Nat} {F : Nat → (α → Prop) → Prop} (h : ∀ j, Det (F j)) : Det fun K => pickI env e n j fun j => F j K := by
  unfold pickI
  split
  · exact h j
  · exact det_splitN h _ _ _
theorem det_indexAddrA {t : Nat} {x i : AVal} : Det (indexAddrA env H t x i) := by
  unfold indexAddrA
  generalize env.td t = td
  cases td with
  | none => exact det_false
  | some td =>
    cases td with
    | arr n e =>
      cases x with
      | ptr key p => exact det_ob fun _ => det_ob0 fun _ => det_chk (det_ix fun j => det_pickI fun j => det_pure _)
      | vp v => cases v <;> first | exact det_chk (det_ix fun j => det_pure _) | exact det_false
      | _ => exact det_false
    | slice e =>
      cases x with
      | sw key =>
        simp only
        generalize H key = b
        cases b with
        | none => exact det_false
        | some b =>
          obtain ⟨root, c⟩ := b
          cases root with
          | row e' => exact det_chk (det_ob fun q => det_ix fun j => det_pure _)
          | _ => exact det_false
      | sl key p off n => exact det_ob0 fun _ => det_chk (det_ix fun j => det_pure _)
      | vw k l => exact det_chk (det_ix fun j => det_pure _)
      | vr tg e' enc d l => exact det_chk (det_ix fun j => det_pure _)
      | _ => exact det_false
    | _ => exact det_false

theorem det_convertA {src dst : Nat} {x : AVal} : Det (convertA env base H src dst x) := by
  unfold convertA
  generalize env.td src = s
  generalize env.td dst = d
  cases s with
  | none => cases d <;> exact det_false
  | some s =>
    cases d with
    | none => cases s <;> exact det_false
    | some d =>
      cases d with
      | int k' => cases s <;> cases x <;> first | exact det_pure _ | exact det_false
      | str =>
        cases x with
        | str s' => cases s <;> exact det_pure _
        | _ => cases s <;> first | exact det_chk (det_ob fun q => det_ob0 fun l => det_pure _) | exact det_false
      | slice e => cases s <;> first | (cases x <;> first | exact det_chk (det_chk (det_pure _)) | exact det_false) | exact det_false
      | _ => cases s <;> exact det_false

theorem det_s2apA {t : Nat} {x : AVal} : Det (s2apA env H t x) := by
  unfold s2apA
  generalize env.td t = td
  cases td with
  | none => exact det_false
  | some td =>
    cases td with
    | arr n e =>
      refine det_chk ?_
      cases x with
      | vw k l => exact det_chk (det_chk (det_pure _))
      | sw key =>
        simp only
        generalize H key = b
        cases b with
        | none => exact det_false
        | some b =>
          obtain ⟨root, c⟩ := b
          cases root with
          | row e' => exact det_chk (det_ob fun q => det_chk (det_pure _))
          | _ => exact det_false
      | sl key p off m => exact det_ob0 fun _ => det_chk (det_chk (det_pure _))
      | _ => exact det_false
    | _ => exact det_false

theorem det_keyOf {α : Type 1} {kt : Nat} {kc : Codec} {k : AVal} {F : (kc.α → kc.α → Bool) → kc.α → (α → Prop) → Prop} (h : ∀ f a, Det (F f a)) : Det fun K => keyOf env kt kc k fun f a => F f a K := by
  unfold keyOf
  generalize kc.eq = f
  generalize kc.dec k = x
  generalize env.codec kt = c
  cases f <;> cases x <;> cases c <;> first | exact h _ _ | exact det_false

theorem det_evalLookup {t : Nat} {m k : AVal} {ok : Bool} : Det (evalLookup env H t m k ok) := by
  unfold evalLookup
  generalize env.td t = td
  cases td with
  | none => exact det_false
  | some td =>
    cases td with
    | map kt vt =>
      cases m with
      | nilmap => exact det_ob fun kc => det_keyOf fun f a => det_ob fun z => det_pure _
      | mp key =>
        refine det_ob fun b => ?_
        obtain ⟨root, c⟩ := b
        cases root with
        | map kt' vt' =>
          cases c with
          | map kc vc l => exact det_chk (det_chk (det_keyOf fun f a => det_pure _))
          | mapv kc l =>
            refine det_chk (det_chk (det_keyOf fun f a => det_ob fun z => ?_))
            cases findM f a l with
            | none => exact det_pure _
            | some v => exact det_pure _
          | _ => exact det_false
        | _ => exact det_false
      | _ => exact det_false
    | _ => exact det_false

theorem det_evalMapUpdate {t : Nat} {m k v : AVal} : Det (evalMapUpdate env H t m k v) := by
  unfold evalMapUpdate
  generalize env.td t = td
  cases td with
  | none => exact det_false
  | some td =>
    cases td with
    | map kt vt =>
      refine det_chk (det_chk ?_)
      cases m with
      | mp key =>
        refine det_ob fun b => ?_
        obtain ⟨root, c⟩ := b
        cases root with
        | map kt' vt' =>
          cases c with
          | map kc vc l => exact det_chk (det_chk (det_keyOf fun f a => det_ob0 fun x => det_pure _))
          | mapv kc l => exact det_chk (det_chk (det_keyOf fun f a => det_pure _))
          | _ => exact det_false
        | _ => exact det_false
      | _ => exact det_false
    | _ => exact det_false

theorem det_evalMakeMap {t : Nat} : Det (evalMakeMap env base t) := by
  unfold evalMakeMap
  generalize env.td t = td
  cases td with
  | none => exact det_false
  | some td =>
    cases td with
    | map kt vt =>
      refine det_ob fun kc => ?_
      generalize env.codec vt = c
      cases kc.eq with
      | none => exact det_false
      | some f => cases c <;> exact det_pure _
    | _ => exact det_false

theorem det_evalAppend {st : Nat} {s x : AVal} : Det (evalAppend env base H st s x) := by
  unfold evalAppend
  generalize env.td st = td
  cases td with
  | none => exact det_false
  | some td =>
    cases td with
    | slice e => exact det_ob fun c => det_ob fun q => det_ob fun c' => det_ob fun _ => det_chk (det_pure _)
    | _ => exact det_false

theorem det_evalAppendV {st : Nat} {s x : AVal} : Det (evalAppendV env base H st s x) := by
  cases s <;> first | exact det_evalAppend | skip
  cases x <;> first | exact det_evalAppend | skip
  rename_i k l
  exact det_comp (F := evalAppend env base H st .nilsl (.vw k l)) (fun _ => (⟨some (.vw k l), []⟩ : Eff)) det_evalAppend

theorem det_evalBuiltin {b : Builtin} {ts : List Nat} {vs : List AVal} : Det (evalBuiltin env base H b ts vs) := by
  refine det_of fun K h => ?_
  unfold evalBuiltin at h
  split at h
  · exact ⟨_, det_ob0 fun n => det_pure _, h, fun K' h' => h'⟩
  · exact ⟨_, det_ob0 fun y => det_br (det_pure _) (det_pure _), h, fun K' h' => h'⟩
  · exact ⟨_, det_chk det_evalAppendV, h, fun K' h' => h'⟩
  · exact h.elim

theorem det_call (hC : ∀ f c, C f = some c → CtrOk P env f c) {f : Nat} {vs : List AVal} : Det (evalCall C base H f vs) := by
  unfold evalCall callBase
  intro K h
  obtain ⟨c, hc, h⟩ := ob_inv h
  obtain ⟨h1, h⟩ := chk_inv h
  obtain ⟨h2, h⟩ := chk_inv h
  obtain ⟨h3, h⟩ := chk_inv h
  obtain ⟨bs, h4, h⟩ := ob_inv h
  generalize hks : reach H 512 (keysL vs) [] = ks at *
  obtain ⟨⟨v, l⟩, h5, h6⟩ := (hC f c hc).det _ _ (fun o => chk (nodupN (fstH o.h)) (chk (allLt (ks.length + 256) (fstH o.h)) (chk (allLt (ks.length + 256) (keysB o.h)) (chk (allLt (ks.length + 256) o.v.keys)
    (K ⟨some (o.v.rename (backOf ks ks.length base)), goneOf o.h 0 ks ++ putsOf (backOf ks ks.length base) o.h⟩))))) h
  obtain ⟨g1, h5⟩ := chk_inv h5
  obtain ⟨g2, h5⟩ := chk_inv h5
  obtain ⟨g3, h5⟩ := chk_inv h5
  obtain ⟨g4, h5⟩ := chk_inv h5
  refine ⟨_, h5, fun K' h' => ?_⟩
  have := h6 (fun o => chk (nodupN (fstH o.h)) (chk (allLt (ks.length + 256) (fstH o.h)) (chk (allLt (ks.length + 256) (keysB o.h)) (chk (allLt (ks.length + 256) o.v.keys)
    (K' ⟨some (o.v.rename (backOf ks ks.length base)), goneOf o.h 0 ks ++ putsOf (backOf ks ks.length base) o.h⟩))))) (by simp only [g1, g2, g3, g4, chk]; exact h')
  simp only [hc, ob, hks, h1, h2, h3, h4, chk]
  exact this

theorem det_evalOp (hC : ∀ f c, C f = some c → CtrOk P env f c) {o : Oper} : Det (evalOp env C base tmps H o) := by
  unfold evalOp
  cases o.op with
  | move x => exact det_ob fun v => det_pure _
  | assign x => exact det_ob fun v => det_pure _
  | pick c a b =>
    refine det_ob fun c => ?_
    cases c <;> first | exact det_br (det_ob fun v => det_pure _) (det_ob fun v => det_pure _) | exact det_false
  | alloc t => exact det_ob fun c => det_pure _
  | box t x => exact det_ob fun v => det_chk (det_pure _)
  | build t ps =>
    refine det_ob fun vs => det_ob fun z => ?_
    generalize env.td t = td
    cases td with
    | none => exact det_false
    | some td => cases td <;> first | exact det_ob fun v => det_pure _ | exact det_false
  | buildSlice t n ps =>
    simp only
    generalize env.td t = td
    cases td with
    | none => exact det_false
    | some td => cases td <;> first | exact det_ob fun vs => det_ob fun c => det_ob fun c => det_chk (det_pure _) | exact det_false
  | load t a => exact det_ob fun a => det_k1 det_loadA
  | store t a x => exact det_ob fun a => det_ob fun v => det_storeA
  | nilCheck x =>
    refine det_ob fun v => ?_
    cases v with
    | fn f a b => cases f <;> first | exact det_pure _ | exact det_false
    | ptr | kp | vp | gp | iface => exact det_pure _
    | _ => exact det_false
  | binOp op t x y _ =>
    refine det_ob fun a => det_ob fun b => ?_
    generalize nilCmp env H op t a b = r
    cases r with
    | none => exact det_k1 det_binOpA
    | some r => exact det_pure _
  | unOp op _ x => exact det_ob fun a => det_k1 det_unOpA
  | convert src dst x => exact det_ob fun a => det_convertA
  | sliceToArrayPointer t x => exact det_ob fun a => det_k1 det_s2apA
  | makeInterface t x =>
    refine det_ob fun a => ?_
    generalize env.td t = td
    cases td with
    | none => exact det_false
    | some td => cases td <;> first | exact det_chk (det_pure _) | exact det_false
  | makeFunc f first captured => exact det_ob fun a => det_ob fun b => det_pure _
  | makeSlice t n c =>
    simp only
    generalize env.td t = td
    cases td with
    | none => exact det_false
    | some td =>
      cases td with
      | slice e =>
        refine det_of fun K h => ?_
        refine ⟨_, det_ob (F := fun n K => ob (opVal tmps c) fun c => match n, c with
          | AVal.int .i64 n, AVal.int .i64 c => chk (decide (0 ≤ n)) (chk (decide (n ≤ c)) (chk (decide (c * (env.bytes e : Int) ≤ 70368744177664)) (chk (decide (c ≤ 70368744177664)) (ob (zeroRow env e n.toNat) fun r =>
            K ⟨some (.sw base), [(base, some ⟨.row e, r⟩)]⟩))))
          | _, _ => False) fun n => det_ob fun c => ?_, h, fun K' h' => h'⟩
        refine det_of fun K h => ?_
        split at h
        · exact ⟨_, det_chk (det_chk (det_chk (det_chk (det_ob fun r => det_pure _)))), h, fun K' h' => h'⟩
        · exact h.elim
      | _ => exact det_false
  | slice t x lo hi mx =>
    cases mx with
    | none => exact det_ob fun x => det_ob fun lo => det_ob fun hi => det_k1 det_sliceA
    | some _ => exact det_false
  | fieldAddr s x f =>
    refine det_ob fun x => ?_
    generalize env.td s = td
    cases td with
    | none => exact det_false
    | some td =>
      cases td with
      | struct fs =>
        refine det_ob0 fun u => ?_
        cases Nat.beq (env.sz u) 0 with
        | true => exact det_false
        | false =>
          simp only
          generalize gpv env x = x
          cases x with
          | ptr key p => exact det_ob fun b => det_ob0 fun t => det_chk (det_pure _)
          | vp v => exact det_chk (det_ob fun w => det_pure _)
          | _ => exact det_false
      | _ => exact det_false
  | field s x f =>
    refine det_ob fun x => det_chk ?_
    generalize env.td s = td
    cases td with
    | none => exact det_false
    | some td => cases td <;> first | exact det_ob fun v => det_pure _ | exact det_false
  | indexAddr t x i => exact det_ob fun x => det_ob fun i => det_k1 det_indexAddrA
  | index t x i =>
    refine det_ob fun x => det_ob fun i => ?_
    generalize env.td t = td
    cases td with
    | none => exact det_false
    | some td =>
      cases td with
      | arr n e => cases x <;> first | exact det_chk (det_ix fun j => det_pure _) | exact det_false
      | str => cases x <;> first | exact det_ix fun j => det_pure _ | exact det_false
      | _ => exact det_false
  | makeMap t r =>
    cases r with
    | none => exact det_evalMakeMap
    | some _ => exact det_false
  | lookup t x k ok => exact det_ob fun m => det_ob fun k => det_k1 det_evalLookup
  | mapUpdate t x k v => exact det_ob fun m => det_ob fun k => det_ob fun v => det_evalMapUpdate
  | typeAssert x xt t ok =>
    simp only
    generalize env.td t = td
    cases ok with
    | false => exact det_false
    | true =>
      cases td with
      | none => exact det_false
      | some td =>
        have other : Det fun (K : Eff → Prop) => ob (opVal tmps x) fun x => ob (zeroV env 8 t) fun z => match x with
          | .nilIface => K1 K (.tup [z, .bool false])
          | .iface u v => match Nat.beq u t with
            | true => K1 K (.tup [v, .bool true])
            | false => K1 K (.tup [z, .bool false])
          | _ => False := det_ob fun x => det_ob fun z => by
            cases x with
            | nilIface => exact det_pure _
            | iface u v =>
              simp only
              cases Nat.beq u t with
              | true => exact det_pure _
              | false => exact det_pure _
            | _ => exact det_false
        cases td with
        | iface =>
          refine det_ob fun x => ?_
          cases x with
          | nilIface => exact det_pure _
          | iface u v => exact det_ob0 fun r => det_br (det_pure _) (det_pure _)
          | _ => exact det_false
        | _ => exact other
  | extract x i => exact det_ob fun x => det_ob fun v => det_pure _
  | call c =>
    refine det_ob fun vs => ?_
    cases c.callee with
    | builtin b => exact det_evalBuiltin
    | value f =>
      refine det_ob fun f => ?_
      cases f with
      | fn f a b => cases f <;> first | exact det_chk (det_call hC) | exact det_false
      | _ => exact det_false
    | invoke r name =>
      refine det_ob fun r => ?_
      cases r with
      | iface t v => exact det_ob0 fun f => det_call hC
      | _ => exact det_false
  | _ => exact det_false
end
end Go.Abs

namespace Go.Abs

theorem getL_putT {tmps : List (Option AVal)} {d : Option Nat} {x : Option AVal} {t : Nat} {v : AVal} (h : getL (putT tmps d x) t = some v) : (d = some t ∧ x = some v) ∨ (d ≠ some t ∧ getL tmps t = some v) := by
  cases d with
  | none => exact .inr ⟨by simp, h⟩
  | some d =>
    simp only [putT] at h
    have key : ∀ (l : List (Option AVal)) (d t : Nat), getL (setL l d x) t = some v → (d = t ∧ x = some v) ∨ (d ≠ t ∧ getL l t = some v) := by
      intro l
      induction l with
      | nil => intro d t h; simp [setL, getL] at h
      | cons y ys ih =>
        intro d t h
        cases d with
        | zero =>
          cases t with
          | zero => simp [setL, getL] at h; exact .inl ⟨rfl, h⟩
          | succ t => simp [setL, getL] at h; exact .inr ⟨by omega, by simpa [getL] using h⟩
        | succ d =>
          cases t with
          | zero => simp [setL, getL] at h; exact .inr ⟨by omega, by simpa [getL] using h⟩
          | succ t =>
            simp [setL, getL] at h
            rcases ih d t h with ⟨e, h⟩ | ⟨e, h⟩
            · exact .inl ⟨by omega, h⟩
            · exact .inr ⟨by omega, by simpa [getL] using h⟩
    rcases key _ _ _ h with ⟨e, h⟩ | ⟨e, h⟩
    · exact .inl ⟨by rw [e], h⟩
    · exact .inr ⟨by simpa using e, h⟩

theorem length_putT (tmps : List (Option AVal)) (d : Option Nat) (x : Option AVal) : (putT tmps d x).length = tmps.length := by
  cases d with
  | none => rfl
  | some d =>
    simp only [putT]
    induction tmps generalizing d with
    | nil => rfl
    | cons y ys ih => cases d <;> simp [setL, ih]

theorem updL_some : ∀ {us : List (Nat × Option Blk)} {H : Heap} {k : Nat} {b : Blk}, updL H us k = some b → (k, some b) ∈ us ∨ H k = some b
  | [], H, k, b, h => .inr h
  | (j, o) :: us, H, k, b, h => by
    simp only [updL] at h
    rcases updL_some h with h | h
    · exact .inl (by simp [h])
    · rcases upd1_inv h with ⟨rfl, e⟩ | ⟨_, e⟩
      · exact .inl (by simp [e])
      · exact .inr e

theorem ObjKeeps.comp {R R' : Nat → Prop} (hr : ∀ i, R' i → R i) {o o1 o2 : Obj} (h : ObjKeeps R o o1) (h' : ObjKeeps R' o1 o2) : ObjKeeps R o o2 := by
  cases o with
  | cells c e fr =>
    cases o1 with
    | cells c1 e1 fr1 =>
      cases o2 with
      | cells c2 e2 fr2 =>
        simp only [ObjKeeps] at *
        exact ⟨h'.1.trans h.1, h'.2.1.trans h.2.1, h'.2.2.1.trans h.2.2.1, fun j hj => (h'.2.2.2 j fun h => hj (hr j h)).trans (h.2.2.2 j hj)⟩
      | _ => simp [ObjKeeps] at h'
    | _ => simp [ObjKeeps] at h
  | map e c =>
    cases o1 with
    | map e1 c1 =>
      cases o2 with
      | map e2 c2 =>
        simp only [ObjKeeps] at *
        exact fun hn => ⟨(h' fun h => hn (hr 0 h)).1.trans (h hn).1, (h' fun h => hn (hr 0 h)).2.trans (h hn).2⟩
      | _ => simp [ObjKeeps] at h'
    | _ => simp [ObjKeeps] at h
  | _ =>
    simp only [ObjKeeps] at h
    subst h
    simp only [ObjKeeps] at h'
    subst h'
    simp only [ObjKeeps]

theorem Keeps.then {R R' : Nat → Nat → Prop} {a b c : World} (h : Keeps R a b) (k : Keeps R' b c) (hr : ∀ x i, x < a.heap.size → R' x i → R x i) : Keeps R a c := by
  refine ⟨k.os.trans h.os, k.tape.trans h.tape, k.output.trans h.output, Nat.le_trans h.size k.size, fun i o ho => ?_⟩
  have hi : i < a.heap.size := (Array.getElem?_eq_some_iff.1 ho).1
  obtain ⟨o1, h1, h2⟩ := h.obj i o ho
  obtain ⟨o2, h3, h4⟩ := k.obj i o1 h1
  exact ⟨o2, h3, h2.comp (hr i · hi) h4⟩

section
variable {P : Program} {env : Env} {C : Tab} {ρ ρ0 : PMap} {Z0 Z : Zone} {u : Nat → Bool} {base nb : Nat} {tmps : List (Option AVal)} {H H0 : Heap} {a : Act} {w w0 : World} {S : St}

structure Sync (env : Env) (Z0 Z : Zone) (ρ0 : PMap) (H0 : Heap) (w0 : World) (nb : Nat) (S : St) (ρ : PMap) (a : Act) (w : World) : Prop where
  pre : Pre env ρ Z S.used S.tmps S.heap a w
  keep : Keeps (inReg ρ0 H0) w0 w
  reg : ∀ k b, S.heap k = some b → ∀ i, (ρ k).lo ≤ i → i < (ρ k).hi → w0.heap.size ≤ (ρ k).block ∨ inReg ρ0 H0 (ρ k).block i
  old : ∀ k, k < nb → ρ k = ρ0 k
  nb : nb ≤ 256
  defers : a.defers = []
  grow : Grow (inReg ρ0 H0) w0 Z0 Z

theorem known_use {u : Nat → Bool} {b k : Nat} (h : known u k) : known (use u b) k := by
  rcases h with h | h
  · exact .inl h
  · refine .inr ?_
    unfold use
    cases Nat.beq (256 * (k / 256)) b
    · exact h
    · rfl

theorem known_new {u : Nat → Bool} {rid i k : Nat} (h : inBase (keyAt rid i) k) : known (use u (keyAt rid i)) k := by
  obtain ⟨h1, h2⟩ := h
  refine .inr ?_
  have : 256 * (k / 256) = keyAt rid i := by unfold keyAt at *; omega
  rw [this]
  simp [use]

theorem fresh_base {u : Nat → Bool} {rid i : Nat} (h : u (keyAt rid i) = false) : ∀ k, inBase (keyAt rid i) k → ¬ known u k := by
  rintro k ⟨h1, h2⟩ hk
  have h0 : 256 ≤ keyAt rid i := by unfold keyAt; omega
  rcases hk with hk | hk
  · omega
  · have : 256 * (k / 256) = keyAt rid i := by unfold keyAt at *; omega
    rw [this, h] at hk; cases hk

theorem put_getD {a : Act} {d : Option Tmp} {x : Value} {t : Nat} (hn : d ≠ some t) : (a.put d x).tmps.getD t undef = a.tmps.getD t undef := by
  cases d with
  | none => rfl
  | some d =>
    have : d ≠ t := fun e => hn (by rw [e])
    simp [Act.put, Array.getD_eq_getD_getElem?, Array.getElem?_setIfInBounds_ne this]

theorem put_getD_same {a : Act} {x : Value} {t : Nat} (ht : t < a.tmps.size) : (a.put (some t) x).tmps.getD t undef = x := by
  simp [Act.put, Array.getD_eq_getD_getElem?, ht]

theorem put_size {a : Act} {d : Option Tmp} {x : Value} : (a.put d x).tmps.size = a.tmps.size := by cases d <;> simp [Act.put]
theorem put_defers {a : Act} {d : Option Tmp} {x : Value} : (a.put d x).defers = a.defers := by cases d <;> rfl

/-- One step. -/
theorem Sync.after (h : Sync env Z0 Z ρ0 H0 w0 nb S ρ a w) {o : Oper} {rid i : Nat} {e : Eff} {x : Value} {w' : World} (he : EffOk env ρ Z S.used (keyAt rid i) S.heap w e x w') :
    ∃ Z' ρ', Sync env Z0 Z' ρ0 H0 w0 nb (S.after o (keyAt rid i) e) ρ' (a.put o.dst x) w' := by
  obtain ⟨Z', ρ', hgr, he⟩ := he
  have old : ∀ k, known S.used k → ρ' k = ρ k := he.old
  have kn : ∀ {k}, known S.used k ∨ inBase (keyAt rid i) k → known (use S.used (keyAt rid i)) k := fun hk => hk.elim known_use known_new
  refine ⟨Z', ρ', ⟨?_, ?_, he.heap, ?_⟩, ?_, ?_, ?_, h.nb, ?_, ?_⟩
  · show (a.put o.dst x).tmps.size = (putT S.tmps o.dst e.val).length
    rw [put_size, length_putT]; exact h.pre.size
  · intro t v ht
    rcases getL_putT ht with ⟨e1, e2⟩ | ⟨e1, e2⟩
    · have hlt : t < a.tmps.size := by
        have := getL_lt ht
        rw [show (S.after o (keyAt rid i) e).tmps = putT S.tmps o.dst e.val from rfl, length_putT, ← h.pre.size] at this
        exact this
      rw [e1, put_getD_same hlt]
      obtain ⟨g1, g2⟩ := he.val v e2
      exact ⟨g1, fun k hk => kn (g2 k hk)⟩
    · rw [put_getD e1]
      obtain ⟨g1, g2⟩ := h.pre.tmps t v e2
      exact ⟨(g1.lift g2 old).zone hgr.g fun _ => hgr.le, fun k hk => known_use (g2 k hk)⟩
  · intro k b hb
    rcases updL_some hb with hm | hm
    · obtain ⟨g1, g2⟩ := he.keysU k b hm
      exact ⟨kn g1, fun k' hk' => kn (g2 k' hk')⟩
    · obtain ⟨g1, g2⟩ := h.pre.keysH k b hm
      exact ⟨known_use g1, fun k' hk' => known_use (g2 k' hk')⟩
  · refine h.keep.then he.keep fun b i hb hR => ?_
    obtain ⟨k, B, g1, rfl, g3, g4⟩ := hR
    rcases h.reg k B g1 i g3 g4 with h | h
    · omega
    · exact h
  · intro k b hb j h1 h2
    rcases he.reg k b hb j h1 h2 with hr | hr
    · exact .inl (Nat.le_trans h.keep.size hr)
    · obtain ⟨k', B, g1, g2, g3, g4⟩ := hr
      rw [← g2]
      exact h.reg k' B g1 j g3 g4
  · intro k hk
    have := h.nb
    rw [old k (.inl (by omega)), h.old k hk]
  · rw [put_defers]; exact h.defers
  · refine h.grow.trans hgr fun b o hbo => ?_
    rcases hbo with hb | ⟨k, B, g1, g2, g3, g4⟩
    · exact .inl (Nat.le_trans h.keep.size hb)
    · rw [← g2]; exact h.reg k B g1 o g3 g4

theorem Sync.skip (h : Sync env Z0 Z ρ0 H0 w0 nb S ρ a w) (o : Oper) : Sync env Z0 Z ρ0 H0 w0 nb (S.skip o) ρ (a.put o.dst undef) w := by
  refine ⟨⟨?_, ?_, h.pre.heap, h.pre.keysH⟩, h.keep, h.reg, h.old, h.nb, by rw [put_defers]; exact h.defers, h.grow⟩
  · show (a.put o.dst undef).tmps.size = (putT S.tmps o.dst (some .tnil)).length
    rw [put_size, length_putT]; exact h.pre.size
  · intro t v ht
    rcases getL_putT ht with ⟨e1, e2⟩ | ⟨e1, e2⟩
    · have hlt : t < a.tmps.size := by
        have := getL_lt ht
        rw [show (S.skip o).tmps = putT S.tmps o.dst (some .tnil) from rfl, length_putT, ← h.pre.size] at this
        exact this
      cases e2
      rw [e1, put_getD_same hlt]
      exact ⟨by simp [RepV, AVal.isAgg, RepC, undef], fun k hk => by simp [AVal.keys] at hk⟩
    · rw [put_getD e1]; exact h.pre.tmps t v e2

/-! ### guards -/
theorem opAt_eq (l : List Oper) (i : Nat) : opAt l i = l[i]? := by
  induction l generalizing i with
  | nil => rfl
  | cons o l ih => cases i <;> simp [opAt, ih]

theorem guarded_inv {ops : Array Oper} (hp : Pre env ρ Z u tmps H a w) {o : Oper} {yes no : Prop} (h : guarded ops.toList tmps o yes no) :
    (Region.wanted o (yielded ops a.tmps) = true ∧ yes) ∨ (Region.wanted o (yielded ops a.tmps) = false ∧ no) := by
  unfold guarded at h
  unfold Region.wanted
  cases hg : o.guard with
  | none => rw [hg] at h; exact .inl ⟨rfl, h⟩
  | some jw =>
    obtain ⟨j, want⟩ := jw
    rw [hg] at h
    simp only [opAt_eq] at h
    cases hj : ops.toList[j]? with
    | none => rw [hj] at h; exact h.elim
    | some g =>
      rw [hj] at h
      simp only at h
      cases hd : g.dst with
      | none => rw [hd] at h; exact h.elim
      | some d =>
        rw [hd] at h
        simp only at h
        cases hv : getL tmps d with
        | none => rw [hv] at h; exact h.elim
        | some v =>
          rw [hv] at h
          cases v <;> try exact h.elim
          case bool b =>
            obtain ⟨g1, _⟩ := hp.tmps d _ hv
            rw [repV_bool] at g1
            have hlt : d < a.tmps.size := by rw [hp.size]; exact getL_lt hv
            have hy : yielded ops a.tmps j = some b := by
              unfold yielded
              have hj' : ops[j]? = some g := by simpa using hj
              simp only [hj', Option.bind_some, hd]
              have : a.tmps[d]? = some (.bool b) := by
                rw [Array.getD_eq_getD_getElem?, Array.getElem?_eq_getElem hlt] at g1
                rw [Array.getElem?_eq_getElem hlt]
                simpa using g1
              rw [this]
            show (yielded ops a.tmps j == some want) = true ∧ yes ∨ (yielded ops a.tmps j == some want) = false ∧ no
            rw [hy]
            cases want <;> simp only at h
            · rcases br_inv h with ⟨rfl, h⟩ | ⟨rfl, h⟩
              · exact .inr ⟨rfl, h⟩
              · exact .inl ⟨rfl, h⟩
            · rcases br_inv h with ⟨rfl, h⟩ | ⟨rfl, h⟩
              · exact .inl ⟨rfl, h⟩
              · exact .inr ⟨rfl, h⟩
          case tnil =>
            obtain ⟨g1, _⟩ := hp.tmps d _ hv
            have g1 : a.tmps.getD d undef = .tuple #[] := by simpa [RepV, AVal.isAgg, RepC] using g1
            have hlt : d < a.tmps.size := by rw [hp.size]; exact getL_lt hv
            have hy : yielded ops a.tmps j = none := by
              unfold yielded
              have hj' : ops[j]? = some g := by simpa using hj
              simp only [hj', Option.bind_some, hd]
              have : a.tmps[d]? = some (.tuple #[]) := by
                rw [Array.getD_eq_getD_getElem?, Array.getElem?_eq_getElem hlt] at g1
                rw [Array.getElem?_eq_getElem hlt]
                simpa using g1
              rw [this]
            show (yielded ops a.tmps j == some want) = true ∧ yes ∨ (yielded ops a.tmps j == some want) = false ∧ no
            rw [hy]
            exact .inr ⟨rfl, h⟩

/-- What an operation comes to is what the region goes on with. -/
theorem wp_of_post {K : Eff → Prop} {o : Oper} {next : Act → World → Prop} {Q : Exit → Act → World → Prop} (h : OpPost P env ρ Z u base H w K (fun _ _ => False) ((execOp a.eval o).run P w))
    (hn : ∀ e x w', K e → EffOk env ρ Z u base H w e x w' → next (a.put o.dst x) w') : o.wp P a w next Q := by
  unfold Oper.wp
  revert h
  generalize (execOp a.eval o).run P w = r
  intro h
  cases r with
  | halt => exact h.elim
  | ok n w' =>
    cases n with
    | value x => obtain ⟨e, hK, he⟩ := h; exact hn e x w' hK he
    | skip => obtain ⟨e, hK, he⟩ := h; exact hn e undef w' hK he
    | enter f args =>
      refine Calls.mono h fun en w'' hh => ?_
      rcases hh with ⟨e, x, rfl, hK, he⟩ | ⟨_, _, _, _, hf, _⟩
      · exact hn e x w'' hK he
      · exact hf.elim
    | _ => exact h.elim

theorem setL_same {α : Type 1} : ∀ {l : List (Option α)} {d : Nat} {v : α}, getL l d = some v → setL l d (some v) = l
  | [], d, v, h => by simp [getL] at h
  | x :: l, 0, v, h => by simp only [getL] at h; simp [setL, h]
  | x :: l, d + 1, v, h => by simp only [getL] at h; simp [setL, setL_same h]

theorem guardedS_inv {ops : List Oper} {S : St} {o : Oper} {yes no : St → Prop} (h : guardedS ops S o yes no) : guarded ops S.tmps o (yes S) (no S) := by
  unfold guardedS at h
  unfold guarded
  cases hg : o.guard with
  | none => rw [hg] at h; exact h
  | some jw =>
    obtain ⟨j, want⟩ := jw
    rw [hg] at h
    simp only at h ⊢
    cases hj : opAt ops j with
    | none => rw [hj] at h; exact h.elim
    | some g =>
      rw [hj] at h
      simp only at h ⊢
      cases hd : g.dst with
      | none => rw [hd] at h; exact h.elim
      | some d =>
        rw [hd] at h
        simp only at h ⊢
        cases hv : getL S.tmps d with
        | none => rw [hv] at h; exact h.elim
        | some v =>
          rw [hv] at h
          cases v <;> try exact h.elim
          case bool b =>
            have hk : S.know d b = S := by unfold St.know; rw [setL_same hv]
            cases want <;> cases b <;> simp only [br, hk] at h ⊢ <;> exact h
          case tnil => exact h

theorem evalOps_sound (hC : ∀ f c, C f = some c → CtrOk P env f c) (he : EnvOk P env) {rid : Nat} {ops : Array Oper} {K : St → Prop} {Q : Exit → Act → World → Prop}
    (hQ : ∀ S Z ρ a w, K S → Sync env Z0 Z ρ0 H0 w0 nb S ρ a w → Q .normal a w) : ∀ (os : List Oper) (i : Nat) (S : St) (Z : Zone) (ρ : PMap) (a : Act) (w : World), ops.toList.drop i = os → Sync env Z0 Z ρ0 H0 w0 nb S ρ a w →
      evalOps env C rid ops.toList os i S K → wpOps P ops Q (List.range' i os.length) a w
  | [], i, S, Z, ρ, a, w, _, hs, h => hQ S Z ρ a w h hs
  | o :: os, i, S, Z, ρ, a, w, hd, hs, h => by
    have ho : ops[i]? = some o := by
      have : (ops.toList.drop i)[0]? = some o := by rw [hd]; rfl
      simpa using this
    have hd' : ops.toList.drop (i + 1) = os := by rw [← List.drop_drop (i := 1) (j := i), hd]; rfl
    simp only [List.length_cons, List.range'_succ, wpOps, ho]
    simp only [evalOps] at h
    rcases guarded_inv hs.pre (guardedS_inv h) with ⟨hw, h⟩ | ⟨hw, h⟩
    · rw [hw]
      simp only [if_true]
      obtain ⟨hu, h⟩ := chk_inv h
      have hu : S.used (keyAt rid i) = false := by simpa using hu
      refine .inl (wp_of_post (op_any hC he hs.pre (fun _ => fresh_base hu) h) fun e x w' hK hE => ?_)
      obtain ⟨Z', ρ', hs'⟩ := hs.after (o := o) hE
      exact evalOps_sound hC he hQ os (i + 1) _ Z' ρ' _ w' hd' hs' hK
    · rw [hw]
      simp only [Bool.false_eq_true, if_false]
      exact evalOps_sound hC he hQ os (i + 1) _ Z ρ _ w hd' (hs.skip o) h

theorem region_sound (hC : ∀ f c, C f = some c → CtrOk P env f c) (he : EnvOk P env) {rid : Nat} {ops : Array Oper} {K : St → Prop} {Q : Exit → Act → World → Prop}
    (hQ : ∀ S Z ρ a w, K S → Sync env Z0 Z ρ0 H0 w0 nb S ρ a w → Q .normal a w) (hs : Sync env Z0 Z ρ0 H0 w0 nb S ρ a w) (h : evalOps env C rid ops.toList ops.toList 0 S K) : (Code.region rid ops false).wp P Q a w := by
  refine wp_region ?_
  rw [List.range_eq_range', ← Array.length_toList]
  exact evalOps_sound hC he hQ ops.toList 0 S Z ρ a w rfl hs h
end
end Go.Abs
