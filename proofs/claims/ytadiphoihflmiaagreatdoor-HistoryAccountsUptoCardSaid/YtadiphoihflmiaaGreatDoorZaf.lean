/- Operations: loads, numbers, structs. Operations: comparisons. -/
import Derived.Test.YtadiphoihflmiaaGreatDoorZae
import Derived.LaidEqlPtr
import Derived.Laws.StructEq
import Derived.ChangeKeysEq
set_option linter.all false
namespace Go.Abs
section
variable {P : Program} {env : Env} {C : Tab} {ρ : PMap} {Z : Zone} {u : Nat → Bool} {base : Nat} {tmps : List (Option AVal)} {H : Heap} {a : Act} {w : World} {K : Eff → Prop} {KP : AVal → List (Nat × Option Blk) → Prop}

/-- An operation that yields a value, the memory as it is. -/
theorem OpPost.val (hp : Pre env ρ Z u tmps H a w) {r : Result Next} {x : Value} {v : AVal} (hr : r = .ok (.value x) w) (hk : K1 K v) (h1 : RepV env ρ Z v x) (h2 : ∀ k, k ∈ v.keys → known u k) :
    OpPost P env ρ Z u base H w K KP r := by
  subst hr; exact ⟨_, hk, .same hp.heap h1 h2⟩

theorem repV_int {k : IntKind} {x : TT k} {y : Value} : RepV env ρ Z (.int k x) y ↔ y = .int k (toI k x) := by simp [RepV, AVal.isAgg, RepC]
theorem repV_bool {b : Bool} {y : Value} : RepV env ρ Z (.bool b) y ↔ y = .bool b := by simp [RepV, AVal.isAgg, RepC]
theorem repV_str {s : List UInt8} {y : Value} : RepV env ρ Z (.str s) y ↔ y = .string ⟨s.toArray⟩ := by simp [RepV, AVal.isAgg, RepC]
theorem repV_nilIface {y : Value} : RepV env ρ Z .nilIface y ↔ y = .nilIface := by simp [RepV, AVal.isAgg, RepC]
theorem repV_nilptr {y : Value} : RepV env ρ Z .nilptr y ↔ y = .pointer none := by simp [RepV, AVal.isAgg, RepC]
theorem repV_nilsl {y : Value} : RepV env ρ Z .nilsl y ↔ y = .slice none 0 0 := by simp [RepV, AVal.isAgg, RepC]
theorem repV_iface {t : Nat} {v : AVal} {y : Value} : RepV env ρ Z (.iface t v) y ↔ ∃ x, y = .iface t x ∧ RepV env ρ Z v x := by
  simp [RepV, AVal.isAgg, RepC]
theorem repV_arr {k : IntKind} {n : Nat} {l : List (TT k)} {y : Value} : RepV env ρ Z (.arr k n l) y ↔ l.length = n ∧ y = .agg (l.map fun x => .int k (toI k x)).toArray := by
  simp only [RepV, AVal.isAgg, RepC]
  constructor
  · rintro ⟨az, rfl, h1, h2⟩; exact ⟨h1, by rw [← h2]⟩
  · rintro ⟨h1, rfl⟩; exact ⟨_, rfl, h1, by simp⟩
theorem repV_vp {v : AVal} {y : Value} : RepV env ρ Z (.vp v) y ↔ v.keys = [] ∧ ∃ b o ecs, y = .pointer (some ⟨b, o, none⟩) ∧ RepC env ρ Z v ecs ∧ ∀ j c, ecs[j]? = some c → Z b (o + j) = some c := by
  simp [RepV, AVal.isAgg, RepC]
theorem repV_fn {f : Fn} {x y : AVal} {z : Value} : RepV env ρ Z (.fn f x y) z ↔ ∃ xs ys, z = .func f xs ys ∧ RepA env ρ Z x xs.toList ∧ RepA env ρ Z y ys.toList := by
  simp [RepV, AVal.isAgg, RepC]

/-! ### loads -/
theorem load_vp (he : EnvOk P env) (hh : HeapOk env ρ Z w H) {t : Nat} {v : AVal} {x : Value} (h : RepV env ρ Z (.vp v) x) (ht : HT env t v) :
    ∃ b o y, x = .pointer (some ⟨b, o, none⟩) ∧ (loadVar t ⟨b, o, none⟩).run P w = .ok y w ∧ RepV env ρ Z v y := by
  obtain ⟨hk, b, o, ecs, rfl, hr, hz⟩ := repV_vp.1 h
  obtain ⟨y, hy, hry⟩ := run_loadVar (P := P) (w := w) he ht hr fun i c hc => hh.zone _ _ _ (hz i c hc)
  exact ⟨b, o, y, rfl, hy, hry⟩

/-! ### numbers -/
theorem wrap_id {k : IntKind} (x : TT k) (hs : k.signed = false) : k.wrap (toI k x) = toI k x := by
  have := toI_inR k x
  simp [inR, hs] at this
  unfold IntKind.wrap
  simp [hs]
  exact Int.emod_eq_of_lt this.1 this.2

theorem isNeg_false {k : IntKind} {x : TT k} (h : (!isNeg k x) = true) : 0 ≤ toI k x := by
  unfold isNeg at h
  cases hs : k.signed with
  | false => exact toI_nonneg hs x
  | true => simp [hs] at h; exact h

theorem cast_int {k k' : IntKind} {y : TT k'} {z : TT k} (h : castT k k' y = some z) : k' = k ∧ toI k' y = toI k z := by
  obtain ⟨rfl, rfl⟩ := castT_some h; exact ⟨rfl, rfl⟩

theorem wrap_bits (k : IntKind) (n : Nat) : toI k (ofI k (n : Int)) = k.wrap (n : Int) := toI_ofI _ _

theorem run_binInt (op : BinOp) (t : TypeId) {k : IntKind} (x y : TT k) (X Y : Operand) {K' : AVal → Prop} (h : binInt op k x y K') :
    ∃ v z, K' v ∧ (do eqGuard op t X Y (.int k (toI k x)) (.int k (toI k y)); binOp op t (.int k (toI k x)) (.int k (toI k y)) : Sem Value).run P w = .ok z w ∧ RepV env ρ Z v z ∧ v.keys = [] := by
  cases op <;> simp only [binInt] at h <;> try exact h.elim
  case quo =>
    obtain ⟨h0, h⟩ := chk_inv h
    simp at h0
    exact ⟨_, _, h, by simp [eqGuard, binOp, Op.intDiv, h0]; rfl, by simp [RepV, AVal.isAgg, RepC, toI_quoT], rfl⟩
  case rem =>
    obtain ⟨h0, h⟩ := chk_inv h
    simp at h0
    exact ⟨_, _, h, by simp [eqGuard, binOp, Op.intDiv, h0]; rfl, by simp [RepV, AVal.isAgg, RepC, toI_remT k x y h0], rfl⟩
  case add => exact ⟨_, _, h, by simp [eqGuard, binOp, Op.intArith]; rfl, by simp [RepV, AVal.isAgg, RepC, toI_addT], rfl⟩
  case sub => exact ⟨_, _, h, by simp [eqGuard, binOp, Op.intArith]; rfl, by simp [RepV, AVal.isAgg, RepC, toI_subT], rfl⟩
  case mul => exact ⟨_, _, h, by simp [eqGuard, binOp, Op.intArith]; rfl, by simp [RepV, AVal.isAgg, RepC, toI_mulT], rfl⟩
  case and => exact ⟨_, _, h, by simp [eqGuard, binOp, Op.intBits]; rfl, by simp [RepV, AVal.isAgg, RepC, andT, toI_ofI], rfl⟩
  case or => exact ⟨_, _, h, by simp [eqGuard, binOp, Op.intBits]; rfl, by simp [RepV, AVal.isAgg, RepC, orT, toI_ofI], rfl⟩
  case xor => exact ⟨_, _, h, by simp [eqGuard, binOp, Op.intBits]; rfl, by simp [RepV, AVal.isAgg, RepC, xorT, toI_ofI], rfl⟩
  case andNot => exact ⟨_, _, h, by simp [eqGuard, binOp, Op.intBits]; rfl, by simp [RepV, AVal.isAgg, RepC, andNotT, toI_ofI], rfl⟩
  case eql => exact ⟨_, _, h, by simp [eqGuard, binOp, Op.intCmp]; rfl, by simp [RepV, AVal.isAgg, RepC, eqT], rfl⟩
  case neq => exact ⟨_, _, h, by simp [eqGuard, binOp, Op.intCmp]; rfl, by simp [RepV, AVal.isAgg, RepC, eqT, bne], rfl⟩
  case lss => exact ⟨_, _, h, by simp [eqGuard, binOp, Op.intCmp]; rfl, by simp [RepV, AVal.isAgg, RepC, ltT], rfl⟩
  case leq => exact ⟨_, _, h, by simp [eqGuard, binOp, Op.intCmp]; rfl, by simp [RepV, AVal.isAgg, RepC, leT], rfl⟩
  case gtr => exact ⟨_, _, h, by simp [eqGuard, binOp, Op.intCmp]; rfl, by simp [RepV, AVal.isAgg, RepC, ltT], rfl⟩
  case geq => exact ⟨_, _, h, by simp [eqGuard, binOp, Op.intCmp]; rfl, by simp [RepV, AVal.isAgg, RepC, leT], rfl⟩

theorem run_shift (op : BinOp) (hop : op = .shl ∨ op = .shr) (t : TypeId) {k k' : IntKind} (x : TT k) (y : TT k') (X Y : Operand) (hn : 0 ≤ toI k' y) :
    (do eqGuard op t X Y (.int k (toI k x)) (.int k' (toI k' y)); binOp op t (.int k (toI k x)) (.int k' (toI k' y)) : Sem Value).run P w =
      .ok (.int k (toI k (match op with | .shl => shlT k x (toI k' y).toNat | _ => shrT k x (toI k' y).toNat))) w := by
  have h0 : ¬ toI k' y < 0 := by omega
  rcases hop with rfl | rfl
  · simp [eqGuard, binOp, Op.shift, h0, toI_shlT]
  · simp [eqGuard, binOp, Op.shift, h0, toI_shrT]

theorem op_unOp (hp : Pre env ρ Z u tmps H a w) {o : Oper} {op : UnOp} {t : Nat} {x : Operand} (ho : o.op = .unOp op t x)
    (h : ob (opVal tmps x) fun a => unOpA op a (K1 K)) : OpPost P env ρ Z u base H w K KP ((execOp a.eval o).run P w) := by
  obtain ⟨v, hv, q⟩ := ob_inv h
  obtain ⟨h1, h2⟩ := hp.opVal hv
  cases op <;> cases v <;> simp only [unOpA] at q <;> try exact q.elim
  · rw [repV_int] at h1
    exact OpPost.val hp (by simp [execOp, ho, h1, Op.unary, Op.intArith]; rfl) q (by simp [RepV, AVal.isAgg, RepC, toI_negT]) (by simp [AVal.keys])
  · rw [repV_int] at h1
    exact OpPost.val hp (by simp [execOp, ho, h1, Op.unary, Op.intBits]; rfl) q (by simp [RepV, AVal.isAgg, RepC, notT, toI_ofI]) (by simp [AVal.keys])
  · rw [repV_bool] at h1
    exact OpPost.val hp (by simp [execOp, ho, h1, Op.unary]; rfl) q (by simp [RepV, AVal.isAgg, RepC]) (by simp [AVal.keys])

theorem op_nilCheck (hp : Pre env ρ Z u tmps H a w) {o : Oper} {x : Operand} (ho : o.op = .nilCheck x)
    (h : ob (opVal tmps x) fun v => match v with
    | .ptr .. => K1 K v
    | .kp .. => K1 K v
    | .vp .. => K1 K v
    | .gp .. => K1 K v
    | .iface .. => K1 K v
    | .fn (.func _) _ _ => K1 K v
    | _ => False) : OpPost P env ρ Z u base H w K KP ((execOp a.eval o).run P w) := by
  obtain ⟨v, hv, q⟩ := ob_inv h
  obtain ⟨h1, h2⟩ := hp.opVal hv
  have key : ∀ y, a.eval x = y → (match y with | .pointer (some _) => True | .iface _ _ => True | .func (.func _) _ _ => True | _ => False) → (execOp a.eval o).run P w = .ok (.value y) w := by
    intro y hy hm
    subst hy
    cases hx : a.eval x <;> rw [hx] at hm <;> try exact hm.elim
    · rename_i p; cases p <;> first | exact hm.elim | simp [execOp, ho, hx]
    · rename_i f _ _; cases f <;> first | exact hm.elim | simp [execOp, ho, hx]
    · simp [execOp, ho, hx]
  cases v <;> try exact q.elim
  · exact OpPost.val hp (key _ rfl (by rw [(ptr_inv h1).2]; trivial)) q h1 h2
  · obtain ⟨_, _, _, _, e, _⟩ := repV_vp.1 h1
    exact OpPost.val hp (key _ rfl (by rw [e]; trivial)) q h1 h2
  · have e : ∃ z, a.eval x = .pointer (some z) := by
      have := h1; simp [RepV, AVal.isAgg, RepC] at this; exact ⟨_, this.2.1⟩
    obtain ⟨z, e⟩ := e
    exact OpPost.val hp (key _ rfl (by rw [e]; trivial)) q h1 h2
  · obtain ⟨_, e, _⟩ := repV_iface.1 h1
    exact OpPost.val hp (key _ rfl (by rw [e]; trivial)) q h1 h2
  · rename_i f _ _
    cases f <;> try exact q.elim
    obtain ⟨_, _, e, _⟩ := repV_fn.1 h1
    exact OpPost.val hp (key _ rfl (by rw [e]; trivial)) q h1 h2
  · have e := h1; simp only [RepV, AVal.isAgg, RepC, List.cons.injEq, and_true] at e
    exact OpPost.val hp (key _ rfl (by rw [e]; trivial)) q h1 h2

theorem tup_get : ∀ {v x : AVal} {i : Nat} {xs : List Value}, RepA env ρ Z v xs → v.getT i = some x → ∃ y, xs[i]? = some y ∧ RepV env ρ Z x y ∧ ∀ k, k ∈ x.keys → k ∈ v.keys := by
  intro v
  induction v with
  | tcons p q _ ih =>
    intro x i xs hr hg
    simp only [RepA] at hr
    obtain ⟨y, ys, rfl, h1, h2⟩ := hr
    cases i with
    | zero => simp [AVal.getT] at hg; subst hg; exact ⟨y, rfl, h1, fun k hk => by simp [AVal.keys, hk]⟩
    | succ i =>
      simp [AVal.getT] at hg
      obtain ⟨z, e, h3, h4⟩ := ih h2 hg
      exact ⟨z, by simpa using e, h3, fun k hk => by simp [AVal.keys, h4 k hk]⟩
  | _ => intro x i xs _ hg; cases i <;> simp [AVal.getT] at hg

theorem op_extract (hp : Pre env ρ Z u tmps H a w) {o : Oper} {x : Operand} {i : Nat} (ho : o.op = .extract x i)
    (h : ob (opVal tmps x) fun x => ob (x.getT i) (K1 K)) : OpPost P env ρ Z u base H w K KP ((execOp a.eval o).run P w) := by
  obtain ⟨v, hv, q1⟩ := ob_inv h
  obtain ⟨y, hy, q2⟩ := ob_inv q1
  obtain ⟨h1, h2⟩ := hp.opVal hv
  obtain ⟨p, q', rfl⟩ : ∃ p q', v = .tcons p q' := by cases v <;> first | exact ⟨_, _, rfl⟩ | (cases i <;> simp [AVal.getT] at hy)
  simp only [RepV, AVal.isAgg, RepC] at h1
  obtain ⟨vs, e, z, zs, e2, h3, h4⟩ := h1
  simp at e
  have hA : RepA env ρ Z (.tcons p q') vs.toList := by simp only [RepA]; exact ⟨z, zs, e2, h3, h4⟩
  obtain ⟨c, hc, hr, hk⟩ := tup_get hA hy
  exact OpPost.val hp (x := c) (by simp at hc; simp [execOp, ho, e, Instr.extract, hc]) q2 hr fun k hm => h2 k (hk k hm)

/-! ### structs -/
theorem op_makeInterface (he : EnvOk P env) (hp : Pre env ρ Z u tmps H a w) {o : Oper} {x : Operand} {t : Nat} (ho : o.op = .makeInterface t x)
    (h : ob (opVal tmps x) fun a => match env.td t with
    | some .iface => False
    | some _ => chk (hasTy env 8 t a) (K1 K (.iface t a))
    | none => False) : OpPost P env ρ Z u base H w K KP ((execOp a.eval o).run P w) := by
  obtain ⟨v, hv, q⟩ := ob_inv h
  obtain ⟨h1, h2⟩ := hp.opVal hv
  cases htd : env.td t with
  | none => rw [htd] at q; exact q.elim
  | some d =>
    rw [htd] at q
    have q' : K1 K (.iface t v) := by cases d <;> first | exact q.elim | exact (chk_inv q).2
    have hu := he.und t d htd
    refine OpPost.val hp (x := .iface t (a.eval x)) ?_ q' (repV_iface.2 ⟨_, rfl, h1⟩) (by simpa [AVal.keys] using h2)
    cases d with
    | iface => exact q.elim
    | struct fs => obtain ⟨_, hu, _⟩ := hu; simp [execOp, ho, Instr.makeInterface, run_underlying' hu]
    | func => obtain ⟨_, _, _, hu⟩ := hu; simp [execOp, ho, Instr.makeInterface, run_underlying' hu]
    | _ => simp only [UndOk] at hu; simp [execOp, ho, Instr.makeInterface, run_underlying' hu]

theorem RepA_ofList : ∀ {vs : List AVal} {xs : List Value}, RepVs env ρ Z vs xs → RepA env ρ Z (.ofList vs) xs
  | [], xs, h => by simpa [AVal.ofList, RepA, RepVs] using h
  | v :: vs, xs, h => by
    obtain ⟨x, ys, rfl, h1, h2⟩ := h
    simp only [AVal.ofList, RepA]
    exact ⟨x, ys, rfl, h1, RepA_ofList h2⟩

theorem keys_ofList : ∀ (vs : List AVal), (AVal.ofList vs).keys = keysL vs
  | [] => rfl
  | v :: vs => by simp [AVal.ofList, AVal.keys, keysL, keys_ofList vs]

theorem op_makeFunc (hp : Pre env ρ Z u tmps H a w) {o : Oper} {f : Fn} {first captured : Array Operand} (ho : o.op = .makeFunc f first captured)
    (h : ob (opVals tmps first.toList) fun x => ob (opVals tmps captured.toList) fun y => K1 K (.fn f (.ofList x) (.ofList y))) : OpPost P env ρ Z u base H w K KP ((execOp a.eval o).run P w) := by
  obtain ⟨v, hv, q⟩ := ob_inv h
  obtain ⟨v', hv', q⟩ := ob_inv q
  obtain ⟨h1, h2⟩ := hp.opVals hv
  obtain ⟨h3, h4⟩ := hp.opVals hv'
  refine OpPost.val hp (x := .func f (first.map a.eval) (captured.map a.eval)) (by simp [execOp, ho, Instr.makeFunc]) q (repV_fn.2 ⟨_, _, rfl, by simpa using RepA_ofList h1, by simpa using RepA_ofList h3⟩) ?_
  intro k hk
  simp [AVal.keys, keys_ofList] at hk
  exact hk.elim (h2 k) (h4 k)
end
end Go.Abs

namespace Go.Abs
section
variable {P : Program} {env : Env} {C : Tab} {ρ : PMap} {Z : Zone} {u : Nat → Bool} {base : Nat} {tmps : List (Option AVal)} {H : Heap} {a : Act} {w : World} {K : Eff → Prop} {KP : AVal → List (Nat × Option Blk) → Prop}

theorem beq_str (a b : List UInt8) : ((⟨a.toArray⟩ : ByteArray).toList == (⟨b.toArray⟩ : ByteArray).toList) = (a == b) := by
  rw [ByteArray.toList_eq, ByteArray.toList_eq]

/-- A part of an aggregate, as the model takes it. -/
theorem run_part (he : EnvOk P env) {t : Nat} {v : AVal} {cs c1 c2 c3 : List Value} {o : Nat} (ht : HT env t v) (hr : RepC env ρ Z v c2) (e : cs = c1 ++ c2 ++ c3) (ho : c1.length = o) (w : World) :
    ∃ x, (part t cs.toArray o).run P w = .ok x w ∧ RepV env ρ Z v x := by
  obtain ⟨d, htd, hag⟩ := ht.td
  have hlen := ht.len he.size hr
  subst ho
  unfold part
  cases hd : d.agg with
  | true =>
    refine ⟨.agg c2.toArray, ?_, ?_⟩
    · simp only [run_isAgg he htd, hd, run_sizeOf he htd, Sem.run_bind, Result.andThen_ok, if_true, Sem.run_pure]
      congr 2
      subst e
      simp [← hlen, List.extract_eq_take_drop, List.append_assoc]
    · unfold RepV; rw [hag, hd]; exact ⟨_, rfl, by simpa using hr⟩
  | false =>
    have h1 : env.sz t = 1 := by
      rw [he.size t d htd]; cases d <;> simp [TD.agg] at hd <;> rfl
    match c2, (by omega : c2.length = 1) with
    | [c], _ =>
      refine ⟨c, ?_, ?_⟩
      · subst e
        simp [run_isAgg he htd, hd]
      · unfold RepV; rw [hag, hd]; exact hr

theorem eqItems_ints {e : Nat} {k : IntKind} (he : EnvOk P env) (hte : env.td e = some (.int k)) (d : Nat) (w : World) : ∀ (l m pre pre' : List (TT k)), l.length = m.length → pre.length = pre'.length →
    (Op.eqItems (d + 1) e (P.cellsOf e) ((pre ++ l).map fun x => Value.int k (toI k x)).toArray ((pre' ++ m).map fun x => Value.int k (toI k x)).toArray (List.range' pre.length l.length)).run P w = .ok (eqL k l m) w := by
  have hsz : P.cellsOf e = 1 := by
    obtain ⟨i, h1, h2, _⟩ := he.info e _ hte
    simp [Program.cellsOf, h1, h2, he.size e _ hte, szOf]
  have hu := he.und e _ hte
  simp only [UndOk] at hu
  intro l
  induction l with
  | nil => intro m pre pre' h _; cases m <;> simp at h; simp [Op.eqItems, eqL]
  | cons x xs ih =>
    intro m pre pre' h hp
    cases m with
    | nil => simp at h
    | cons y ys =>
      simp at h
      have p1 : (part e ((pre ++ x :: xs).map fun x => Value.int k (toI k x)).toArray (pre.length * P.cellsOf e)).run P w = .ok (.int k (toI k x)) w := by
        unfold part; simp [run_isAgg he hte, TD.agg, hsz]
      have p2 : (part e ((pre' ++ y :: ys).map fun x => Value.int k (toI k x)).toArray (pre.length * P.cellsOf e)).run P w = .ok (.int k (toI k y)) w := by
        unfold part; simp [run_isAgg he hte, TD.agg, hsz, hp]
      have q : (Op.equalIn (d + 1) e (.int k (toI k x)) (.int k (toI k y))).run P w = .ok (eqT k x y) w := run_equalIn_int w d e k k _ _ hu
      simp only [List.length_cons, List.range'_succ, Op.eqItems, Sem.run_bind, p1, p2, q, Result.andThen_ok, eqL]
      have := ih ys (pre ++ [x]) (pre' ++ [y]) (by omega) (by simp [hp])
      simp only [List.append_assoc, List.singleton_append, List.length_append, List.length_singleton] at this
      cases eqT k x y
      · simp only [Bool.not_false, if_true, Sem.run_pure]; rfl
      · simp only [Bool.not_true, Bool.false_eq_true, if_false]; rw [this]; rfl

theorem eqFields_run {he : EnvOk P env} {n : Nat} {t : Nat} {xs ys : List Value} (w : World)
    (ih : ∀ (t : Nat) (v v' : AVal) (r : Bool), eqV env n t v v' = some r → HT env t v → HT env t v' → ∀ D, n + 1 ≤ D → ∀ x y, RepV env ρ Z v x → RepV env ρ Z v' y → (Op.equalIn D t x y).run P w = .ok r w)
    {D : Nat} (hD : n + 1 ≤ D) : ∀ (fs : List Nat) (fields : List Field) (off : Nat) (v v' : AVal) (r : Bool) (p1 c1 p2 c2 : List Value) (hd : Nat → AVal → Bool), (∀ t v, hd t v = true → HT env t v) →
      eqL' (eqV env n) fs v v' = some r → hasL hd fs v = true → hasL hd fs v' = true → fields.map (·.type) = fs → (∀ i f, fields[i]? = some f → f.offset = off + sumSz env (fs.take i) ∧ f.name ≠ "_") →
      RepC env ρ Z v c1 → RepC env ρ Z v' c2 → xs = p1 ++ c1 → ys = p2 ++ c2 → p1.length = off → p2.length = off →
      (Op.eqFields D xs.toArray ys.toArray fields).run P w = .ok r w := by
  intro fs
  induction fs with
  | nil =>
    intro fields off v v' r p1 c1 p2 c2 hd _ h h1 h2 hf hoff _ _ _ _ _ _
    cases fields <;> simp at hf
    cases v <;> simp [hasL] at h1
    cases v' <;> simp [hasL] at h2
    simp [eqL'] at h; subst h
    simp [Op.eqFields]
  | cons t ts ihf =>
    intro fields off v v' r p1 c1 p2 c2 hd hhd h h1 h2 hf hoff hr1 hr2 e1 e2 l1 l2
    cases fields with
    | nil => simp at hf
    | cons f fields =>
      simp at hf
      obtain ⟨rfl, hf⟩ := hf
      cases v <;> simp [hasL] at h1
      cases v' <;> simp [hasL] at h2
      rename_i x xs' y ys'
      cases hx : hd f.type x <;> simp [hx] at h1
      cases hy : hd f.type y <;> simp [hy] at h2
      simp only [RepC] at hr1 hr2
      obtain ⟨a1, a2, rfl, ra1, ra2⟩ := hr1
      obtain ⟨b1, b2, rfl, rb1, rb2⟩ := hr2
      cases hq : eqV env n f.type x y with
      | none => simp [eqL', hq] at h
      | some q =>
        cases hq2 : eqL' (eqV env n) ts xs' ys' with
        | none => simp [eqL', hq, hq2] at h
        | some q2 =>
          simp [eqL', hq, hq2] at h; subst h
          obtain ⟨ho, hn⟩ := hoff 0 f rfl
          simp [sumSz] at ho
          obtain ⟨z1, hz1, rz1⟩ := run_part (P := P) he (hhd _ _ hx) ra1 (cs := xs) (c1 := p1) (c3 := a2) (o := f.offset) (by simp [e1]) (by omega) w
          obtain ⟨z2, hz2, rz2⟩ := run_part (P := P) he (hhd _ _ hy) rb1 (cs := ys) (c1 := p2) (c3 := b2) (o := f.offset) (by simp [e2]) (by omega) w
          have he1 := ih _ _ _ _ hq (hhd _ _ hx) (hhd _ _ hy) D hD z1 z2 rz1 rz2
          have hlx := (hhd _ _ hx).len he.size ra1
          have hly := (hhd _ _ hy).len he.size rb1
          have rest := ihf fields (off + env.sz f.type) xs' ys' q2 (p1 ++ a1) a2 (p2 ++ b1) b2 hd hhd hq2 h1 h2 hf (fun i g hg => by
            obtain ⟨o1, o2⟩ := hoff (i + 1) g (by simpa using hg)
            simp [sumSz] at o1
            exact ⟨by omega, o2⟩) ra2 rb2 (by simp [e1]) (by simp [e2]) (by simp; omega) (by simp; omega)
          unfold Op.eqFields
          simp only [hn, ne_eq, not_false_eq_true, if_true, Sem.run_bind, hz1, hz2, he1, Result.andThen_ok]
          cases q
          · simp [andB]
          · simp [andB, rest]

theorem eqPtr_run (he : EnvOk P env) (w : World) (hG : GOk env Z w) {t e i j : Nat} {r : Bool} (h : eqPtr env e i j = some r) (htd : env.td t = some (.ptr e)) (D : Nat) {x y : Value}
    (hx : RepV env ρ Z (.gp i) x) (hy : RepV env ρ Z (.gp j) y) : (Op.equalIn (D + 1) t x y).run P w = .ok r w := by
  have hu := he.und t _ htd
  simp only [UndOk] at hu
  simp only [RepV, AVal.isAgg, RepC, List.cons.injEq, and_true] at hx hy
  subst hx; subst hy
  unfold eqPtr at h
  cases hd : env.td e with
  | none => simp [hd] at h
  | some d =>
  simp only [hd] at h
  obtain ⟨inf, hi, hsz, -⟩ := he.info e d hd
  cases hgi : env.gv i with
  | none => simp [hgi] at h
  | some vi =>
    cases hgj : env.gv j with
    | none => simp [hgi, hgj] at h
    | some vj =>
      cases h1 : Nat.ble 1000 i <;> simp [hgi, hgj, h1] at h
      cases h2 : Nat.ble 1000 j <;> simp [h2] at h
      cases h3 : Nat.beq (env.sz e) 0 <;> simp [h3] at h
      have h1 := Nat.le_of_ble_eq_true h1
      have h2 := Nat.le_of_ble_eq_true h2
      have h3 : env.sz e ≠ 0 := fun h0 => by rw [h0] at h3; simp at h3
      by_cases hij : i = j
      · subst hij
        subst h
        simp [Op.equalIn, run_underlying' hu, sizeOf, typeInfo, hi, run_sameAddr_same]
      · have hne : Z.g i ≠ Z.g j := fun h0 => hij (hG.inj i j (by simp [hgi]) (by simp [hgj]) h1 h2 h0)
        obtain ⟨ca, ea, ha⟩ := hG.cells i (by simp [hgi]) h1
        obtain ⟨cb, eb, hb⟩ := hG.cells j (by simp [hgj]) h2
        have hne' : (⟨(Z.g i).1, (Z.g i).2, none⟩ : Addr) ≠ ⟨(Z.g j).1, (Z.g j).2, none⟩ := fun h0 => by
          simp only [Addr.mk.injEq, and_true] at h0
          exact hne (Prod.ext h0.1 h0.2)
        have hf : r = false := by rw [← h]; exact beq_false_of_ne hij
        subst hf
        simp [Op.equalIn, run_underlying' hu, sizeOf, typeInfo, hi, hsz, h3, run_sameAddr_other w hne' ha hb]

theorem repV_gp {i : Nat} {y : Value} : RepV env ρ Z (.gp i) y ↔ y = .pointer (some ⟨(Z.g i).1, (Z.g i).2, none⟩) := by simp [RepV, AVal.isAgg, RepC]
theorem repV_mp {k : Nat} {y : Value} : RepV env ρ Z (.mp k) y ↔ (∃ a b, (ρ k).root = .map a b) ∧ y = .map (some (ρ k).block) := by simp [RepV, AVal.isAgg, RepC]
theorem repV_nilmap {y : Value} : RepV env ρ Z .nilmap y ↔ y = .map none := by simp [RepV, AVal.isAgg, RepC]
theorem repV_nilfn {y : Value} : RepV env ρ Z .nilfn y ↔ y = .nilFunc := by simp [RepV, AVal.isAgg, RepC]

set_option maxHeartbeats 2000000 in
theorem eqV_run (he : EnvOk P env) (w : World) (hG : GOk env Z w) : ∀ (n t : Nat) (v v' : AVal) (r : Bool), eqV env n t v v' = some r → HT env t v → HT env t v' → ∀ D, n + 1 ≤ D → ∀ x y, RepV env ρ Z v x → RepV env ρ Z v' y →
    (Op.equalIn D t x y).run P w = .ok r w := by
  intro n
  induction n with
  | zero => intro t v v' r h; simp [eqV] at h
  | succ n ih =>
    intro t v v' r h ht ht' D hD x y hx hy
    obtain ⟨D, rfl⟩ : ∃ D', D = D' + 1 := ⟨D - 1, by omega⟩
    unfold eqV at h
    cases htd : env.td t with
    | none => simp [htd] at h
    | some td =>
      have hu := he.und t td htd
      cases td with
      | struct fs =>
        simp only [htd] at h
        cases heq : env.eq t with
        | false => simp [heq] at h
        | true =>
          simp only [heq] at h
          obtain ⟨fields, hu, hfs, hoff⟩ := hu
          obtain ⟨hst, hnm⟩ := he.eqf t fs fields heq htd hu
          have hfo : P.fieldsOf t = fields := by simp [Program.fieldsOf, hu]
          obtain ⟨dv, hdv⟩ := ht
          obtain ⟨dv', hdv'⟩ := ht'
          have hb1 : hasL (hasTy env (max dv dv')) fs v = true := by
            have := hasTy_mono (Nat.le_succ_of_le (Nat.le_max_left dv dv')) hdv
            unfold hasTy at this; simpa [htd] using this
          have hb2 : hasL (hasTy env (max dv dv')) fs v' = true := by
            have := hasTy_mono (Nat.le_succ_of_le (Nat.le_max_right dv dv')) hdv'
            unfold hasTy at this; simpa [htd] using this
          have g1 : v.isAgg = true := hasL_agg hb1
          have g2 : v'.isAgg = true := hasL_agg hb2
          unfold RepV at hx hy
          rw [g1] at hx; rw [g2] at hy
          obtain ⟨xs, rfl, hx⟩ := hx
          obtain ⟨ys, rfl, hy⟩ := hy
          rw [run_equalIn_struct w D t xs ys (by rw [hfo]; exact hu) hst, hfo]
          have := eqFields_run (P := P) (he := he) (t := t) (xs := xs.toList) (ys := ys.toList) w (fun t v v' r h h1 h2 D hD x y => ih t v v' r h h1 h2 D hD x y) (D := D) (by omega) fs fields.toList 0 v v' r [] xs.toList [] ys.toList _ (fun t v h => ⟨_, h⟩) h hb1 hb2 hfs
            (fun i f hf => ⟨by have := hoff i f (by simpa using hf); simpa using this, hnm i f (by simpa using hf)⟩) hx hy rfl rfl rfl rfl
          simpa using this
      | arr m e =>
        cases v <;> simp [htd] at h
        cases v' <;> simp at h
        rename_i k n1 l k' n2 l'
        simp only [UndOk] at hu
        cases hte : env.td e with
        | none => simp [hte] at h
        | some te =>
          cases te <;> simp [hte] at h
          rename_i kk
          cases hc : castL k k' l' with
          | none => simp [hc] at h
          | some l2 =>
            cases hm1 : Nat.beq m n1 <;> simp [hc, hm1] at h
            cases hm2 : Nat.beq m n2 <;> simp [hm2] at h
            obtain ⟨rfl, rfl⟩ := castL_some hc
            have hm1 := beq_eq hm1; have hm2 := beq_eq hm2
            subst hm1; subst hm2
            obtain ⟨hl, rfl⟩ := repV_arr.1 hx
            obtain ⟨hl', rfl⟩ := repV_arr.1 hy
            -- the kinds agree
            have hk : kk = k' := by
              obtain ⟨dv, hdv⟩ := ht
              cases dv with
              | zero => simp [hasTy] at hdv
              | succ dv =>
                unfold hasTy at hdv
                simp only [htd, hte] at hdv
                cases hsm : IntKind.same kk k' <;> simp [hsm] at hdv
                exact same_eq hsm
            subst hk
            obtain ⟨i, hi, _⟩ := he.info e _ hte
            rw [run_equalIn_array (P := P) (w := w) D _ _ hu hi]
            obtain ⟨D, rfl⟩ : ∃ D', D = D' + 1 := ⟨D - 1, by omega⟩
            have := eqItems_ints (P := P) he hte D w l _ [] [] (hl.trans hl'.symm) rfl
            simp only [List.nil_append, List.length_nil] at this
            rw [List.range_eq_range', ← hl, this, ← h]
      | int kk =>
        cases v <;> simp [htd] at h
        cases v' <;> simp at h
        rename_i k x' k' y'
        cases hc : castT k k' y' with
        | none => simp [hc] at h
        | some y2 =>
          simp [hc] at h
          obtain ⟨rfl, rfl⟩ := castT_some hc
          rw [repV_int] at hx hy
          subst hx; subst hy
          simp only [UndOk] at hu
          rw [run_equalIn_int w D t _ _ _ _ hu, ← h]; rfl
      | bool =>
        cases v <;> simp [htd] at h
        cases v' <;> simp at h
        rw [repV_bool] at hx hy
        subst hx; subst hy
        simp only [UndOk] at hu
        rw [run_equalIn_bool' w D t _ _ hu, ← h]
      | str =>
        cases v <;> simp [htd] at h
        cases v' <;> simp at h
        rw [repV_str] at hx hy
        subst hx; subst hy
        simp only [UndOk] at hu
        rw [run_equalIn_string w D t _ _ hu, ← h, beq_str]
      | iface =>
        obtain ⟨ms, hu⟩ := hu
        cases v <;> simp [htd] at h
        · rename_i t1 v1
          obtain ⟨x1, rfl, hx1⟩ := repV_iface.1 hx
          cases v' <;> simp at h
          · rename_i t2 v2
            obtain ⟨y1, rfl, hy1⟩ := repV_iface.1 hy
            cases htt : Nat.beq t1 t2 with
            | false =>
              simp [htt] at h
              have hne : t1 ≠ t2 := by rintro rfl; simp at htt
              subst h
              simp [Op.equalIn, run_underlying' hu, hne]
            | true =>
              have htt' := beq_eq htt
              subst htt'
              simp [htt] at h
              cases htd1 : env.td t1 with
              | none => simp [htd1] at h
              | some d1 =>
                cases d1 <;> simp [htd1] at h
                case ptr e =>
                  cases v1 <;> first | (simp at h; done) | skip
                  cases v2 <;> simp only [] at h <;> try (simp at h; done)
                  have hcmp := he.cmpP t1 _ htd1 (by unfold eqPtr at h; cases hd : env.td e with
                    | none => simp [hd] at h
                    | some d => exact ⟨d, rfl⟩)
                  obtain ⟨i, hi, _⟩ := he.info t1 _ htd1
                  simp [hi] at hcmp
                  obtain ⟨D, rfl⟩ : ∃ D', D = D' + 1 := ⟨D - 1, by omega⟩
                  have := eqPtr_run he w hG h htd1 D hx1 hy1
                  rw [Op.equalIn]
                  simp [run_underlying' hu, typeInfo, hi, hcmp, this]
                cases v1 <;> first | (simp at h; done) | skip
                cases v2 <;> simp at h
                rename_i kk k x' k' y'
                cases hc : castT k k' y' with
                | none => simp [hc] at h
                | some y2 =>
                  simp [hc] at h
                  obtain ⟨rfl, rfl⟩ := castT_some hc
                  rw [repV_int] at hx1 hy1
                  subst hx1; subst hy1
                  have hcmp := he.cmp t1 kk htd1
                  obtain ⟨i, hi, _⟩ := he.info t1 _ htd1
                  simp [hi] at hcmp
                  have hu1 := he.und t1 _ htd1
                  simp only [UndOk] at hu1
                  obtain ⟨D, rfl⟩ : ∃ D', D = D' + 1 := by
                    exact ⟨D - 1, by omega⟩
                  have := run_equalIn_int (P := P) w D t1 k' kk (toI k' x') (toI k' y2) hu1
                  have e2 : (Op.equalIn (D + 1 + 1) t (.iface t1 (.int k' (toI k' x'))) (.iface t1 (.int k' (toI k' y2)))).run P w = (Op.equalIn (D + 1) t1 (.int k' (toI k' x')) (.int k' (toI k' y2))).run P w := by
                    rw [Op.equalIn]
                    simp [run_underlying' hu, typeInfo, hi, hcmp]
                  rw [e2, this, ← h]; rfl
          · rw [repV_nilIface] at hy
            subst hy; subst h
            simp [Op.equalIn, run_underlying' hu]
        · rw [repV_nilIface] at hx
          subst hx
          cases v' <;> simp at h
          obtain ⟨y1, rfl, _⟩ := repV_iface.1 hy
          subst h
          simp [Op.equalIn, run_underlying' hu]
      | ptr e =>
        simp only [UndOk] at hu
        cases v <;> simp [htd] at h
        · cases v' <;> simp at h
          rw [repV_nilptr] at hy
          have := (ptr_inv hx).2
          subst this; subst hy; subst h
          simp [Op.equalIn, run_underlying' hu]
        · rw [repV_nilptr] at hx
          subst hx
          cases v' <;> simp at h
          · have := (ptr_inv hy).2
            subst this; subst h
            simp [Op.equalIn, run_underlying' hu]
          · rw [repV_nilptr] at hy
            subst hy; subst h
            simp [Op.equalIn, run_underlying' hu]
          · rw [repV_gp] at hy
            subst hy; subst h
            simp [Op.equalIn, run_underlying' hu]
        · cases v' <;> simp only [] at h <;> try (simp at h; done)
          · rw [repV_gp] at hx; rw [repV_nilptr] at hy
            simp at h
            subst hx; subst hy; subst h
            simp [Op.equalIn, run_underlying' hu]
          · exact eqPtr_run he w hG h htd D hx hy
      | map kt vt =>
        simp only [UndOk] at hu
        cases v <;> simp [htd] at h <;> cases v' <;> simp at h
        · obtain ⟨_, rfl⟩ := repV_mp.1 hx
          rw [repV_nilmap] at hy
          subst hy; subst h
          simp [Op.equalIn, run_underlying' hu]
        · obtain ⟨_, rfl⟩ := repV_mp.1 hy
          rw [repV_nilmap] at hx
          subst hx; subst h
          simp [Op.equalIn, run_underlying' hu]
        · rw [repV_nilmap] at hx hy
          subst hx; subst hy; subst h
          simp [Op.equalIn, run_underlying' hu]
      | slice e =>
        simp only [UndOk] at hu
        cases v <;> simp [htd] at h <;> cases v' <;> simp at h
        rw [repV_nilsl] at hx hy
        subst hx; subst hy; subst h
        simp [Op.equalIn, run_underlying' hu]
      | func =>
        obtain ⟨_, _, _, hu⟩ := hu
        cases v <;> simp [htd] at h <;> cases v' <;> simp at h
        · obtain ⟨_, _, rfl, _⟩ := repV_fn.1 hx
          rw [repV_nilfn] at hy
          subst hy; subst h
          simp [Op.equalIn, run_underlying' hu]
        · obtain ⟨_, _, rfl, _⟩ := repV_fn.1 hy
          rw [repV_nilfn] at hx
          subst hx; subst h
          simp [Op.equalIn, run_underlying' hu]
        · rw [repV_nilfn] at hx hy
          subst hx; subst hy; subst h
          simp [Op.equalIn, run_underlying' hu]
end
end Go.Abs
