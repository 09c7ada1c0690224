/- Operations: indices, assertions, lengths, slices. Operations: comparisons, sums of strings, conversions, lengths. -/
import Derived.Test.YtadiphoihflmiaaGreatDoorZah
set_option linter.all false
namespace Go.Abs
section
variable {P : Program} {env : Env} {C : Tab} {ρ : PMap} {Z : Zone} {u : Nat → Bool} {base : Nat} {tmps : List (Option AVal)} {H : Heap} {a : Act} {w : World} {K : Eff → Prop} {KP : AVal → List (Nat × Option Blk) → Prop}

theorem arr_ty (he : EnvOk P env) {t n e d k n'} {l : List (TT k)} (ht : env.td t = some (.arr n e)) (hty : hasTy env (d + 1) t (.arr k n' l) = true) : env.td e = some (.int k) ∧ n = n' := by
  unfold hasTy at hty
  simp only [ht] at hty
  obtain ⟨d', hd⟩ := he.clo t _ ht
  cases d' with
  | int kk =>
    simp only [hd] at hty
    cases hsm : IntKind.same kk k <;> simp [hsm] at hty
    rw [same_eq hsm] at hd; exact ⟨hd, hty⟩
  | _ => simp only [hd] at hty; cases n <;> simp [List.replicate_succ, hasL] at hty

theorem bytes_get (s : List UInt8) (j : Nat) : (⟨s.toArray⟩ : ByteArray)[j]? = s[j]? := by
  by_cases h : j < s.length
  · have h' : j < (⟨s.toArray⟩ : ByteArray).size := by simpa [ByteArray.size] using h
    rw [getElem?_pos (⟨s.toArray⟩ : ByteArray) j h', List.getElem?_eq_getElem h]
    rfl
  · have h' : ¬ j < (⟨s.toArray⟩ : ByteArray).size := by simpa [ByteArray.size] using h
    rw [getElem?_neg (⟨s.toArray⟩ : ByteArray) j h', List.getElem?_eq_none (by omega)]

theorem op_index (he : EnvOk P env) (hp : Pre env ρ Z u tmps H a w) {o : Oper} {t : Nat} {x i : Operand} (ho : o.op = .index t x i)
    (h : ob (opVal tmps x) fun x => ob (opVal tmps i) fun i => match env.td t, x with
    | some (.arr n _), .arr k n' l => chk (hasTy env 8 t (.arr k n' l)) (ix i n fun j => K1 K (.int k (l.getD j (zeroT k))))
    | some .str, .str s => ix i s.length fun j => K1 K (.int .u8 (s.getD j 0))
    | _, _ => False) : OpPost P env ρ Z u base H w K KP ((execOp a.eval o).run P w) := by
  obtain ⟨v, hv, q1⟩ := ob_inv h
  obtain ⟨vi, hvi, q2⟩ := ob_inv q1
  obtain ⟨h1, h2⟩ := hp.opVal hv
  obtain ⟨h3, -⟩ := hp.opVal hvi
  cases ht : env.td t with
  | none => rw [ht] at q2; exact q2.elim
  | some td =>
    rw [ht] at q2
    cases td <;> try exact q2.elim
    · cases v <;> try exact q2.elim
      rename_i s
      obtain ⟨k, j, rfl, j0, j1, q3⟩ := ix_inv q2
      rw [repV_str] at h1
      rw [repV_int] at h3
      have hu := he.und t _ ht
      simp only [UndOk] at hu
      have hlt : (toI k j).toNat < s.length := by omega
      refine OpPost.val hp (x := .int .u8 (s[(toI k j).toNat].toNat : Int)) ?_ q3 ?_ (by simp [AVal.keys])
      · simp [execOp, ho, h1, h3, Instr.index, asIntOf, run_underlying' hu, j0, bytes_get, hlt]
      · rw [repV_int]
        show _ = Value.int .u8 ((s.getD (toI k j).toNat 0).toNat : Int)
        simp [hlt]
    · rename_i n e
      cases v <;> try exact q2.elim
      rename_i k n' l
      obtain ⟨hty, q3⟩ := chk_inv q2
      obtain ⟨k', j, rfl, j0, j1, q4⟩ := ix_inv q3
      obtain ⟨hte, rfl⟩ := arr_ty he ht hty
      obtain ⟨hl, hx⟩ := repV_arr.1 h1
      rw [repV_int] at h3
      have hu := he.und t _ ht
      simp only [UndOk] at hu
      have hlt : (toI k' j).toNat < l.length := by omega
      have hs1 := sz_int he.size hte
      obtain ⟨z, hz, hrz⟩ := run_part (P := P) (env := env) (ρ := ρ) (Z := Z) (t := e) (v := .int k l[(toI k' j).toNat]) (c2 := [.int k (toI k l[(toI k' j).toNat])]) (o := (toI k' j).toNat * env.sz e) he
        ⟨1, by simp [hasTy, hte, same_refl]⟩ (by simp [RepC]) (map_split (fun x => Value.int k (toI k x)) l _ hlt) (by simp [hs1]; omega) w
      refine OpPost.val hp (x := z) ?_ q4 (by simpa [hlt] using hrz) (by simp [AVal.keys])
      simp only [execOp, ho, hx, h3, Instr.index, asIntOf, pure_bind, Sem.run_bind, run_underlying' hu, Result.andThen_ok, if_pos (And.intro j0 j1), run_sizeOf he hte, Sem.run_pure]
      simp only [hz, Result.andThen_ok]

theorem repV_tup2 {p : AVal} {q : Value} {b : Bool} (hpq : RepV env ρ Z p q) : RepV env ρ Z (.tup [p, .bool b]) (.tuple #[q, .bool b]) := by
  simp only [AVal.tup, RepV, AVal.isAgg, RepC, RepA]
  refine ⟨_, rfl, _, _, rfl, ?_, _, _, rfl, ?_, rfl⟩
  · exact hpq
  · rfl

/-- An interface type asked for. -/
theorem op_typeAssertI (he : EnvOk P env) (hp : Pre env ρ Z u tmps H a w) {o : Oper} {x : Operand} {xt t : Nat} (ho : o.op = .typeAssert x xt t true) (ht : env.td t = some .iface)
    (h : ob (opVal tmps x) fun x => match x with
      | .nilIface => K1 K (.tup [.nilIface, .bool false])
      | .iface u v => ob0 (env.impl u t) fun r => br r (K1 K (.tup [.iface u v, .bool true])) (K1 K (.tup [.nilIface, .bool false]))
      | _ => False) : OpPost P env ρ Z u base H w K KP ((execOp a.eval o).run P w) := by
  obtain ⟨v, hv, q1⟩ := ob_inv h
  obtain ⟨h1, h2⟩ := hp.opVal hv
  obtain ⟨ms, hu⟩ := he.und t _ ht
  have hz : zeroV env 8 t = some .nilIface := by simp [zeroV, ht]
  obtain ⟨i, y, i1, i2, i3⟩ := info_zero he ht hz
  have hy := repV_nilIface.1 (i3 ρ Z)
  subst hy
  cases v <;> try exact q1.elim
  · rename_i t' v'
    obtain ⟨x', hx, hr⟩ := repV_iface.1 h1
    obtain ⟨r, hi, q2⟩ := ob0_inv q1
    have e := he.impl t' t r hi xt x' w
    rw [← hx] at e
    rcases br_inv q2 with ⟨rfl, hK⟩ | ⟨rfl, hK⟩
    · simp only [if_true] at e
      refine OpPost.val hp (by simp only [execOp, ho, Sem.run_bind, e, Result.andThen_ok, Sem.run_pure]) hK (repV_tup2 h1) (fun k hk => h2 k (by simpa [AVal.tup, AVal.keys] using hk))
    · simp only [Bool.false_eq_true, if_false] at e
      exact OpPost.val hp (by simp only [execOp, ho, Sem.run_bind, e, Result.andThen_ok, Sem.run_pure]) hK (repV_tup2 (repV_nilIface.2 rfl)) (by simp [AVal.tup, AVal.keys])
  · rw [repV_nilIface] at h1
    have e : (Instr.typeAssert (a.eval x) xt t true).run P w = .ok (.tuple #[.nilIface, .bool false]) w := by
      rw [h1]
      simp [Instr.typeAssert, run_underlying' hu, zeroValue, typeInfo, i1, i2]
    exact OpPost.val hp (by simp only [execOp, ho, Sem.run_bind, e, Result.andThen_ok, Sem.run_pure]) q1 (repV_tup2 (repV_nilIface.2 rfl)) (by simp [AVal.tup, AVal.keys])

theorem op_typeAssert (he : EnvOk P env) (hp : Pre env ρ Z u tmps H a w) {o : Oper} {x : Operand} {xt t : Nat} {ok : Bool} (ho : o.op = .typeAssert x xt t ok)
    (h : match ok, env.td t with
    | true, some .iface => ob (opVal tmps x) fun x => match x with
      | .nilIface => K1 K (.tup [.nilIface, .bool false])
      | .iface u v => ob0 (env.impl u t) fun r => br r (K1 K (.tup [.iface u v, .bool true])) (K1 K (.tup [.nilIface, .bool false]))
      | _ => False
    | true, some _ => ob (opVal tmps x) fun x => ob (zeroV env 8 t) fun z => match x with
      | .nilIface => K1 K (.tup [z, .bool false])
      | .iface u v => match Nat.beq u t with
        | true => K1 K (.tup [v, .bool true])
        | false => K1 K (.tup [z, .bool false])
      | _ => False
    | _, _ => False) : OpPost P env ρ Z u base H w K KP ((execOp a.eval o).run P w) := by
  cases ok with
  | false => exact h.elim
  | true =>
    cases ht : env.td t with
    | none => rw [ht] at h; exact h.elim
    | some td =>
      rw [ht] at h
      by_cases hni : td = .iface
      · subst hni
        exact op_typeAssertI he hp ho ht h
      have h' : ob (opVal tmps x) fun x => ob (zeroV env 8 t) fun z => match x with
        | .nilIface => K1 K (.tup [z, .bool false])
        | .iface u v => match Nat.beq u t with
          | true => K1 K (.tup [v, .bool true])
          | false => K1 K (.tup [z, .bool false])
        | _ => False := by cases td <;> first | exact h | exact absurd rfl hni
      obtain ⟨v, hv, q1⟩ := ob_inv h'
      obtain ⟨z, hz, q2⟩ := ob_inv q1
      obtain ⟨h1, h2⟩ := hp.opVal hv
      obtain ⟨i, y, i1, i2, i3⟩ := info_zero he ht hz
      have hu := he.und t td ht
      have hkz := zeroV_keys env 8 t z hz
      have tupR : ∀ {p : AVal} {q : Value} {b : Bool}, RepV env ρ Z p q → RepV env ρ Z (.tup [p, .bool b]) (.tuple #[q, .bool b]) := fun {p q b} hpq => by
        simp only [AVal.tup, RepV, AVal.isAgg, RepC, RepA]
        refine ⟨_, rfl, _, _, rfl, ?_, _, _, rfl, ?_, rfl⟩
        · exact hpq
        · rfl
      have run : ∀ X y', (match X with | .nilIface => y' = .tuple #[y, .bool false] | .iface u' v' => y' = (if u' = t then .tuple #[v', .bool true] else .tuple #[y, .bool false]) | _ => False) → (Instr.typeAssert X xt t true).run P w = .ok y' w := by
        intro X y' hX
        have und : ∃ d, (underlying t).run P w = .ok d w ∧ ∀ ms, d ≠ .interface ms := by
          cases td with
          | iface => exact absurd rfl hni
          | struct fs => obtain ⟨_, hu, _⟩ := hu; exact ⟨_, run_underlying' hu w, by simp⟩
          | func => obtain ⟨_, _, _, hu⟩ := hu; exact ⟨_, run_underlying' hu w, by simp⟩
          | _ => simp only [UndOk] at hu; exact ⟨_, run_underlying' hu w, by simp⟩
        obtain ⟨d, hd, hdn⟩ := und
        cases X <;> try exact hX.elim
        · rename_i u' v'
          simp only at hX
          by_cases hut : u' = t
          · cases d <;> first | exact absurd rfl (hdn _) | simp [Instr.typeAssert, hd, hut, hX]
          · cases d <;> first | exact absurd rfl (hdn _) | simp [Instr.typeAssert, hd, hut, hX, zeroValue, typeInfo, i1, i2]
        · simp only at hX
          cases d <;> first | exact absurd rfl (hdn _) | simp [Instr.typeAssert, hd, hX, zeroValue, typeInfo, i1, i2]
      cases v <;> try exact q2.elim
      · rename_i u' v'
        obtain ⟨x', hx, hr⟩ := repV_iface.1 h1
        have e := run (a.eval x) _ (by rw [hx])
        simp only at q2
        cases hb : Nat.beq u' t with
        | true =>
          rw [hb] at q2
          have := beq_eq hb; subst this
          simp only [if_true] at e
          exact OpPost.val hp (by simp only [execOp, ho, Sem.run_bind, e, Result.andThen_ok, Sem.run_pure]) q2 (tupR hr) (fun k hk => h2 k (by simpa [AVal.tup, AVal.keys] using hk))
        | false =>
          rw [hb] at q2
          have hne : u' ≠ t := Nat.ne_of_beq_eq_false hb
          simp only [if_neg hne] at e
          exact OpPost.val hp (by simp only [execOp, ho, Sem.run_bind, e, Result.andThen_ok, Sem.run_pure]) q2 (tupR (i3 ρ Z)) (by simp [AVal.tup, AVal.keys, hkz])
      · rw [repV_nilIface] at h1
        have e := run (a.eval x) (.tuple #[y, .bool false]) (by rw [h1])
        exact OpPost.val hp (by simp only [execOp, ho, Sem.run_bind, e, Result.andThen_ok, Sem.run_pure]) q2 (tupR (i3 ρ Z)) (by simp [AVal.tup, AVal.keys, hkz])

/-! ### bounds -/
theorem bd_inv {v : AVal} {n : Nat} {K : Nat → Prop} (h : bd v n K) : ∃ k x, v = .int k x ∧ 0 ≤ toI k x ∧ toI k x ≤ n ∧ K (toI k x).toNat := by
  unfold bd at h
  cases v <;> try exact h.elim
  obtain ⟨h1, h2⟩ := chk_inv h
  obtain ⟨h3, h4⟩ := chk_inv h2
  exact ⟨_, _, rfl, isNeg_false h1, by simpa using h3, h4⟩

theorem optVal_inv {x : Option Operand} {v : Option AVal} (h : optVal tmps x = some v) : (x = none ∧ v = none) ∨ ∃ y z, x = some y ∧ v = some z ∧ opVal tmps y = some z := by
  cases x with
  | none => simp [optVal] at h; exact .inl ⟨rfl, h.symm⟩
  | some y =>
    cases hy : opVal tmps y with
    | none => simp [optVal, hy] at h
    | some z => simp [optVal, hy] at h; exact .inr ⟨y, z, rfl, h.symm, hy⟩

theorem run_bounds (hp : Pre env ρ Z u tmps H a w) {lo hi : Option Operand} {vl vh : Option AVal} (hl : optVal tmps lo = some vl) (hh : optVal tmps hi = some vh) {len cap : Nat} (hc : len ≤ cap) {K' : Nat → Nat → Prop}
    (h : bdO vh len len fun b => bdO vl 0 b fun a => K' a b) (isSlice : Bool) :
    ∃ A B, K' A B ∧ A ≤ B ∧ B ≤ len ∧ (vl = none → A = 0) ∧ (vh = none → B = len) ∧ (Instr.sliceBounds isSlice len cap (lo.map a.eval) (hi.map a.eval) none).run P w = .ok (A, B, cap) w := by
  have low : ∀ B, (bdO vl 0 B fun a => K' a B) → ∃ A, K' A B ∧ A ≤ B ∧ (vl = none → A = 0) ∧ ((match lo.map a.eval with
      | some v => (do let l ← Instr.sliceBound v B .sliceB; pure (l, B, cap))
      | none => pure (0, B, cap) : Sem (Nat × Nat × Nat)).run P w = .ok (A, B, cap) w) := fun B hB => by
    rcases optVal_inv hl with ⟨rfl, rfl⟩ | ⟨y, z, rfl, rfl, hz⟩
    · exact ⟨0, hB, Nat.zero_le _, fun _ => rfl, rfl⟩
    · have hB' : bd z B (fun a => K' a B) := hB
      obtain ⟨k, x, rfl, h0, h1, hK⟩ := bd_inv hB'
      obtain ⟨h3, -⟩ := hp.opVal hz
      rw [repV_int] at h3
      exact ⟨_, hK, by omega, by simp, by simp [Instr.sliceBound, h3, asIntOf, h0, h1]⟩
  rcases optVal_inv hh with ⟨rfl, rfl⟩ | ⟨y, z, rfl, rfl, hz⟩
  · obtain ⟨A, hK, hAB, hA, hrun⟩ := low len h
    refine ⟨A, len, hK, hAB, Nat.le_refl _, hA, fun _ => rfl, ?_⟩
    simp only [Instr.sliceBounds, Option.map_none, pure_bind, Option.isSome_none, Bool.false_eq_true, if_false]
    exact hrun
  · have h' : bd z len (fun b => bdO vl 0 b fun a => K' a b) := h
    obtain ⟨k, x, rfl, h0, h1, hB⟩ := bd_inv h'
    obtain ⟨h3, -⟩ := hp.opVal hz
    rw [repV_int] at h3
    obtain ⟨A, hK, hAB, hA, hrun⟩ := low _ hB
    refine ⟨A, _, hK, hAB, by omega, hA, by simp, ?_⟩
    have hb : ∀ code, (Instr.sliceBound (a.eval y) cap code).run P w = .ok (toI k x).toNat w := fun code => by
      have : toI k x ≤ cap := by omega
      simp [Instr.sliceBound, h3, asIntOf, h0, this]
    simp only [Instr.sliceBounds, Option.map_some, pure_bind, Option.isSome_none, Bool.false_eq_true, if_false, Sem.run_bind, hb, Result.andThen_ok]
    exact hrun

theorem subV_eq {α : Type} (l : List α) {vl vh : Option AVal} {A B : Nat} (hA : vl = none → A = 0) (hB : vh = none → B = l.length) : subV l vl vh A B = (l.drop A).take (B - A) := by
  cases vl <;> cases vh <;> simp [subV]
  · rw [hA rfl, hB rfl]; simp
  · rw [hA rfl]; simp
  · rw [hB rfl, List.take_of_length_le (by simp)]

/-- A slice of an array. -/
theorem sl_of_arr {key t n e A B : Nat} {p : List Step} (ht : (ρ key).root.type env p = some t) (htd : env.td t = some (.arr n e)) (hv : validR env (ρ key) p) (hAB : A ≤ B) (hB : B ≤ n) :
    RepV env ρ Z (.sl key p A (B - A)) (.slice (some (if n = A then ⟨(ρ key).block, (ρ key).lo + (ρ key).root.off env p, none⟩ else (⟨(ρ key).block, (ρ key).lo + (ρ key).root.off env p, none⟩ : Addr).add (A * env.sz e))) (B - A) (n - A)) := by
  simp only [RepV, AVal.isAgg, RepC]
  refine ⟨_, _, rfl, by omega, fun hne => ?_, fun i hi => (valid_append ht htd).2 ⟨hv, by omega⟩⟩
  rw [if_neg (by omega), add_addr, root_append ht htd, Nat.add_assoc]

theorem op_slice (he : EnvOk P env) (hp : Pre env ρ Z u tmps H a w) {o : Oper} {t : Nat} {x : Operand} {lo hi mx : Option Operand} (ho : o.op = .slice t x lo hi mx)
    (h : match mx with
    | none => ob (opVal tmps x) fun x => ob (optVal tmps lo) fun lo => ob (optVal tmps hi) fun hi => sliceA env H t x lo hi (K1 K)
    | some _ => False) : OpPost P env ρ Z u base H w K KP ((execOp a.eval o).run P w) := by
  cases mx with
  | some _ => exact h.elim
  | none =>
    obtain ⟨v, hv, q1⟩ := ob_inv h
    obtain ⟨vl, hvl, q2⟩ := ob_inv q1
    obtain ⟨vh, hvh, q3⟩ := ob_inv q2
    obtain ⟨h1, h2⟩ := hp.opVal hv
    unfold sliceA at q3
    cases ht : env.td t with
    | none => rw [ht] at q3; exact q3.elim
    | some td =>
      have hu := he.und t td ht
      rw [ht] at q3
      cases td <;> try exact q3.elim
      · -- a string
        simp only [UndOk] at hu
        cases v <;> try exact q3.elim
        rename_i s
        obtain ⟨A, B, hK, hAB, hB, eA, eB, hrun⟩ := run_bounds (P := P) hp hvl hvh (Nat.le_refl s.length) q3 false
        rw [repV_str] at h1
        have hsz : (⟨s.toArray⟩ : ByteArray).size = s.length := by simp [ByteArray.size]
        refine OpPost.val hp (x := .string ((⟨s.toArray⟩ : ByteArray).extract A B)) ?_ hK ?_ (by simp [AVal.keys])
        · simp [execOp, ho, h1, Instr.sliceAt, Instr.slice, run_underlying' hu, hsz, hrun]
        · rw [repV_str, subV_eq s eA eB]
          congr 1
          apply ByteArray.ext
          rw [ByteArray.data_extract]
          apply Array.ext'
          simp [List.extract_eq_take_drop]
      · -- a pointer to an array
        rename_i v'
        simp only [UndOk] at hu
        cases v <;> try exact q3.elim
        rename_i key p
        obtain ⟨b, hb, q4⟩ := ob_inv q3
        obtain ⟨t', ht', q5⟩ := ob0_inv q4
        obtain ⟨e, q6⟩ := chk_inv q5
        obtain rfl := beq_eq e
        cases htd : env.td v' with
        | none => rw [htd] at q6; exact q6.elim
        | some td =>
          rw [htd] at q6
          cases td <;> try exact q6.elim
          rename_i n e
          obtain ⟨A, B, hK, hAB, hB, eA, eB, hrun⟩ := run_bounds (P := P) hp hvl hvh (Nat.le_refl n) q6 false
          obtain ⟨hvr, hx⟩ := ptr_inv h1
          have hroot := (hp.heap.blk key b hb).root
          have hu' := he.und _ _ htd
          simp only [UndOk] at hu'
          obtain ⟨d, hd⟩ := he.clo _ _ htd
          refine OpPost.val hp ?_ hK (sl_of_arr (by rw [hroot]; exact ht') htd hvr hAB hB) (by simpa [AVal.keys] using h2)
          simp [execOp, ho, hx, Instr.sliceAt, Instr.slice, run_underlying' hu, run_underlying' hu', asAddr, hrun, run_sizeOf he hd]
      · -- a slice
        rename_i e
        simp only [UndOk] at hu
        obtain ⟨d, hd⟩ := he.clo t _ ht
        have run : ∀ ao len cap A B, a.eval x = .slice ao len cap → (Instr.sliceBounds true len cap (lo.map a.eval) (hi.map a.eval) none).run P w = .ok (A, B, cap) w →
            (execOp a.eval o).run P w = .ok (.value (.slice (if cap = A then ao else ao.map (·.add (A * env.sz e))) (B - A) (cap - A))) w := fun ao len cap A B e1 e2 => by
          simp [execOp, ho, e1, Instr.sliceAt, Instr.slice, run_underlying' hu, e2, run_sizeOf he hd]
        cases v <;> try exact q3.elim
        · -- sl
          rename_i key p off n
          obtain ⟨e', he', q4⟩ := ob0_inv q3
          obtain ⟨hee, q5⟩ := chk_inv q4
          obtain rfl := beq_eq hee
          obtain ⟨b, hb, hpl⟩ := elemAt_inv he'
          have hroot := (hp.heap.blk key b hb).root
          rw [← hroot] at hpl
          obtain ⟨ao, cap, hx, g1, g2, g3⟩ := sl_inv h1
          obtain ⟨A, B, hK, hAB, hB, eA, eB, hrun⟩ := run_bounds (P := P) hp hvl hvh g1 q5 true
          refine OpPost.val hp (run _ _ _ _ _ hx hrun) hK ?_ (by simpa [AVal.keys] using h2)
          simp only [RepV, AVal.isAgg, RepC]
          refine ⟨_, _, rfl, by omega, fun hne => ?_, fun i hi => by rw [Nat.add_assoc]; exact g3 _ (by omega)⟩
          rw [if_neg (by omega), g2 (by omega), Option.map_some, add_addr, elem_off hpl, Nat.add_assoc]
        · -- sw
          rename_i key
          simp only at q3
          cases hb : H key with
          | none => rw [hb] at q3; exact q3.elim
          | some b =>
            obtain ⟨root, c⟩ := b
            cases root with
            | map => rw [hb] at q3; exact q3.elim
            | var t0 => rw [hb] at q3; exact q3.elim
            | row e' =>
              rw [hb] at q3
              obtain ⟨hee, q4⟩ := chk_inv q3
              obtain rfl := beq_eq hee
              obtain ⟨q, hq, q5⟩ := ob_inv q4
              obtain ⟨r1, r2, r3, r4, r5, r6, r7⟩ := row_seq he.size hp hb hq
              obtain ⟨ao, cap, e2, g1, hx, g2, g3⟩ := sw_inv h1
              rw [← r3] at hx g2
              obtain ⟨A, B, hK, hAB, hB, eA, eB, hrun⟩ := run_bounds (P := P) hp hvl hvh g2 q5 true
              refine OpPost.val hp (run _ _ _ _ _ hx hrun) hK ?_ (by simpa [AVal.keys] using h2)
              simp only [RepV, AVal.isAgg, RepC]
              refine ⟨_, _, rfl, by omega, fun hne => ?_, fun i hi => ?_⟩
              · rw [if_neg (by omega), (g3 (by omega)).1, Option.map_some, add_addr]
                simp [r1, Root.off, offP]
              · simp [validR, r1, validP]; omega
        · -- nil
          obtain ⟨A, B, hK, hAB, hB, eA, eB, hrun⟩ := run_bounds (P := P) (K' := fun _ _ => K1 K .nilsl) hp hvl hvh (Nat.le_refl 0) q3 true
          rw [repV_nilsl] at h1
          have hA : A = 0 := by omega
          subst hA
          refine OpPost.val hp (run _ _ _ _ _ h1 hrun) hK ?_ (by simp [AVal.keys])
          rw [repV_nilsl]; simp; omega
        · -- vw
          rename_i k l
          obtain ⟨hi, q4⟩ := chk_inv q3
          simp only [RepV, AVal.isAgg, RepC] at h1
          obtain ⟨ao, cap, hx, g1, g2⟩ := h1
          simp at hx
          obtain ⟨A, B, hK, hAB, hB, eA, eB, hrun⟩ := run_bounds (P := P) hp hvl hvh g1 q4 true
          refine OpPost.val hp (run _ _ _ _ _ hx hrun) hK ?_ (by simp [AVal.keys])
          rw [subV_eq l eA eB]
          have hlen : ((l.drop A).take (B - A)).length = B - A := by simp; omega
          have hs1 := sz_int he.size (isInt_td hi)
          simp only [RepV, AVal.isAgg, RepC, hlen]
          refine ⟨_, _, rfl, by omega, fun hne => ?_⟩
          have hBA : B - A ≠ 0 := by intro h0; apply hne; apply List.eq_nil_of_length_eq_zero; omega
          obtain ⟨b, o', e1, g3⟩ := g2 (by rintro rfl; simp at hB; omega)
          refine ⟨b, o' + A, ?_, fun i x hxi => ?_⟩
          · rw [if_neg (by omega), e1, Option.map_some, add_addr, hs1, Nat.mul_one]
          · rw [Nat.add_assoc]
            refine g3 _ x ?_
            rw [List.getElem?_take] at hxi
            split at hxi
            · rwa [List.getElem?_drop] at hxi
            · cases hxi
        · -- vr
          rename_i tg e' enc dd l
          obtain ⟨hee, q4⟩ := chk_inv q3
          obtain rfl := beq_eq hee
          simp only [RepV, AVal.isAgg, RepC] at h1
          obtain ⟨henc, ao, cap, hx, g1, g2⟩ := h1
          simp at hx
          obtain ⟨A, B, hK, hAB, hB, eA, eB, hrun⟩ := run_bounds (P := P) hp hvl hvh g1 q4 true
          refine OpPost.val hp (run _ _ _ _ _ hx hrun) hK ?_ (by simp [AVal.keys])
          rw [subV_eq l eA eB]
          have hlen : ((l.drop A).take (B - A)).length = B - A := by simp; omega
          simp only [RepV, AVal.isAgg, RepC, hlen]
          refine ⟨henc, _, _, rfl, by omega, fun hne => ?_⟩
          have hBA : B - A ≠ 0 := by intro h0; apply hne; apply List.eq_nil_of_length_eq_zero; omega
          obtain ⟨b, o', e1, g3⟩ := g2 (by rintro rfl; simp at hB; omega)
          refine ⟨b, o' + A * env.sz e, ?_, fun i x hxi => ?_⟩
          · rw [if_neg (by omega), e1, Option.map_some, add_addr]
          · have hl : l[A + i]? = some x := by
              rw [List.getElem?_take] at hxi
              split at hxi
              · rwa [List.getElem?_drop] at hxi
              · cases hxi
            obtain ⟨ecs, f1, f2, f3, f4⟩ := g3 _ x hl
            refine ⟨ecs, f1, f2, f3, fun j c hc => ?_⟩
            rw [← f4 j c hc]; congr 1; rw [Nat.add_mul]; omega
      · -- an array
        rename_i n e
        simp only [UndOk] at hu
        obtain ⟨d, hd⟩ := he.clo t _ ht
        cases v <;> try exact q3.elim
        rename_i key p
        obtain ⟨b, hb, q4⟩ := ob_inv q3
        obtain ⟨t', ht', q5⟩ := ob0_inv q4
        obtain ⟨e', q6⟩ := chk_inv q5
        obtain rfl := beq_eq e'
        obtain ⟨A, B, hK, hAB, hB, eA, eB, hrun⟩ := run_bounds (P := P) hp hvl hvh (Nat.le_refl n) q6 false
        obtain ⟨hvr, hx⟩ := ptr_inv h1
        have hroot := (hp.heap.blk key b hb).root
        refine OpPost.val hp ?_ hK (sl_of_arr (by rw [hroot]; exact ht') ht hvr hAB hB) (by simpa [AVal.keys] using h2)
        simp [execOp, ho, hx, Instr.sliceAt, run_underlying' hu, Instr.sureAddr, hrun, run_sizeOf he hd]
end
end Go.Abs

namespace Go.Abs
section
variable {P : Program} {env : Env} {C : Tab} {ρ : PMap} {Z : Zone} {u : Nat → Bool} {base : Nat} {tmps : List (Option AVal)} {H : Heap} {a : Act} {w : World} {K : Eff → Prop} {KP : AVal → List (Nat × Option Blk) → Prop}

theorem notAgg {v : AVal} {x : Value} (hf : v.flat = true) (hag : v.isAgg = false) (h : RepV env ρ Z v x) : ∀ cs, x ≠ .agg cs := by
  rintro cs rfl
  unfold RepV at h
  rw [hag] at h
  cases v <;> simp [AVal.isAgg] at hag <;> simp [RepC] at h
  subst h; cases hf

theorem notNil {v : AVal} {x : Value} (hf : v.flat = true) (h : RepV env ρ Z v x) (hx : x = .nilIface) : v = .nilIface := by
  subst hx
  unfold RepV at h
  cases v <;> simp [AVal.isAgg, RepC] at h
  · rfl
  · subst h; cases hf

theorem isLit_eq (X : Operand) : isLit X = (X matches .const _) := by cases X <;> rfl

theorem agg_val {v : AVal} {x : Value} (hag : v.isAgg = true) (h : RepV env ρ Z v x) : ∃ cs, x = .agg cs := by
  unfold RepV at h
  rw [hag] at h
  obtain ⟨cs, e, _⟩ := h
  exact ⟨cs, e⟩

/-- A comparison by the type's own equality. -/
theorem run_eqA (he : EnvOk P env) {t : Nat} {X Y : Operand} {v v' : AVal} {r : Bool} {x y : Value} (op : BinOp) (hx : RepV env ρ Z v x) (hy : RepV env ρ Z v' y) (h : eqA env t X Y v v' = some r) (w : World) (hG : GOk env Z w) :
    (eqGuard op t X Y x y).run P w = .ok () w ∧ (Op.equal t x y).run P w = .ok r w := by
  by_cases hn : v = .nilIface ∧ v' = .nilIface
  · obtain ⟨rfl, rfl⟩ := hn
    rw [repV_nilIface] at hx hy
    subst hx; subst hy
    unfold eqA at h
    simp only at h
    cases hl : (isLit X || isLit Y) with
    | false => simp [hl] at h
    | true =>
      cases ht : env.td t with
      | none => simp [hl, ht] at h
      | some td =>
        cases td <;> simp [hl, ht] at h
        subst h
        obtain ⟨ms, hu⟩ := he.und t _ ht
        rw [isLit_eq, isLit_eq] at hl
        refine ⟨?_, ?_⟩
        · unfold eqGuard
          cases op <;> first | rfl | (cases X <;> cases Y <;> first | (simp at hl; done) | simp)
        · show (Op.equalIn (9999 + 1) t .nilIface .nilIface).run P w = .ok true w
          rw [Op.equalIn]
          simp [run_underlying' hu]
  · have h' : (match hasTy env 8 t v, hasTy env 8 t v' with
      | true, true => match AVal.agg v with
        | true => match env.eq t with
          | true => eqV env 8 t v v'
          | false => none
        | false => eqV env 8 t v v'
      | _, _ => none) = some r := by
      unfold eqA at h
      cases v <;> first | exact h | (cases v' <;> first | exact h | exact absurd ⟨rfl, rfl⟩ hn)
    cases h1 : hasTy env 8 t v with
    | false => simp [h1] at h'
    | true =>
      cases h2 : hasTy env 8 t v' with
      | false => simp [h1, h2] at h'
      | true =>
        simp only [h1, h2] at h'
        have heq : eqV env 8 t v v' = some r := by
          cases ha : AVal.agg v <;> cases hb : env.eq t <;> simp [ha, hb] at h' <;> exact h'
        refine ⟨?_, eqV_run he w hG 8 t v v' r heq ⟨8, h1⟩ ⟨8, h2⟩ _ (by simp [Op.maxDepth]) x y hx hy⟩
        obtain ⟨d, hd, hag⟩ := HT.td ⟨8, h1⟩
        obtain ⟨d', hd', hag'⟩ := HT.td ⟨8, h2⟩
        rw [hd] at hd'; cases hd'
        cases hda : d.agg with
        | true =>
          obtain ⟨cs, rfl⟩ := agg_val (hag.trans hda) hx
          obtain ⟨cs', rfl⟩ := agg_val (hag'.trans hda) hy
          have heqt : env.eq t = true := by
            have ha : AVal.agg v = true := by rw [agg_isAgg, hag, hda]
            cases hb : env.eq t <;> simp [ha, hb] at h'
            rfl
          have := he.eqs t heqt
          unfold eqGuard
          cases op <;> simp [this]
        | false =>
          have na := notAgg (hasTy_flat _ _ _ h1) (hag.trans hda) hx
          have na' := notAgg (hasTy_flat _ _ _ h2) (hag'.trans hda) hy
          have nn : ¬ (x = .nilIface ∧ y = .nilIface) := fun ⟨e1, e2⟩ => hn ⟨notNil (hasTy_flat _ _ _ h1) hx e1, notNil (hasTy_flat _ _ _ h2) hy e2⟩
          unfold eqGuard
          cases x <;> first | exact absurd rfl (na _) | (cases y <;> first | exact absurd rfl (na' _) | exact absurd ⟨rfl, rfl⟩ nn | (cases op <;> simp))

theorem len_rep (he : EnvOk P env) (hp : Pre env ρ Z u tmps H a w) {t n : Nat} {v : AVal} {x : Value} {ts : Array TypeId} {ty : TypeId} (hts : ts[0]? = some t) (h : lenV env H t v = some n) (hx : RepV env ρ Z v x) :
    (Builtin.len_ ts ty #[x]).run P w = .ok (.int .i64 (n : Int)) w := by
  unfold lenV at h
  cases ht : env.td t with
  | none => simp [ht] at h
  | some td =>
    have hu := he.und t td ht
    rw [ht] at h
    cases td <;> try (simp at h; done)
    · -- a string
      simp only [UndOk] at hu
      cases v <;> simp at h
      subst h
      rename_i s
      rw [repV_str] at hx; subst hx
      have hsz : (⟨s.toArray⟩ : ByteArray).size = s.length := by simp [ByteArray.size]
      simp [Builtin.len_, hts, run_underlying' hu, goInt, hsz]
    · -- a pointer to an array
      rename_i e
      simp only [UndOk] at hu
      cases hte : env.td e with
      | none => simp [hte] at h
      | some te =>
        cases te <;> simp [hte] at h
        subst h
        have hu' := he.und _ _ hte
        simp only [UndOk] at hu'
        simp [Builtin.len_, hts, run_underlying' hu, run_underlying' hu', goInt]
    · -- a slice
      simp only [UndOk] at hu
      have fin : ∀ ao cap, x = .slice ao n cap → (Builtin.len_ ts ty #[x]).run P w = .ok (.int .i64 (n : Int)) w := fun ao cap e => by
        subst e
        simp [Builtin.len_, hts, run_underlying' hu, goInt]
      cases v <;> try (simp at h; done)
      · simp at h; subst h
        obtain ⟨ao, cap, e, _⟩ := sl_inv hx
        exact fin _ _ e
      · rename_i key
        simp only at h
        cases hb : H key with
        | none => simp [hb] at h
        | some b =>
          obtain ⟨root, c⟩ := b
          cases root with
          | map => simp [hb] at h
          | var t0 => simp [hb] at h
          | row e' =>
            cases hc : c.seq with
            | none => simp [hb, hc] at h
            | some q =>
              simp [hb, hc] at h; subst h
              obtain ⟨r1, r2, r3, r4⟩ := row_seq he.size hp hb hc
              obtain ⟨ao, cap, e2, g1, hx2, _⟩ := sw_inv hx
              rw [← r3] at hx2
              exact fin _ _ hx2
      · simp at h; subst h
        rw [repV_nilsl] at hx
        exact fin _ _ hx
      · simp at h; subst h
        simp only [RepV, AVal.isAgg, RepC] at hx
        obtain ⟨ao, cap, e, _⟩ := hx
        simp at e
        exact fin _ _ e
      · simp at h; subst h
        simp only [RepV, AVal.isAgg, RepC] at hx
        obtain ⟨_, ao, cap, e, _⟩ := hx
        simp at e
        exact fin _ _ e
    · -- an array
      simp only [UndOk] at hu
      simp at h; subst h
      simp [Builtin.len_, hts, run_underlying' hu, goInt]

theorem hasTy_int {d t k : Nat} {kk : IntKind} {x : TT kk} {v' : AVal} (h1 : hasTy env (d + 1) t (.int kk x) = true) (h2 : hasTy env (k + 1) t v' = true) : ∃ k' y, v' = .int k' y := by
  obtain ⟨td, ht, hag⟩ := HT.td ⟨_, h1⟩
  cases td <;> simp [TD.agg, AVal.isAgg] at hag <;> (unfold hasTy at h1 h2; simp [ht] at h1)
  cases v' <;> simp [ht] at h2
  exact ⟨_, _, rfl⟩

theorem hasTy_str {d t k : Nat} {a : List UInt8} {v' : AVal} (h1 : hasTy env (d + 1) t (.str a) = true) (h2 : hasTy env (k + 1) t v' = true) : ∃ b, v' = .str b := by
  obtain ⟨td, ht, hag⟩ := HT.td ⟨_, h1⟩
  cases td <;> simp [TD.agg, AVal.isAgg] at hag <;> (unfold hasTy at h1 h2; simp [ht] at h1)
  cases v' <;> simp [ht] at h2
  exact ⟨_, rfl⟩

theorem eqA_ty {t : Nat} {X Y : Operand} {v v' : AVal} {r : Bool} (h : eqA env t X Y v v' = some r) : (v = .nilIface ∧ v' = .nilIface) ∨ (hasTy env 8 t v = true ∧ hasTy env 8 t v' = true) := by
  by_cases hn : v = .nilIface ∧ v' = .nilIface
  · exact .inl hn
  · right
    have h' : (match hasTy env 8 t v, hasTy env 8 t v' with
      | true, true => match AVal.agg v with
        | true => match env.eq t with
          | true => eqV env 8 t v v'
          | false => none
        | false => eqV env 8 t v v'
      | _, _ => none) = some r := by
      unfold eqA at h
      cases v <;> first | exact h | (cases v' <;> first | exact h | exact absurd ⟨rfl, rfl⟩ hn)
    cases h1 : hasTy env 8 t v <;> cases h2 : hasTy env 8 t v' <;> simp [h1, h2] at h'
    exact ⟨rfl, rfl⟩

theorem val_kind {v : AVal} {x : Value} (hf : v.flat = true) (h : RepV env ρ Z v x) : (∀ k n, x = .int k n → ∃ y, v = .int k y) ∧ (∀ s, x = .string s → ∃ l, v = .str l) ∧ (∀ k n, x ≠ .float k n) ∧ (∀ k n m, x ≠ .complex k n m) := by
  unfold RepV at h
  refine ⟨?_, ?_, ?_, ?_⟩
  · rintro k n rfl
    cases v <;> simp [AVal.isAgg, RepC] at h
    · obtain ⟨rfl, _⟩ := h
      exact ⟨_, rfl⟩
    · subst h; cases hf
  · rintro s rfl
    cases v <;> simp [AVal.isAgg, RepC] at h
    · exact ⟨_, rfl⟩
    · subst h; cases hf
  · rintro k n rfl
    cases v <;> simp [AVal.isAgg, RepC] at h
    subst h; cases hf
  · rintro k n m rfl
    cases v <;> simp [AVal.isAgg, RepC] at h
    subst h; cases hf

set_option maxHeartbeats 2000000 in
theorem op_binOp (he : EnvOk P env) (hp : Pre env ρ Z u tmps H a w) {o : Oper} {op : BinOp} {t : Nat} {X Y : Operand} (ho : ∃ f, o.op = .binOp op t X Y f)
    (h : ob (opVal tmps X) fun a => ob (opVal tmps Y) fun b => binOpA env op t X Y a b (K1 K)) : OpPost P env ρ Z u base H w K KP ((execOp a.eval o).run P w) := by
  obtain ⟨v, hv, q1⟩ := ob_inv h
  obtain ⟨v', hv', q2⟩ := ob_inv q1
  obtain ⟨h1, h2⟩ := hp.opVal hv
  obtain ⟨h3, h4⟩ := hp.opVal hv'
  obtain ⟨f, ho⟩ := ho
  have fin : ∀ {z : Value} {r : AVal}, (do eqGuard op t X Y (a.eval X) (a.eval Y); binOp op t (a.eval X) (a.eval Y) : Sem Value).run P w = .ok z w → K1 K r → RepV env ρ Z r z → r.keys = [] →
      OpPost P env ρ Z u base H w K KP ((execOp a.eval o).run P w) := fun {z r} e hk hr hks =>
    OpPost.val hp (x := z) (by simp only [execOp, ho]; rw [Sem.run_bind, e]; rfl) hk hr (by rw [hks]; simp)
  have eqs : ∀ r, eqA env t X Y v v' = some r → ¬ (∃ k x, v = .int k x) → ¬ (∃ s, v = .str s) → ∀ (neg : Bool), (op = if neg then .neq else .eql) → K1 K (.bool (if neg then !r else r)) →
      OpPost P env ρ Z u base H w K KP ((execOp a.eval o).run P w) := fun r hr hni hns neg hop hk => by
    obtain ⟨g1, g2⟩ := run_eqA (P := P) he op h1 h3 hr w hp.heap.gok
    have hf : v.flat = true := by
      rcases eqA_ty hr with ⟨e1, _⟩ | ⟨t1, t2⟩
      · rw [e1]; rfl
      · exact hasTy_flat _ _ _ t1
    obtain ⟨k1, k2, k3, k4⟩ := val_kind hf h1
    have hb : binOp op t (a.eval X) (a.eval Y) = (if neg then (do pure (.bool (!(← Op.equal t (a.eval X) (a.eval Y))))) else (do pure (.bool (← Op.equal t (a.eval X) (a.eval Y)))) : Sem Value) := by
      cases hx : a.eval X with
      | int k n => obtain ⟨y, e⟩ := k1 k n hx; exact absurd ⟨_, _, e⟩ hni
      | string s => obtain ⟨y, e⟩ := k2 s hx; exact absurd ⟨_, e⟩ hns
      | float k n => exact absurd hx (k3 _ _)
      | complex k n m => exact absurd hx (k4 _ _ _)
      | _ => cases neg <;> subst hop <;> rfl
    refine fin (z := .bool (if neg then !r else r)) ?_ hk (by rw [repV_bool]) rfl
    rw [Sem.run_bind, g1]
    simp only [Result.andThen_ok, hb]
    cases neg <;> simp [g2]
  have notI : ∀ r, eqA env t X Y v v' = some r → (¬ ((∃ k x, v = .int k x) ∧ ∃ k x, v' = .int k x)) → ¬ ∃ k x, v = .int k x := fun r hr hn ⟨k, x, e⟩ => by
    rcases eqA_ty hr with ⟨e1, _⟩ | ⟨t1, t2⟩
    · rw [e] at e1; cases e1
    · refine hn ⟨⟨k, x, e⟩, ?_⟩; rw [e] at t1; exact hasTy_int t1 t2
  have notS : ∀ r, eqA env t X Y v v' = some r → (¬ ((∃ s, v = .str s) ∧ ∃ s, v' = .str s)) → ¬ ∃ s, v = .str s := fun r hr hn ⟨s, e⟩ => by
    rcases eqA_ty hr with ⟨e1, _⟩ | ⟨t1, t2⟩
    · rw [e] at e1; cases e1
    · refine hn ⟨⟨s, e⟩, ?_⟩; rw [e] at t1; exact hasTy_str t1 t2
  by_cases hi : (∃ k x, v = .int k x) ∧ ∃ k x, v' = .int k x
  · obtain ⟨⟨k, x, rfl⟩, k', y, rfl⟩ := hi
    rw [repV_int] at h1 h3
    by_cases hs : op = .shl ∨ op = .shr
    · rcases hs with rfl | rfl
      · obtain ⟨g, q3⟩ := chk_inv q2
        refine fin (z := .int k (toI k (shlT k x (toI k' y).toNat))) ?_ q3 (by rw [repV_int]) rfl
        rw [h1, h3]; exact run_shift .shl (.inl rfl) t x y X Y (isNeg_false g)
      · obtain ⟨g, q3⟩ := chk_inv q2
        refine fin (z := .int k (toI k (shrT k x (toI k' y).toNat))) ?_ q3 (by rw [repV_int]) rfl
        rw [h1, h3]; exact run_shift .shr (.inr rfl) t x y X Y (isNeg_false g)
    · have q3 : ob0 (castT k k' y) fun y => binInt op k x y (K1 K) := by
        cases op <;> first | exact q2 | exact absurd (.inl rfl) hs | exact absurd (.inr rfl) hs
      obtain ⟨y2, hc, q4⟩ := ob0_inv q3
      obtain ⟨rfl, ey⟩ := cast_int hc
      obtain ⟨r, z, hK, hrun, hr, hk⟩ := run_binInt (P := P) (ρ := ρ) (Z := Z) (env := env) (w := w) op t x y2 X Y q4
      refine fin (z := z) ?_ hK hr hk
      rw [h1, h3, ey]; exact hrun
  · by_cases hss : (∃ s, v = .str s) ∧ ∃ s, v' = .str s
    · obtain ⟨⟨s, rfl⟩, s', rfl⟩ := hss
      rw [repV_str] at h1 h3
      cases op <;> try exact q2.elim
      · obtain ⟨hl, q3⟩ := chk_inv q2
        have hl' : s.length + s'.length ≤ 1099511627776 := by simpa using hl
        have e1 : (⟨s.toArray⟩ : ByteArray).size = s.length := by simp [ByteArray.size]
        have e2 : (⟨s'.toArray⟩ : ByteArray).size = s'.length := by simp [ByteArray.size]
        have hgt : ¬ ((((⟨s.toArray⟩ : ByteArray).size + (⟨s'.toArray⟩ : ByteArray).size : Nat) : Int) > IntKind.i64.max) := by
          rw [e1, e2]; simp; omega
        refine fin (z := .string (⟨s.toArray⟩ ++ ⟨s'.toArray⟩)) ?_ q3 ?_ rfl
        · rw [h1, h3]
          simp only [eqGuard, binOp, Op.stringOp, if_neg hgt]
          rfl
        · rw [repV_str]
          congr 1
          first | done | (apply ByteArray.ext; simp [ByteArray.data_append])
      · refine fin (z := .bool (s == s')) ?_ q2 (by rw [repV_bool]) rfl
        rw [h1, h3]
        simp [eqGuard, binOp, Op.stringOp, beq_str]
      · refine fin (z := .bool (!(s == s'))) ?_ q2 (by rw [repV_bool]) rfl
        rw [h1, h3]
        simp [eqGuard, binOp, Op.stringOp, beq_str]
    · by_cases ho2 : op = .eql
      · subst ho2
        have q3 : ob0 (eqA env t X Y v v') fun r => K1 K (.bool r) := by
          cases v <;> cases v' <;> first | exact q2 | exact absurd ⟨⟨_, _, rfl⟩, _, _, rfl⟩ hi | exact absurd ⟨⟨_, rfl⟩, _, rfl⟩ hss
        obtain ⟨r, hr, q4⟩ := ob0_inv q3
        exact eqs r hr (notI r hr hi) (notS r hr hss) false rfl q4
      · by_cases ho3 : op = .neq
        · subst ho3
          have q3 : ob0 (eqA env t X Y v v') fun r => K1 K (.bool (!r)) := by
            cases v <;> cases v' <;> first | exact q2 | exact absurd ⟨⟨_, _, rfl⟩, _, _, rfl⟩ hi | exact absurd ⟨⟨_, rfl⟩, _, rfl⟩ hss
          obtain ⟨r, hr, q4⟩ := ob0_inv q3
          exact eqs r hr (notI r hr hi) (notS r hr hss) true rfl q4
        · exfalso
          cases op <;> first | exact ho2 rfl | exact ho3 rfl | (cases v <;> cases v' <;> first | exact q2.elim | exact absurd ⟨⟨_, _, rfl⟩, _, _, rfl⟩ hi | exact absurd ⟨⟨_, rfl⟩, _, rfl⟩ hss)

theorem nilCmp_inv {op : BinOp} {t : Nat} {v v' : AVal} {r : Bool} (h : nilCmp env H op t v v' = some r) : v' = .nilsl ∧ fullS env H t v = true ∧ ((op = .eql ∧ r = false) ∨ (op = .neq ∧ r = true)) := by
  unfold nilCmp at h
  cases h1 : isNilS v' with
  | false => rw [h1] at h; cases h
  | true =>
    rw [h1] at h
    cases h2 : fullS env H t v with
    | false => rw [h2] at h; cases h
    | true =>
      rw [h2] at h
      have e : v' = .nilsl := by
        cases v' <;> first | rfl | exact absurd h1 (by simp [isNilS])
      refine ⟨e, rfl, ?_⟩
      cases op <;> simp [nilNo] at h
      · exact .inl ⟨rfl, h⟩
      · exact .inr ⟨rfl, h⟩
theorem fullS_inv (he : EnvOk P env) (hp : Pre env ρ Z u tmps H a w) {t : Nat} {v : AVal} {x : Value} (h : fullS env H t v = true) (hx : RepV env ρ Z v x) : ∃ e b n c, env.td t = some (.slice e) ∧ x = .slice (some b) n c := by
  unfold fullS at h
  cases ht : env.td t with
  | none => simp [ht] at h
  | some td =>
    cases td <;> simp only [ht] at h <;> try (cases h; done)
    rename_i e
    cases v <;> simp only at h <;> try (cases h; done)
    · rename_i key p off n
      have hl := Nat.le_of_ble_eq_true h
      obtain ⟨ao, cap, e2, g1, g2, _⟩ := sl_inv hx
      have g2 := g2 (by omega)
      subst g2
      exact ⟨_, _, _, _, rfl, e2⟩
    · rename_i key
      cases hb : H key with
      | none => rw [hb] at h; cases h
      | some B =>
        obtain ⟨root, c⟩ := B
        cases root <;> simp only [hb] at h <;> try (cases h; done)
        rename_i e'
        cases hc : c.seq with
        | none => simp only [hc] at h; cases h
        | some q =>
          simp only [hc] at h
          have hl := Nat.le_of_ble_eq_true h
          obtain ⟨r1, r2, r3, r4⟩ := row_seq he.size hp hb hc
          obtain ⟨ao, cap, e2, g1, hx2, g3, g4⟩ := sw_inv hx
          obtain ⟨g5, _⟩ := g4 (by omega)
          subst g5
          exact ⟨_, _, _, _, rfl, hx2⟩
theorem op_nilCmp (he : EnvOk P env) (hp : Pre env ρ Z u tmps H a w) {o : Oper} {op : BinOp} {t : Nat} {X Y : Operand} {v v' : AVal} {r : Bool} (ho : ∃ f, o.op = .binOp op t X Y f)
    (hv : opVal tmps X = some v) (hv' : opVal tmps Y = some v') (hr : nilCmp env H op t v v' = some r) (hk : K1 K (.bool r)) : OpPost P env ρ Z u base H w K KP ((execOp a.eval o).run P w) := by
  obtain ⟨rfl, h2, h3⟩ := nilCmp_inv hr
  obtain ⟨g1, g2⟩ := hp.opVal hv
  obtain ⟨g3, g4⟩ := hp.opVal hv'
  obtain ⟨f, ho⟩ := ho
  rw [repV_nilsl] at g3
  obtain ⟨e, b, n, c, ht, g5⟩ := fullS_inv he hp h2 g1
  have hu := he.und t _ ht
  simp only [UndOk] at hu
  have heq : (Op.equal t (.slice (some b) n c) (.slice none 0 0)).run P w = .ok false w := by
    show (Op.equalIn (9999 + 1) t (.slice (some b) n c) (.slice none 0 0)).run P w = .ok false w
    rw [Op.equalIn]
    simp [run_underlying' hu]
  have fin : ∀ {z : Value} {r : AVal}, (do eqGuard op t X Y (a.eval X) (a.eval Y); binOp op t (a.eval X) (a.eval Y) : Sem Value).run P w = .ok z w → K1 K r → RepV env ρ Z r z → r.keys = [] →
      OpPost P env ρ Z u base H w K KP ((execOp a.eval o).run P w) := fun {z r} e hk hr hks =>
    OpPost.val hp (x := z) (by simp only [execOp, ho]; rw [Sem.run_bind, e]; rfl) hk hr (by rw [hks]; simp)
  refine fin (z := .bool r) ?_ hk (by rw [repV_bool]) rfl
  rw [g3, g5, Sem.run_bind]
  rcases h3 with ⟨rfl, rfl⟩ | ⟨rfl, rfl⟩
  · have hb : binOp .eql t (.slice (some b) n c) (.slice none 0 0) = (do pure (.bool (← Op.equal t (.slice (some b) n c) (.slice none 0 0))) : Sem Value) := rfl
    have hg : (eqGuard .eql t X Y (.slice (some b) n c) (.slice none 0 0)).run P w = .ok () w := by unfold eqGuard; simp
    rw [hg]
    simp only [Result.andThen_ok, hb]
    simp [heq]
  · have hb : binOp .neq t (.slice (some b) n c) (.slice none 0 0) = (do pure (.bool (!(← Op.equal t (.slice (some b) n c) (.slice none 0 0)))) : Sem Value) := rfl
    have hg : (eqGuard .neq t X Y (.slice (some b) n c) (.slice none 0 0)).run P w = .ok () w := by unfold eqGuard; simp
    rw [hg]
    simp only [Result.andThen_ok, hb]
    simp [heq]

theorem op_binOp2 (he : EnvOk P env) (hp : Pre env ρ Z u tmps H a w) {o : Oper} {op : BinOp} {t : Nat} {X Y : Operand} (ho : ∃ f, o.op = .binOp op t X Y f)
    (h : ob (opVal tmps X) fun a => ob (opVal tmps Y) fun b => match nilCmp env H op t a b with
      | some r => K1 K (.bool r)
      | none => binOpA env op t X Y a b (K1 K)) : OpPost P env ρ Z u base H w K KP ((execOp a.eval o).run P w) := by
  obtain ⟨v, hv, q1⟩ := ob_inv h
  obtain ⟨v', hv', q2⟩ := ob_inv q1
  cases hr : nilCmp env H op t v v' with
  | some r => rw [hr] at q2; exact op_nilCmp he hp ho hv hv' hr q2
  | none =>
    rw [hr] at q2
    refine op_binOp he hp ho ?_
    rw [hv]
    show ob (opVal tmps Y) _
    rw [hv']
    exact q2

theorem op_s2ap (he : EnvOk P env) (hp : Pre env ρ Z u tmps H a w) {o : Oper} {t : Nat} {x : Operand} (ho : o.op = .sliceToArrayPointer t x)
    (h : ob (opVal tmps x) fun a => s2apA env H t a (K1 K)) : OpPost P env ρ Z u base H w K KP ((execOp a.eval o).run P w) := by
  obtain ⟨v, hv, q1⟩ := ob_inv h
  obtain ⟨h1, h2⟩ := hp.opVal hv
  unfold s2apA at q1
  cases ht : env.td t with
  | none => rw [ht] at q1; exact q1.elim
  | some td =>
    have hu := he.und t td ht
    rw [ht] at q1
    cases td <;> try exact q1.elim
    rename_i n e
    simp only [UndOk] at hu
    obtain ⟨hn, q2⟩ := chk_inv q1
    have hn' : 0 < n := by simpa [Nat.blt_eq] using hn
    have run : ∀ ao m cap, a.eval x = .slice ao m cap → n ≤ m → (execOp a.eval o).run P w = .ok (.value (.pointer ao)) w := fun ao m cap e1 e2 => by
      simp [execOp, ho, e1, Instr.arrayAt, run_underlying' hu, Nat.not_lt.2 e2]
    cases v <;> try exact q2.elim
    · -- sl
      rename_i key p off m
      obtain ⟨e', he', q3⟩ := ob0_inv q2
      obtain ⟨hee, q4⟩ := chk_inv q3
      obtain rfl := beq_eq hee
      obtain ⟨hle, q5⟩ := chk_inv q4
      have hle' : n ≤ m := by simpa using hle
      obtain ⟨ao, cap, hx, g1, g2, g3⟩ := sl_inv h1
      refine OpPost.val hp (run _ _ _ hx hle') q5 ?_ (by simpa [AVal.keys] using h2)
      simp only [RepV, AVal.isAgg, RepC]
      exact ⟨hn', by rw [g2 (by omega)], fun i hi => g3 i (by omega)⟩
    · -- sw
      rename_i key
      simp only at q2
      cases hb : H key with
      | none => rw [hb] at q2; exact q2.elim
      | some b =>
        obtain ⟨root, c⟩ := b
        cases root with
        | map => rw [hb] at q2; exact q2.elim
        | var t0 => rw [hb] at q2; exact q2.elim
        | row e' =>
          rw [hb] at q2
          obtain ⟨hee, q3⟩ := chk_inv q2
          obtain rfl := beq_eq hee
          obtain ⟨q, hq, q4⟩ := ob_inv q3
          obtain ⟨hle, q5⟩ := chk_inv q4
          have hle' : n ≤ q.len := by simpa using hle
          obtain ⟨r1, r2, r3, r4, r5, r6, r7⟩ := row_seq he.size hp hb hq
          obtain ⟨ao, cap, e2, g1, hx, g2, g3⟩ := sw_inv h1
          refine OpPost.val hp (run _ _ _ hx (by omega)) q5 ?_ (by simpa [AVal.keys] using h2)
          simp only [RepV, AVal.isAgg, RepC]
          refine ⟨hn', ?_, fun i hi => ?_⟩
          · rw [(g3 (by omega)).1]; simp [r1, Root.off, offP]
          · simp [validR, r1, validP]; omega
    · -- vw
      rename_i k l
      obtain ⟨hi, q3⟩ := chk_inv q2
      obtain ⟨hle, q4⟩ := chk_inv q3
      have hle' : n ≤ l.length := by simpa using hle
      simp only [RepV, AVal.isAgg, RepC] at h1
      obtain ⟨ao, cap, hx, g1, g2⟩ := h1
      simp at hx
      obtain ⟨b, o', e1, g3⟩ := g2 (by rintro rfl; simp at hle'; omega)
      refine OpPost.val hp (run _ _ _ hx hle') q4 ?_ (by simp [AVal.keys])
      refine repV_vp.2 ⟨rfl, b, o', (l.take n).map fun x => .int k (toI k x), by rw [e1], ?_, fun j c hc => ?_⟩
      · rw [RepC]; exact ⟨by simp; omega, rfl⟩
      · rw [List.getElem?_map] at hc
        obtain ⟨y, hy, rfl⟩ := Option.map_eq_some_iff.1 hc
        refine g3 j y ?_
        rw [List.getElem?_take] at hy
        split at hy
        · exact hy
        · cases hy
end
end Go.Abs
