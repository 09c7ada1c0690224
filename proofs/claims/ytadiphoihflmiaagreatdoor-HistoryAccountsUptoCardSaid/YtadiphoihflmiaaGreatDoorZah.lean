/- Operations: structs, arrays and strings are made; indices, assertions, lengths. -/
import Derived.Test.YtadiphoihflmiaaGreatDoorZag
import Derived.Laws.Tables
import Derived.Laws.BytesString
set_option linter.all false
namespace Go.Abs
section
variable {P : Program} {env : Env} {C : Tab} {ρ : PMap} {Z : Zone} {u : Nat → Bool} {base : Nat} {tmps : List (Option AVal)} {H : Heap} {a : Act} {w : World} {K : Eff → Prop} {KP : AVal → List (Nat × Option Blk) → Prop}

/-! ### cells are set one by one -/
theorem foldl_set (off : Nat) : ∀ (xs : List Value) (k : Nat) (cells : Array Value) (c1 c2 c3 : List Value), cells.toList = c1 ++ c2 ++ c3 → c1.length = off + k → c2.length = xs.length →
    ((xs.zipIdx k).foldl (fun cs (p : Value × Nat) => cs.setIfInBounds (off + p.2) p.1) cells).toList = c1 ++ xs ++ c3
  | [], k, cells, c1, c2, c3, h, h1, h2 => by
    have : c2 = [] := by simpa using h2
    subst this; simpa using h
  | x :: xs, k, cells, c1, [], c3, h, h1, h2 => by simp at h2
  | x :: xs, k, cells, c1, y :: c2, c3, h, h1, h2 => by
    simp only [List.zipIdx_cons, List.foldl_cons]
    have := foldl_set off xs (k + 1) (cells.setIfInBounds (off + k) x) (c1 ++ [x]) c2 c3 (by
      rw [Array.toList_setIfInBounds, h, ← h1]
      simp) (by simp; omega) (by simpa using h2)
    rw [this]; simp

theorem fill_step (place : Nat → Option (Nat × Nat)) {cells : Array Value} {i off size : Nat} {v : Value} {rest : List (Nat × Value)} {c1 c2 c3 : List Value} (hp : place i = some (off, size)) (hs : v.cells.size = size)
    (h : cells.toList = c1 ++ c2 ++ c3) (h1 : c1.length = off) (h2 : c2.length = size) : ∃ cells' : Array Value, cells'.toList = c1 ++ v.cells.toList ++ c3 ∧ Instr.fill place cells ((i, v) :: rest) = Instr.fill place cells' rest := by
  refine ⟨v.cells.zipIdx.foldl (fun cs (c, j) => cs.setIfInBounds (off + j) c) cells, ?_, ?_⟩
  · have := foldl_set off v.cells.toList 0 cells c1 c2 c3 h (by omega) (by simp; omega)
    rw [← this, ← Array.foldl_toList, Array.toList_zipIdx]
  · have hsz : cells.size = c1.length + c2.length + c3.length := by rw [← Array.length_toList, h]; simp; omega
    rw [Instr.fill]
    simp only [hp]
    rw [if_neg]
    simp
    exact ⟨hs, by omega⟩

theorem RepVs.cons {v : AVal} {vs : List AVal} {xs : List Value} (h : RepVs env ρ Z (v :: vs) xs) : ∃ x ys, xs = x :: ys ∧ RepV env ρ Z v x ∧ RepVs env ρ Z vs ys := h

def sndL : List (Nat × AVal) → List AVal
  | [] => []
  | (_, v) :: vs => v :: sndL vs
def fstN : List (Nat × AVal) → List Nat
  | [] => []
  | (i, _) :: vs => i :: fstN vs

theorem partVals_rep (hp : Pre env ρ Z u tmps H a w) : ∀ {ps : List (Nat × Operand)} {vs : List (Nat × AVal)}, partVals tmps ps = some vs →
    ∃ xs, RepVs env ρ Z (sndL vs) xs ∧ (ps.map fun p => (p.1, a.eval p.2)) = (fstN vs).zip xs ∧ ∀ k, k ∈ keysL (sndL vs) → known u k
  | [], vs, h => by simp [partVals] at h; subst h; exact ⟨[], by simp [sndL, RepVs], by simp [fstN], by simp [sndL, keysL]⟩
  | (i, x) :: ps, vs, h => by
    simp only [partVals] at h
    cases hx : opVal tmps x with
    | none => simp [hx] at h
    | some v =>
      cases hr : partVals tmps ps with
      | none => simp [hx, hr] at h
      | some us =>
        simp [hx, hr] at h; subst h
        obtain ⟨h1, h2⟩ := hp.opVal hx
        obtain ⟨xs, h3, h4, h5⟩ := partVals_rep hp hr
        exact ⟨a.eval x :: xs, ⟨_, _, rfl, h1, h3⟩, by simp [fstN, h4], fun k hk => by simp [sndL, keysL] at hk; exact hk.elim (h2 k) (h5 k)⟩

theorem fill_struct (hs : SzOk env) {fs : List Nat} {place : Nat → Option (Nat × Nat)} (hpl : ∀ i t, nth fs i = some t → place i = some (sumSz env (fs.take i), env.sz t)) :
    ∀ (vs : List (Nat × AVal)) (xs : List Value) (z z' : AVal) (cells : Array Value), buildS env fs vs z = some z' → RepVs env ρ Z (sndL vs) xs → hasL (hasTy env 8) fs z = true → RepC env ρ Z z cells.toList →
      ∃ cells' : Array Value, Instr.fill place cells ((fstN vs).zip xs) = some cells' ∧ RepC env ρ Z z' cells'.toList ∧ hasL (hasTy env 8) fs z' = true ∧ ∀ k, k ∈ z'.keys → k ∈ z.keys ∨ k ∈ keysL (sndL vs)
  | [], xs, z, z', cells, h, hx, ht, hz => by
    simp [buildS] at h; subst h
    simp only [sndL, RepVs] at hx; subst hx
    exact ⟨cells, by simp [fstN, Instr.fill], hz, ht, fun k hk => .inl hk⟩
  | (i, v) :: vs, xs, z, z', cells, h, hx, ht, hz => by
    simp only [buildS] at h
    cases hn : nth fs i with
    | none => simp [hn] at h
    | some t =>
      cases hty : hasTy env 8 t v with
      | false => simp [hn, hty] at h
      | true =>
        cases hst : AVal.setF z i v with
        | none => simp [hn, hty, hst] at h
        | some z1 =>
          simp only [hn, hty, hst] at h
          simp only [sndL] at hx
          obtain ⟨x, ys, rfl, h1, h2⟩ := hx
          have hxc := h1.cells ⟨8, hty⟩
          obtain ⟨c1, c2, c3, e, e1, e2, e3, e4⟩ := setF_rep (hasTy_len hs 8) fs i t z v z1 _ _ ht hz hn hst hty hxc
          have hsz : x.cells.size = env.sz t := by simpa using hasTy_len hs 8 t v _ hty hxc
          obtain ⟨cells1, f1, f2⟩ := fill_step place (rest := (fstN vs).zip ys) (hpl i t hn) hsz e e1 (by rw [e2]; simpa using hsz)
          obtain ⟨cells', g1, g2, g3, g4⟩ := fill_struct hs hpl vs ys z1 z' cells1 h h2 e4 (by rw [f1]; exact e3)
          refine ⟨cells', ?_, g2, g3, fun k hk => ?_⟩
          · simp only [fstN, List.zip_cons_cons]; rw [f2]; exact g1
          · rcases g4 k hk with h | h
            · rcases setF_keys hst k h with h | h
              · exact .inl h
              · exact .inr (by simp [sndL, keysL, h])
            · exact .inr (by simp [sndL, keysL, h])

theorem hasL_succ {fs : List Nat} {v : AVal} {d : Nat} (h : hasL (hasTy env d) fs v = true) : hasL (hasTy env (d + 1)) fs v = true :=
  hasL_mono (fun t v h => hasTy_succ env d t v h) fs v h

theorem info_zero (he : EnvOk P env) {t : Nat} {d : TD} {z : AVal} (htd : env.td t = some d) (hz : zeroV env 8 t = some z) : ∃ i y, P.info? t = some i ∧ i.zero = some y ∧ ∀ ρ Z, RepV env ρ Z z y := by
  obtain ⟨i, h1, _, _, h4⟩ := he.info t d htd
  obtain ⟨y, h5, h6⟩ := h4 z hz
  exact ⟨i, y, h1, h5, h6⟩

theorem mapM_places (he : EnvOk P env) : ∀ (fields : List Field) (fs : List Nat), fields.map (·.type) = fs → (∀ i u, nth fs i = some u → ∃ d, env.td u = some d) →
    ∃ pl, fields.mapM (fun f => (P.info? f.type).map fun i => (f.offset, i.size)) = some pl ∧ pl = fields.map fun f => (f.offset, env.sz f.type)
  | [], fs, h, hc => ⟨[], by simp, by simp⟩
  | f :: fields, fs, h, hc => by
    simp at h; subst h
    obtain ⟨d, hd⟩ := hc 0 f.type (by simp [nth])
    obtain ⟨i, h1, h2, _⟩ := he.info _ d hd
    obtain ⟨pl, h3, h4⟩ := mapM_places he fields _ rfl fun i u hn => hc (i + 1) u (by simpa [nth] using hn)
    exact ⟨(f.offset, env.sz f.type) :: pl, by simp [List.mapM_cons, h1, h2, h3], by simp [h4]⟩

theorem op_buildS (he : EnvOk P env) (hp : Pre env ρ Z u tmps H a w) {o : Oper} {t : Nat} {ps : Array (Nat × Operand)} {fs : List Nat} (ho : o.op = .build t ps) (ht : env.td t = some (.struct fs))
    (h : ob (partVals tmps ps.toList) fun vs => ob (zeroV env 8 t) fun z => ob (buildS env fs vs z) (K1 K)) : OpPost P env ρ Z u base H w K KP ((execOp a.eval o).run P w) := by
  obtain ⟨vs, hvs, q1⟩ := ob_inv h
  obtain ⟨z, hz, q2⟩ := ob_inv q1
  obtain ⟨z', hz', q3⟩ := ob_inv q2
  obtain ⟨xs, h1, h2, h3⟩ := partVals_rep hp hvs
  obtain ⟨i, y, g1, g2, g3⟩ := info_zero he ht hz
  have hty := he.zty t z hz
  have hL : hasL (hasTy env 7) fs z = true := by
    have := hty
    unfold hasTy at this
    simpa [ht] using this
  have hag := hasL_agg hL
  have hy := (g3 ρ Z).cells ⟨8, hty⟩
  obtain ⟨fields, f1, f2, f3⟩ := he.und t _ ht
  obtain ⟨pl, p1, p2⟩ := mapM_places he fields.toList fs f2 fun i u hn => he.clo t _ ht i u hn
  have hpl : ∀ i t, nth fs i = some t → (pl.toArray[i]? : Option (Nat × Nat)) = some (sumSz env (fs.take i), env.sz t) := fun i t' hn => by
    rw [nth_get, ← f2] at hn
    simp at hn
    obtain ⟨fd, h4, h5⟩ := hn
    have := f3 i fd h4
    simp [p2, h4, h5, this]
  obtain ⟨cells, c1, c2, c3, c4⟩ := fill_struct (ρ := ρ) (Z := Z) he.size hpl vs xs z z' y.cells hz' h1 (hasL_succ hL) hy
  have hb : P.built t (ps.map fun (i, x) => (i, a.eval x)).toList = some cells := by
    unfold Program.built
    simp only [g1, f1, g2, p1]
    rw [← c1, ← h2]
    simp
    congr 1
    funext i
    simp
  refine OpPost.val hp (x := .agg cells) (by simp only [execOp, ho, Sem.run_bind, run_build w t _ cells hb, Result.andThen_ok, Sem.run_pure]) q3 ?_ ?_
  · unfold RepV; rw [hasL_agg c3]; exact ⟨_, rfl, c2⟩
  · intro k hk
    rcases c4 k hk with h | h
    · rw [zeroV_keys env 8 t z hz] at h; cases h
    · exact h3 k h

theorem fill_arr (hs : SzOk env) {t n e : Nat} (htd : env.td t = some (.arr n e)) {place : Nat → Option (Nat × Nat)} (hpl : ∀ i, place i = some (i * env.sz e, env.sz e)) :
    ∀ (vs : List (Nat × AVal)) (xs : List Value) (z z' : AVal) (cells : Array Value), buildA env n e vs z = some z' → RepVs env ρ Z (sndL vs) xs → HT env t z → RepC env ρ Z z cells.toList →
      ∃ cells' : Array Value, Instr.fill place cells ((fstN vs).zip xs) = some cells' ∧ RepC env ρ Z z' cells'.toList ∧ HT env t z' ∧ ∀ k, k ∈ z'.keys → k ∈ z.keys ∨ k ∈ keysL (sndL vs)
  | [], xs, z, z', cells, h, hx, ht, hz => by
    simp [buildA] at h; subst h
    simp only [sndL, RepVs] at hx; subst hx
    exact ⟨cells, by simp [fstN, Instr.fill], hz, ht, fun k hk => .inl hk⟩
  | (i, v) :: vs, xs, z, z', cells, h, hx, ht, hz => by
    simp only [buildA] at h
    cases hty : hasTy env 8 e v with
    | false => simp [hty] at h
    | true =>
      cases hlt : Nat.blt i n with
      | false => simp [hty, hlt] at h
      | true =>
        cases hst : AVal.setP [.i i] z v with
        | none => simp [hty, hlt, hst] at h
        | some z1 =>
          simp only [hty, hlt, hst] at h
          simp only [sndL] at hx
          obtain ⟨x, ys, rfl, h1, h2⟩ := hx
          have hxc := h1.cells ⟨8, hty⟩
          have hlt' : i < n := by simpa [Nat.blt_eq] using hlt
          obtain ⟨c1, c2, c3, e0, e1, e2, e3, e4⟩ := setP_rep hs [.i i] t e z v z1 _ _ ht hz (by simp [typeP, htd]) (by simp [validP, htd, hlt']) hst ⟨8, hty⟩ hxc
          have hsz : x.cells.size = env.sz e := by simpa using hasTy_len hs 8 e v _ hty hxc
          obtain ⟨cells1, f1, f2⟩ := fill_step place (rest := (fstN vs).zip ys) (hpl i) hsz e0 (by simpa [offP, htd] using e1) (by rw [e2]; simpa using hsz)
          obtain ⟨cells', g1, g2, g3, g4⟩ := fill_arr hs htd hpl vs ys z1 z' cells1 h h2 e4 (by rw [f1]; exact e3)
          refine ⟨cells', ?_, g2, g3, fun k hk => ?_⟩
          · simp only [fstN, List.zip_cons_cons]; rw [f2]; exact g1
          · rcases g4 k hk with h | h
            · rcases setP_keys hst k h with h | h
              · exact .inl h
              · exact .inr (by simp [sndL, keysL, h])
            · exact .inr (by simp [sndL, keysL, h])

theorem op_buildA (he : EnvOk P env) (hp : Pre env ρ Z u tmps H a w) {o : Oper} {t n e : Nat} {ps : Array (Nat × Operand)} (ho : o.op = .build t ps) (ht : env.td t = some (.arr n e))
    (h : ob (partVals tmps ps.toList) fun vs => ob (zeroV env 8 t) fun z => ob (buildA env n e vs z) (K1 K)) : OpPost P env ρ Z u base H w K KP ((execOp a.eval o).run P w) := by
  obtain ⟨vs, hvs, q1⟩ := ob_inv h
  obtain ⟨z, hz, q2⟩ := ob_inv q1
  obtain ⟨z', hz', q3⟩ := ob_inv q2
  obtain ⟨xs, h1, h2, h3⟩ := partVals_rep hp hvs
  obtain ⟨i, y, g1, g2, g3⟩ := info_zero he ht hz
  have hty : HT env t z := ⟨8, he.zty t z hz⟩
  have hy := (g3 ρ Z).cells hty
  have hu := he.und t _ ht
  simp only [UndOk] at hu
  obtain ⟨d, hd⟩ := he.clo t _ ht
  obtain ⟨ie, i1, i2, _⟩ := he.info e d hd
  obtain ⟨cells, c1, c2, c3, c4⟩ := fill_arr (ρ := ρ) (Z := Z) he.size ht (place := fun i => some (i * env.sz e, env.sz e)) (fun _ => rfl) vs xs z z' y.cells hz' h1 hty hy
  have hb : P.built t (ps.map fun (i, x) => (i, a.eval x)).toList = some cells := by
    unfold Program.built
    simp only [g1, hu, g2, i1, i2]
    rw [← c1, ← h2]
    simp
  refine OpPost.val hp (x := .agg cells) (by simp only [execOp, ho, Sem.run_bind, run_build w t _ cells hb, Result.andThen_ok, Sem.run_pure]) q3 ?_ ?_
  · obtain ⟨td, htd, hag⟩ := c3.td
    rw [ht] at htd; cases htd
    unfold RepV; rw [hag]; exact ⟨_, rfl, c2⟩
  · intro k hk
    rcases c4 k hk with h | h
    · rw [zeroV_keys env 8 t z hz] at h; cases h
    · exact h3 k h

theorem op_build (he : EnvOk P env) (hp : Pre env ρ Z u tmps H a w) {o : Oper} {t : Nat} {ps : Array (Nat × Operand)} (ho : o.op = .build t ps)
    (h : ob (partVals tmps ps.toList) fun vs => ob (zeroV env 8 t) fun z => match env.td t with
    | some (.struct fs) => ob (buildS env fs vs z) (K1 K)
    | some (.arr n e) => ob (buildA env n e vs z) (K1 K)
    | _ => False) : OpPost P env ρ Z u base H w K KP ((execOp a.eval o).run P w) := by
  cases ht : env.td t with
  | none => obtain ⟨_, _, q1⟩ := ob_inv h; obtain ⟨_, _, q2⟩ := ob_inv q1; rw [ht] at q2; exact q2.elim
  | some td =>
    cases td with
    | struct fs => exact op_buildS he hp ho ht (by simpa only [ht] using h)
    | arr n e => exact op_buildA he hp ho ht (by simpa only [ht] using h)
    | _ => obtain ⟨_, _, q1⟩ := ob_inv h; obtain ⟨_, _, q2⟩ := ob_inv q1; rw [ht] at q2; exact q2.elim

/-! ### new rows -/
theorem zeroRow_rep (he : EnvOk P env) {e n : Nat} {c : Cont} (h : zeroRow env e n = some c) :
    ∃ v v' d, env.td e = some d ∧ zeroV env 8 e = some v ∧ AVal.Le v v' ∧ c.elems = List.replicate n v' ∧ c.isVar = false ∧ c.good ∧ c.keys = [] := by
  unfold zeroRow at h
  cases htd : env.td e with
  | none => simp [htd] at h
  | some d =>
    have other : (match env.codec e with
      | some c => some (Cont.recs c (List.replicate n c.dflt))
      | none => match zeroV env 8 e with
        | some v => some (.vals (List.replicate n v))
        | none => none) = some c → ∃ v v' d, some d = some d ∧ zeroV env 8 e = some v ∧ AVal.Le v v' ∧ c.elems = List.replicate n v' ∧ c.isVar = false ∧ c.good ∧ c.keys = [] := fun h => by
      cases hc : env.codec e with
      | some cd =>
        simp [hc] at h; subst h
        have hco := he.cod e cd hc
        obtain ⟨z0, hz0, hle⟩ := hco.zero
        exact ⟨z0, _, d, rfl, hz0, hle, by simp [Cont.elems], rfl, ⟨hco.dec, hco.keys, hco.vt⟩, rfl⟩
      | none =>
        cases hz : zeroV env 8 e with
        | none => simp [hc, hz] at h
        | some v =>
          simp [hc, hz] at h; subst h
          refine ⟨v, v, d, rfl, rfl, AVal.Le.refl _, rfl, rfl, trivial, ?_⟩
          refine List.eq_nil_iff_forall_not_mem.2 fun k hk => ?_
          obtain ⟨x, hx, hk⟩ := (keysL_map _ k).1 hk
          rw [List.eq_of_mem_replicate hx, zeroV_keys env 8 e v hz] at hk
          cases hk
    cases d with
    | int k =>
      simp [htd] at h; subst h
      exact ⟨.int k (zeroT k), _, _, rfl, by simp [zeroV, htd], AVal.Le.refl _, by simp [Cont.elems], rfl, trivial, rfl⟩
    | _ =>
      simp only [htd] at h
      obtain ⟨v, v', d, -, h⟩ := other h
      exact ⟨v, v', _, rfl, h⟩

theorem range_cells (zs : List Value) : ∀ (n : Nat), (List.range (n * zs.length)).map (fun i => zs[i % zs.length]!) = (List.replicate n zs).flatten
  | 0 => by simp
  | n + 1 => by
    rw [Nat.add_mul, Nat.one_mul, Nat.add_comm, List.range_add, List.map_append, List.map_map, List.replicate_succ, List.flatten_cons, ← range_cells zs n]
    congr 1
    · refine List.ext_getElem (by simp) fun i h1 h2 => ?_
      simp at h1
      simp [Nat.mod_eq_of_lt h1, h1]
    · refine List.map_congr_left fun i _ => ?_
      simp [Nat.add_mod_left]

theorem RepEl.replicate {e n : Nat} {v : AVal} {zs : List Value} (ht : HT env e v) (hr : RepC env ρ Z v zs) : RepEl env ρ Z e (List.replicate n v) (List.replicate n zs).flatten := by
  induction n with
  | zero => simp [RepEl]
  | succ n ih => simp only [List.replicate_succ, List.flatten_cons]; exact ⟨_, _, rfl, ht, hr, ih⟩

theorem flatten_take (zs : List Value) : ∀ (n m : Nat), n ≤ m → ((List.replicate m zs).flatten).take (n * zs.length) = (List.replicate n zs).flatten
  | 0, m, _ => by simp
  | n + 1, 0, h => by omega
  | n + 1, m + 1, h => by
    rw [List.replicate_succ, List.replicate_succ, List.flatten_cons, List.flatten_cons, Nat.add_mul, Nat.one_mul, Nat.add_comm, List.take_length_add_append, flatten_take zs n m (by omega)]

/-- Cells of a new row of zeros: n elements of m. -/
theorem row_cells_of (he : EnvOk P env) {e n : Nat} {c : Cont} (h : ∃ v v' d, env.td e = some d ∧ zeroV env 8 e = some v ∧ AVal.Le v v' ∧ c.elems = List.replicate n v' ∧ c.isVar = false ∧ c.good ∧ c.keys = []) (m : Nat) (hm : n ≤ m) :
    ∃ d, env.td e = some d ∧ ∃ cs : Array Value, RepB env ρ Z ⟨.row e, c⟩ (cs.toList.take (n * env.sz e)) n ∧ cs.size = m * env.sz e ∧ c.keys = [] ∧
      ∀ w : World, (m * env.sz e = 0 ∧ (Array.range (m * env.sz e)).map (fun i => (#[] : Array Value)[i % (#[] : Array Value).size]!) = cs) ∨
        (m * env.sz e ≠ 0 ∧ ∃ y, (zeroValue e).run P w = .ok y w ∧ (Array.range (m * env.sz e)).map (fun i => y.cells[i % y.cells.size]!) = cs) := by
  obtain ⟨v, v', d, htd, hz, hle, hel, hvar, hgd, hk⟩ := h
  obtain ⟨i, y, g1, g2, g3⟩ := info_zero he htd hz
  have ht : HT env e v := ⟨8, he.zty e v hz⟩
  have hy := (g3 ρ Z).cells ht
  have hlen : y.cells.size = env.sz e := by simpa using ht.len he.size hy
  have hlen' : y.cells.toList.length = env.sz e := by simpa using hlen
  refine ⟨d, htd, (List.replicate m y.cells.toList).flatten.toArray, ?_, ?_, hk, fun w => ?_⟩
  · have ht' : ((List.replicate m y.cells.toList).flatten).take (n * env.sz e) = (List.replicate n y.cells.toList).flatten := by rw [← hlen']; exact flatten_take _ n m hm
    have : (∃ d, env.td e = some d) ∧ c.elems.length = n ∧ RepEl env ρ Z e c.elems (List.replicate n y.cells.toList).flatten ∧ c.good :=
      ⟨⟨d, htd⟩, by simp [hel], by rw [hel]; exact RepEl.replicate (ht.le hle) (hle.rep hy), hgd⟩
    simp only [ht']
    cases c <;> simp [Cont.isVar] at hvar <;> exact this
  · simp [hlen]
  · by_cases h0 : m * env.sz e = 0
    · have : (List.replicate m y.cells.toList).flatten.toArray = #[] := by
        apply Array.eq_empty_of_size_eq_zero
        simp [hlen, h0]
      exact .inl ⟨h0, by simp [h0, this]⟩
    · refine .inr ⟨h0, y, by simp [zeroValue, typeInfo, g1, g2], ?_⟩
      apply Array.ext'
      have := range_cells y.cells.toList m
      rw [hlen'] at this
      rw [hlen]
      simp only [Array.toList_map, Array.toList_range]
      rw [← this]
      refine List.map_congr_left fun i _ => ?_
      simp [Array.getElem!_eq_getD, Array.getD_eq_getD_getElem?]

theorem row_cells (he : EnvOk P env) {e n : Nat} {c : Cont} (h : zeroRow env e n = some c) (m : Nat) (hm : n ≤ m) :
    ∃ d, env.td e = some d ∧ ∃ cs : Array Value, RepB env ρ Z ⟨.row e, c⟩ (cs.toList.take (n * env.sz e)) n ∧ cs.size = m * env.sz e ∧ c.keys = [] ∧
      ∀ w : World, (m * env.sz e = 0 ∧ (Array.range (m * env.sz e)).map (fun i => (#[] : Array Value)[i % (#[] : Array Value).size]!) = cs) ∨
        (m * env.sz e ≠ 0 ∧ ∃ y, (zeroValue e).run P w = .ok y w ∧ (Array.range (m * env.sz e)).map (fun i => y.cells[i % y.cells.size]!) = cs) := row_cells_of he (zeroRow_rep he h) m hm

theorem litRow_rep (he : EnvOk P env) {e n : Nat} {c : Cont} (h : litRow env e n = some c) :
    ∃ v v' d, env.td e = some d ∧ zeroV env 8 e = some v ∧ AVal.Le v v' ∧ c.elems = List.replicate n v' ∧ c.isVar = false ∧ c.good ∧ c.keys = [] := by
  unfold litRow at h
  cases htd : env.td e with
  | none => simp [htd] at h
  | some d =>
    have other : (match zeroV env 8 e with
        | some v => some (.vals (List.replicate n v))
        | none => none) = some c → ∃ v v' d, some d = some d ∧ zeroV env 8 e = some v ∧ AVal.Le v v' ∧ c.elems = List.replicate n v' ∧ c.isVar = false ∧ c.good ∧ c.keys = [] := fun h => by
      cases hz : zeroV env 8 e with
      | none => simp [hz] at h
      | some v =>
        simp [hz] at h; subst h
        refine ⟨v, v, d, rfl, rfl, AVal.Le.refl _, rfl, rfl, trivial, ?_⟩
        refine List.eq_nil_iff_forall_not_mem.2 fun k hk => ?_
        obtain ⟨x, hx, hk⟩ := (keysL_map _ k).1 hk
        rw [List.eq_of_mem_replicate hx, zeroV_keys env 8 e v hz] at hk
        cases hk
    cases d with
    | int k =>
      simp [htd] at h; subst h
      exact ⟨.int k (zeroT k), _, _, rfl, by simp [zeroV, htd], AVal.Le.refl _, by simp [Cont.elems], rfl, trivial, rfl⟩
    | _ =>
      simp only [htd] at h
      obtain ⟨v, v', d, -, h⟩ := other h
      exact ⟨v, v', _, rfl, h⟩

theorem sw_new {e n m hi b : Nat} (hn : n ≤ m) (hm : m * env.sz e ≤ hi) :
    RepV env (ρ.put base ⟨b, 0, hi, .row e, n⟩) Z (.sw base) (.slice (some ⟨b, 0, none⟩) n m) := by
  simp only [RepV, AVal.isAgg, RepC, PMap.put_same]
  exact ⟨_, _, e, rfl, rfl, hn, fun _ => ⟨rfl, by simpa using hm⟩⟩

/-- Parts are laid into a row. -/
theorem fill_row (he : EnvOk P env) {e n : Nat} {place : Nat → Option (Nat × Nat)} (hpl : ∀ i, place i = some (i * env.sz e, env.sz e)) :
    ∀ (vs : List (Nat × AVal)) (xs : List Value) (c c' : Cont) (cells : Array Value), setAll env e n vs c = some c' → RepVs env ρ Z (sndL vs) xs → RepB env ρ Z ⟨.row e, c⟩ cells.toList n →
      ∃ cells' : Array Value, Instr.fill place cells ((fstN vs).zip xs) = some cells' ∧ RepB env ρ Z ⟨.row e, c'⟩ cells'.toList n ∧ cells'.size = cells.size ∧ ∀ k, k ∈ c'.keys → k ∈ c.keys ∨ k ∈ keysL (sndL vs)
  | [], xs, c, c', cells, h, hx, hz => by
    simp [setAll] at h; subst h
    simp only [sndL, RepVs] at hx; subst hx
    exact ⟨cells, by simp [fstN, Instr.fill], hz, rfl, fun k hk => .inl hk⟩
  | (i, v) :: vs, xs, c, c', cells, h, hx, hz => by
    simp only [setAll] at h
    cases hty : hasTy env 8 e v with
    | false => simp [hty] at h
    | true =>
      cases hlt : Nat.blt i n with
      | false => simp [hty, hlt] at h
      | true =>
        cases hst : c.set [.i i] v with
        | none => simp [hty, hlt, hst] at h
        | some c1 =>
          simp only [hty, hlt, hst] at h
          simp only [sndL] at hx
          obtain ⟨x, ys, rfl, h1, h2⟩ := hx
          have hxc := h1.cells ⟨8, hty⟩
          have hlt' : i < n := by simpa [Nat.blt_eq] using hlt
          obtain ⟨d1, d2, d3, e0, e1, e2, e3⟩ := Blk.set_rep (pl := ⟨0, 0, 0, .row e, n⟩) he.size hz rfl (p := [.i i]) (u := e) (by simp [Root.type, typeP]) (by simp [validR, validP, hlt']) hst ⟨8, hty⟩ hxc
          have hsz : x.cells.size = env.sz e := by simpa using hasTy_len he.size 8 e v _ hty hxc
          obtain ⟨cells1, f1, f2⟩ := fill_step place (rest := (fstN vs).zip ys) (hpl i) hsz e0 (by simpa [Root.off, offP] using e1) (by rw [e2]; simpa using hsz)
          obtain ⟨cells', g1, g2, g3, g4⟩ := fill_row he hpl vs ys c1 c' cells1 h h2 (by rw [f1]; exact e3)
          refine ⟨cells', ?_, g2, ?_, fun k hk => ?_⟩
          · simp only [fstN, List.zip_cons_cons]; rw [f2]; exact g1
          · rw [g3, ← Array.length_toList, f1, ← Array.length_toList (xs := cells), e0]; simp; simp at e2; omega
          · rcases g4 k hk with h | h
            · rcases Cont.set_keys hz.good hst k h with h | h
              · exact .inl h
              · exact .inr (by simp [sndL, keysL, h])
            · exact .inr (by simp [sndL, keysL, h])

theorem op_buildSlice (he : EnvOk P env) (hp : Pre env ρ Z u tmps H a w) (hbase : ∀ k, inBase base k → ¬ known u k) {o : Oper} {t n : Nat} {ps : Array (Nat × Operand)} (ho : o.op = .buildSlice t n ps)
    (h : match env.td t with
    | some (.slice e) => ob (partVals tmps ps.toList) fun vs => ob (litRow env e n) fun c => ob (setAll env e n vs c) fun c =>
      chk (Nat.ble (n * env.sz e) 16777216) (K ⟨some (.sw base), [(base, some ⟨.row e, c⟩)]⟩)
    | _ => False) : OpPost P env ρ Z u base H w K KP ((execOp a.eval o).run P w) := by
  cases ht : env.td t with
  | none => rw [ht] at h; exact h.elim
  | some td =>
    rw [ht] at h
    cases td <;> try exact h.elim
    rename_i e
    obtain ⟨vs, hvs, q1⟩ := ob_inv h
    obtain ⟨c, hc, q2⟩ := ob_inv q1
    obtain ⟨c', hc', q3⟩ := ob_inv q2
    obtain ⟨hle, q4⟩ := chk_inv q3
    have hle' : ¬ n * env.sz e > 2 ^ 24 := Nat.not_lt.2 (Nat.le_of_ble_eq_true hle)
    obtain ⟨xs, h1, h2, h3⟩ := partVals_rep hp hvs
    obtain ⟨d, hd, cs, g1, g2, g3, g4⟩ := row_cells_of (ρ := ρ) (Z := Z) he (litRow_rep he hc) n (Nat.le_refl _)
    rw [List.take_of_length_le (by simp [g2])] at g1
    obtain ⟨cells, f1, f2, f3, f4⟩ := fill_row (ρ := ρ) (Z := Z) he (place := fun i => some (i * env.sz e, env.sz e)) (fun _ => rfl) vs xs c c' cs hc' h1 g1
    have hu := he.und t _ ht
    simp only [UndOk] at hu
    have h2' : (ps.map fun (i, x) => (i, a.eval x)).toList = (fstN vs).zip xs := by rw [← h2]; simp
    have hrun : (execOp a.eval o).run P w = .ok (.value (.slice (some ⟨w.heap.size, 0, none⟩) n n)) (w.alloc (.cells cells e)) := by
      rcases g4 w with ⟨z1, z2⟩ | ⟨z1, y, z2, z3⟩
      · simp only [execOp, ho, Instr.buildSlice, Sem.run_bind, run_underlying' hu, Result.andThen_ok, run_sizeOf he hd, if_neg hle', if_pos z1, pure_bind, z2, h2', f1, newRow, run_newObj, Sem.run_pure]
        rfl
      · simp only [execOp, ho, Instr.buildSlice, Sem.run_bind, run_underlying' hu, Result.andThen_ok, run_sizeOf he hd, if_neg hle', if_neg z1, pure_bind, z2, z3, h2', f1, newRow, run_newObj, Sem.run_pure]
        rfl
    rw [hrun]
    refine ⟨_, q4, EffOk.made (t := e) (b := ⟨.row e, c'⟩) (len := n) (cs := cells) hp hbase rfl ⟨_, rfl, by simp⟩ rfl rfl rfl (Nat.le_refl _) (by rw [List.take_of_length_le (by simp)]; exact f2) ?_ ?_ (by simp [AVal.keys])⟩
    · intro k hk
      rcases f4 k hk with h | h
      · rw [g3] at h; cases h
      · exact h3 k h
    · exact sw_new (Nat.le_refl _) (by rw [f3, g2]; exact Nat.le_refl _)

theorem wrap_nat {n : Int} (h0 : 0 ≤ n) (h1 : n ≤ 70368744177664) : IntKind.i64.wrap n = n := by
  unfold IntKind.wrap
  simp [IntKind.signed, IntKind.bits]
  omega

theorem op_makeSlice (he : EnvOk P env) (hp : Pre env ρ Z u tmps H a w) (hbase : ∀ k, inBase base k → ¬ known u k) {o : Oper} {t : Nat} {x y : Operand} (ho : o.op = .makeSlice t x y)
    (h : match env.td t with
    | some (.slice e) => ob (opVal tmps x) fun n => ob (opVal tmps y) fun c => match n, c with
      | .int .i64 n, .int .i64 c => chk (decide (0 ≤ n)) (chk (decide (n ≤ c)) (chk (decide (c * (env.bytes e : Int) ≤ 70368744177664)) (chk (decide (c ≤ 70368744177664)) (ob (zeroRow env e n.toNat) fun r =>
        K ⟨some (.sw base), [(base, some ⟨.row e, r⟩)]⟩))))
      | _, _ => False
    | _ => False) : OpPost P env ρ Z u base H w K KP ((execOp a.eval o).run P w) := by
  cases ht : env.td t with
  | none => rw [ht] at h; exact h.elim
  | some td =>
    rw [ht] at h
    cases td <;> try exact h.elim
    rename_i e
    obtain ⟨vn, hvn, q1⟩ := ob_inv h
    obtain ⟨vc, hvc, q2⟩ := ob_inv q1
    obtain ⟨n, rfl⟩ : ∃ n : Int, vn = .int .i64 n := by
      cases vn <;> try exact q2.elim
      rename_i k _; cases k <;> first | exact ⟨_, rfl⟩ | exact q2.elim
    obtain ⟨c, rfl⟩ : ∃ c : Int, vc = .int .i64 c := by
      cases vc <;> try exact q2.elim
      rename_i k _; cases k <;> first | exact ⟨_, rfl⟩ | exact q2.elim
    obtain ⟨c1, q3⟩ := chk_inv q2
    obtain ⟨c2, q4⟩ := chk_inv q3
    obtain ⟨c3, q5⟩ := chk_inv q4
    obtain ⟨c4, q6⟩ := chk_inv q5
    obtain ⟨r, hr, q7⟩ := ob_inv q6
    replace c1 : (0 : Int) ≤ n := of_decide_eq_true c1
    replace c2 : (n : Int) ≤ c := of_decide_eq_true c2
    replace c3 : (c : Int) * (env.bytes e : Int) ≤ 70368744177664 := of_decide_eq_true c3
    replace c4 : (c : Int) ≤ 70368744177664 := of_decide_eq_true c4
    obtain ⟨h1, -⟩ := hp.opVal hvn
    obtain ⟨h2, -⟩ := hp.opVal hvc
    rw [repV_int] at h1 h2
    have h1' : a.eval x = .int .i64 n := h1
    have h2' : a.eval y = .int .i64 c := h2
    obtain ⟨d, hd, cs, g1, g2, g3, g4⟩ := row_cells (ρ := ρ) (Z := Z) he hr c.toNat (by omega)
    obtain ⟨i, i1, i2, i3, -⟩ := he.info e d hd
    have hu := he.und t _ ht
    simp only [UndOk] at hu
    have hcond : ¬ ((decide (c < 0) || decide ((env.bytes e : Int) * c > 2 ^ 48)) || decide (n < 0) || decide (n > c)) = true := by
      rw [Int.mul_comm] at c3
      simp
      omega
    have hrun : (execOp a.eval o).run P w = .ok (.value (.slice (some ⟨w.heap.size, 0, none⟩) n.toNat c.toNat)) (w.alloc (.cells cs e)) := by
      rcases g4 w with ⟨z1, z2⟩ | ⟨z1, y, z2, z3⟩
      · simp only [execOp, ho, Instr.makeSlice, h1', h2', asInt, asIntOf, pure_bind, Sem.run_bind, run_underlying' hu, Result.andThen_ok, typeInfo, run_program, i1, i3, wrap_nat c1 (by omega), wrap_nat (by omega : 0 ≤ c) c4, if_neg hcond, run_askRoom, run_sizeOf he hd, if_pos z1, z2, newRow, run_newObj, Sem.run_pure]
        rfl
      · simp only [execOp, ho, Instr.makeSlice, h1', h2', asInt, asIntOf, pure_bind, Sem.run_bind, run_underlying' hu, Result.andThen_ok, typeInfo, run_program, i1, i3, wrap_nat c1 (by omega), wrap_nat (by omega : 0 ≤ c) c4, if_neg hcond, run_askRoom, run_sizeOf he hd, if_neg z1, z2, z3, newRow, run_newObj, Sem.run_pure]
        rfl
    rw [hrun]
    refine ⟨_, q7, EffOk.made (t := e) (b := ⟨.row e, r⟩) (len := n.toNat) (cs := cs) hp hbase rfl ⟨_, rfl, by simp⟩ rfl rfl rfl (n := n.toNat * env.sz e) ?_ g1 ?_ ?_ (by simp [AVal.keys])⟩
    · rw [g2]; exact Nat.mul_le_mul_right _ (by omega)
    · intro k hk; rw [g3] at hk; cases hk
    · exact sw_new (by omega) (by rw [g2]; exact Nat.le_refl _)
end
end Go.Abs
