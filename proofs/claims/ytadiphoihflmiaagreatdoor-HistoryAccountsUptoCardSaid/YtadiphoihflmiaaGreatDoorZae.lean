/- Operations: what the model does where the evaluator does something. Words, operands, variables. Operations: moves, variables. -/
import Derived.Test.YtadiphoihflmiaaGreatDoorZad
import Derived.Laws.Cells
import Derived.Laws.Slices
import Derived.Laws.Append
set_option linter.all false
namespace Go.Abs

def known (u : Nat → Bool) (k : Nat) : Prop := k < 256 ∨ u (256 * (k / 256)) = true
def inBase (base k : Nat) : Prop := base ≤ k ∧ k < base + 256

/-- What holds ahead of an operation. -/
structure Pre (env : Env) (ρ : PMap) (Z : Zone) (u : Nat → Bool) (tmps : List (Option AVal)) (H : Heap) (a : Act) (w : World) : Prop where
  size : a.tmps.size = tmps.length
  tmps : ∀ t v, getL tmps t = some v → RepV env ρ Z v (a.tmps.getD t undef) ∧ ∀ k, k ∈ v.keys → known u k
  heap : HeapOk env ρ Z w H
  keysH : ∀ k b, H k = some b → known u k ∧ ∀ k', k' ∈ b.c.keys → known u k'

/-- What holds behind it. -/
structure EffAt (env : Env) (ρ : PMap) (Z : Zone) (u : Nat → Bool) (base : Nat) (H : Heap) (w : World) (e : Eff) (x : Value) (w' : World) (ρ' : PMap) : Prop where
  val : ∀ v, e.val = some v → RepV env ρ' Z v x ∧ ∀ k, k ∈ v.keys → known u k ∨ inBase base k
  heap : HeapOk env ρ' Z w' (updL H e.upd)
  old : ∀ k, known u k → ρ' k = ρ k
  keysU : ∀ k b, (k, some b) ∈ e.upd → (known u k ∨ inBase base k) ∧ ∀ k', k' ∈ b.c.keys → known u k' ∨ inBase base k'
  keep : Keeps (inReg ρ H) w w'
  reg : ∀ k b, updL H e.upd k = some b → ∀ i, (ρ' k).lo ≤ i → i < (ρ' k).hi → w.heap.size ≤ (ρ' k).block ∨ inReg ρ H (ρ' k).block i
  dom : ∀ k b, (k, b) ∈ e.upd → H k ≠ none ∨ inBase base k

def EffOk (env : Env) (ρ : PMap) (Z : Zone) (u : Nat → Bool) (base : Nat) (H : Heap) (w : World) (e : Eff) (x : Value) (w' : World) : Prop := ∃ Z' ρ', Grow (inReg ρ H) w Z Z' ∧ EffAt env ρ Z' u base H w e x w' ρ'

/-- What an operation comes to, in the model: an effect that the rest was shown for. -/
def OpPost (P : Program) (env : Env) (ρ : PMap) (Z : Zone) (u : Nat → Bool) (base : Nat) (H : Heap) (w : World) (K : Eff → Prop) (KP : AVal → List (Nat × Option Blk) → Prop) : Result Next → Prop
  | .ok (.value x) w' => ∃ e, K e ∧ EffOk env ρ Z u base H w e x w'
  | .ok .skip w' => ∃ e, K e ∧ EffOk env ρ Z u base H w e undef w'
  | .ok (.enter f args) w1 => Calls P f args w1 fun en w' => (∃ e x, en = .returned x ∧ K e ∧ EffOk env ρ Z u base H w e x w') ∨
      ∃ v x us, en = .panicked [{ v := x, recovered := false }] ∧ KP v us ∧ EffOk env ρ Z u base H w ⟨some v, us⟩ x w'
  | _ => False

theorem RepV.lift {env : Env} {ρ ρ' : PMap} {Z : Zone} {u : Nat → Bool} {v : AVal} {x : Value} (h : RepV env ρ Z v x) (hk : ∀ k, k ∈ v.keys → known u k) (ho : ∀ k, known u k → ρ' k = ρ k) : RepV env ρ' Z v x :=
  h.congr fun k hm => ho k (hk k hm)

/-- A value, the memory as it is. -/
theorem EffOk.same {env : Env} {ρ : PMap} {Z : Zone} {u : Nat → Bool} {base : Nat} {H : Heap} {w : World} {v : AVal} {x : Value} (hh : HeapOk env ρ Z w H) (h : RepV env ρ Z v x) (hk : ∀ k, k ∈ v.keys → known u k) :
    EffOk env ρ Z u base H w ⟨some v, []⟩ x w :=
  ⟨Z, ρ, Grow.refl _ _ _, fun v' e => by cases e; exact ⟨h, fun k hm => .inl (hk k hm)⟩, hh, fun _ _ => rfl, fun k b hm => by simp at hm, Keeps.refl _ _, fun k b hb i h1 h2 => .inr ⟨k, b, hb, rfl, h1, h2⟩, fun k b hm => by simp at hm⟩

theorem updL_single (H : Heap) (k : Nat) (b : Option Blk) : updL H [(k, b)] = upd1 H k b := rfl

/-- A new block of the model's, for a new key. -/
theorem EffOk.fresh {env : Env} {ρ : PMap} {Z : Zone} {u : Nat → Bool} {tmps : List (Option AVal)} {base : Nat} {H : Heap} {a : Act} {w w' : World} {v : AVal} {x : Value} {b : Blk} {pl : Place}
    (hp : Pre env ρ Z u tmps H a w) (hbase : ∀ k, inBase base k → ¬ known u k) (hkeep : Keeps (inReg ρ H) w w') (hheap : HeapOk env ρ Z w' H) (hblk : w.heap.size ≤ pl.block)
    (hb : BlkOk env (ρ.put base pl) Z w' pl b) (hkb : ∀ k, k ∈ b.c.keys → known u k) (hz : ∀ i, Z pl.block i = none)
    (hv : RepV env (ρ.put base pl) Z v x) (hkv : ∀ k, k ∈ v.keys → known u k ∨ k = base) :
    EffOk env ρ Z u base H w ⟨some v, [(base, some b)]⟩ x w' := by
  have hb0 : inBase base base := ⟨Nat.le_refl _, by omega⟩
  have hnk := hbase base hb0
  have hH : H base = none := by
    cases hh : H base with
    | none => rfl
    | some b' => exact absurd (hp.keysH base b' hh).1 hnk
  refine ⟨Z, ρ.put base pl, Grow.refl _ _ _, ?_, ?_, ?_, ?_, hkeep, ?_, ?_⟩
  · intro v' e; cases e
    exact ⟨hv, fun k hm => by rcases hkv k hm with h | rfl; exact .inl h; exact .inr hb0⟩
  · rw [updL_single]
    refine hheap.put hH (fun j y hj hm => hnk ((hp.keysH j y hj).2 base hm)) hb (fun j y hj i e => ?_) fun i _ _ => hz i
    have := (hp.heap.blk j y hj).there
    omega
  · intro k hk
    exact PMap.put_other _ _ (by rintro rfl; exact hnk hk)
  · intro k b' hm
    simp at hm
    obtain ⟨rfl, rfl⟩ := hm
    exact ⟨.inr hb0, fun k' hk' => .inl (hkb k' hk')⟩
  · intro k b' hk i h1 h2
    rw [updL_single] at hk
    rcases upd1_inv hk with ⟨rfl, _⟩ | ⟨hj, e⟩
    · rw [PMap.put_same]; exact .inl hblk
    · rw [PMap.put_other _ _ hj] at h1 h2 ⊢; exact .inr ⟨k, b', e, rfl, h1, h2⟩
  · intro k b' hm
    simp at hm
    exact .inr (hm.1 ▸ hb0)

/-- Cells of a block are turned. -/
theorem EffOk.turn {env : Env} {ρ : PMap} {Z : Zone} {u : Nat → Bool} {tmps : List (Option AVal)} {base key : Nat} {H : Heap} {a : Act} {w w' : World} {ov : Option AVal} {x : Value} {b b' : Blk}
    (hp : Pre env ρ Z u tmps H a w) (hk : H key = some b) (hkeep : Keeps (fun y i => y = (ρ key).block ∧ (ρ key).lo ≤ i ∧ i < (ρ key).hi) w w')
    (hb : BlkOk env ρ Z w' (ρ key) b') (hkb : ∀ k, k ∈ b'.c.keys → known u k) (hv : ∀ v, ov = some v → RepV env ρ Z v x ∧ ∀ k, k ∈ v.keys → known u k) :
    EffOk env ρ Z u base H w ⟨ov, [(key, some b')]⟩ x w' := by
  refine ⟨Z, ρ, Grow.refl _ _ _, fun v e => ⟨(hv v e).1, fun k hm => .inl ((hv v e).2 k hm)⟩, ?_, fun _ _ => rfl, ?_, ?_, ?_, ?_⟩
  · rw [updL_single]; exact hp.heap.turn hk hkeep hb
  · intro k y hm
    simp at hm
    obtain ⟨rfl, rfl⟩ := hm
    exact ⟨.inl (hp.keysH _ _ hk).1, fun k' hk' => .inl (hkb k' hk')⟩
  · exact hkeep.mono fun y i _ ⟨e, h1, h2⟩ => ⟨key, b, hk, e.symm, h1, h2⟩
  · intro k y hy i h1 h2
    rw [updL_single] at hy
    rcases upd1_inv hy with ⟨rfl, _⟩ | ⟨hj, e⟩
    · exact .inr ⟨k, b, hk, rfl, h1, h2⟩
    · exact .inr ⟨k, y, e, rfl, h1, h2⟩
  · intro k y hm
    simp at hm
    exact .inl (by rw [hm.1, hk]; simp)

/-! ### operands -/
theorem getL_lt {l : List (Option AVal)} {t : Nat} {v : AVal} (h : getL l t = some v) : t < l.length := by
  induction l generalizing t with
  | nil => simp [getL] at h
  | cons x xs ih =>
    cases t with
    | zero => simp
    | succ t => simp [getL] at h; have := ih h; simp; omega

theorem absConst_rep {env : Env} {ρ : PMap} {Z : Zone} {x : Value} {v : AVal} (h : absConst x = some v) : RepV env ρ Z v x ∧ v.keys = [] := by
  unfold absConst at h
  split at h
  · cases h; exact ⟨by simp [RepV, AVal.isAgg, RepC], rfl⟩
  · rename_i k n
    split at h
    · rename_i hn
      cases h
      have := eq_of_beq hn
      exact ⟨by simp [RepV, AVal.isAgg, RepC, this], rfl⟩
    · cases h
  · cases h; exact ⟨by simp [RepV, AVal.isAgg, RepC], rfl⟩
  · cases h; exact ⟨by simp [RepV, AVal.isAgg, RepC], rfl⟩
  · cases h; exact ⟨by simp [RepV, AVal.isAgg, RepC], rfl⟩
  · cases h; exact ⟨by simp [RepV, AVal.isAgg, RepC], rfl⟩
  · cases h; exact ⟨by simp [RepV, AVal.isAgg, RepC], rfl⟩
  · cases h; exact ⟨by simp [RepV, AVal.isAgg, RepC], rfl⟩
  · cases h

theorem Pre.opVal {env : Env} {ρ : PMap} {Z : Zone} {u : Nat → Bool} {tmps : List (Option AVal)} {H : Heap} {a : Act} {w : World} (hp : Pre env ρ Z u tmps H a w) {x : Operand} {v : AVal} (h : opVal tmps x = some v) :
    RepV env ρ Z v (a.eval x) ∧ ∀ k, k ∈ v.keys → known u k := by
  cases x with
  | tmp t => exact hp.tmps t v h
  | const c => obtain ⟨h1, h2⟩ := absConst_rep (env := env) (ρ := ρ) (Z := Z) h; exact ⟨h1, fun k hk => by rw [h2] at hk; cases hk⟩
  | global g =>
    simp only [Go.Abs.opVal] at h
    cases hg : Nat.blt g 1000 with
    | false => simp [hg] at h
    | true =>
      simp [hg] at h; subst h
      have : g < 1000 := by simpa [Nat.blt_eq] using hg
      exact ⟨by simp [RepV, AVal.isAgg, RepC, Act.eval, hp.heap.gok.glob g this], fun k hk => by simp [AVal.keys] at hk⟩
  | func f =>
    simp [Go.Abs.opVal] at h; subst h
    exact ⟨by simp [RepV, AVal.isAgg, RepC, RepA, Act.eval], fun k hk => by simp [AVal.keys] at hk⟩

theorem Pre.opVals {env : Env} {ρ : PMap} {Z : Zone} {u : Nat → Bool} {tmps : List (Option AVal)} {H : Heap} {a : Act} {w : World} (hp : Pre env ρ Z u tmps H a w) : ∀ {xs : List Operand} {vs : List AVal}, opVals tmps xs = some vs →
    RepVs env ρ Z vs (xs.map a.eval) ∧ ∀ k, k ∈ keysL vs → known u k
  | [], vs, h => by simp [Go.Abs.opVals] at h; subst h; simp [RepVs, keysL]
  | x :: xs, vs, h => by
    simp only [Go.Abs.opVals] at h
    cases hx : Go.Abs.opVal tmps x with
    | none => simp [hx] at h
    | some v =>
      cases hxs : Go.Abs.opVals tmps xs with
      | none => simp [hx, hxs] at h
      | some us =>
        simp [hx, hxs] at h; subst h
        obtain ⟨h1, h2⟩ := hp.opVal hx
        obtain ⟨h3, h4⟩ := hp.opVals hxs
        exact ⟨⟨_, _, rfl, h1, h3⟩, fun k hk => by simp [keysL] at hk; exact hk.elim (h2 k) (h4 k)⟩

/-! ### small laws of ob, chk, br -/
theorem ob_inv {α : Type 1} {x : Option α} {k : α → Prop} (h : ob x k) : ∃ a, x = some a ∧ k a := by
  cases x with
  | none => exact h.elim
  | some a => exact ⟨a, rfl, h⟩
theorem ob0_inv {α : Type} {x : Option α} {k : α → Prop} (h : ob0 x k) : ∃ a, x = some a ∧ k a := by
  cases x with
  | none => exact h.elim
  | some a => exact ⟨a, rfl, h⟩
theorem chk_inv {b : Bool} {p : Prop} (h : chk b p) : b = true ∧ p := by
  cases b with
  | false => exact h.elim
  | true => exact ⟨rfl, h⟩
theorem br_inv {b : Bool} {p q : Prop} (h : br b p q) : (b = true ∧ p) ∨ (b = false ∧ q) := by
  cases b with
  | false => exact .inr ⟨rfl, h⟩
  | true => exact .inl ⟨rfl, h⟩

/-! ### a variable is read, written -/
theorem add_addr (b o j : Nat) : (⟨b, o, none⟩ : Addr).add j = ⟨b, o + j, none⟩ := by
  unfold Addr.add; split <;> simp_all

def TD.agg : TD → Bool
  | .arr _ _ => true
  | .struct _ => true
  | _ => false

theorem hasL_agg {h : Nat → AVal → Bool} {fs : List Nat} {v : AVal} (hl : hasL h fs v = true) : v.isAgg = true := by
  cases fs <;> cases v <;> simp [hasL] at hl <;> rfl

theorem HT.td {env : Env} {t : Nat} {v : AVal} (h : HT env t v) : ∃ d, env.td t = some d ∧ v.isAgg = d.agg := by
  obtain ⟨n, h⟩ := h
  cases n with
  | zero => simp [hasTy] at h
  | succ n =>
    unfold hasTy at h
    cases htd : env.td t with
    | none => simp [htd] at h
    | some td =>
      refine ⟨td, rfl, ?_⟩
      cases td with
      | struct fs => exact hasL_agg (h := hasTy env n) (fs := fs) (by simpa [htd] using h)
      | arr m e =>
        simp only [htd] at h
        cases hte : env.td e with
        | none => simp [hte] at h
        | some te =>
          cases te with
          | int k => cases v <;> simp [hte] at h <;> rfl
          | _ => simp only [hte] at h; exact hasL_agg h
      | _ => cases v <;> simp [htd] at h <;> rfl

theorem run_underlying' {P : Program} {t : TypeId} {d : TypeDesc} (h : P.underlying t = some d) (w : World) : (underlying t).run P w = .ok d w := by
  simp [underlying, h]

theorem run_isAgg {P : Program} {env : Env} (he : EnvOk P env) {t : Nat} {d : TD} (h : env.td t = some d) (w : World) : (isAgg t).run P w = .ok d.agg w := by
  have hu := he.und t d h
  unfold isAgg
  cases d with
  | struct fs => obtain ⟨_, hu, _⟩ := hu; simp [run_underlying' hu, TD.agg]
  | func => obtain ⟨_, _, _, hu⟩ := hu; simp [run_underlying' hu, TD.agg]
  | iface => obtain ⟨_, hu⟩ := hu; simp [run_underlying' hu, TD.agg]
  | _ => simp only [UndOk] at hu; simp [run_underlying' hu, TD.agg]

theorem run_sizeOf {P : Program} {env : Env} (he : EnvOk P env) {t : Nat} {d : TD} (h : env.td t = some d) (w : World) : (sizeOf t).run P w = .ok (env.sz t) w := by
  obtain ⟨i, h1, h2, _⟩ := he.info t d h
  simp [sizeOf, typeInfo, h1, h2]

theorem run_loadVar {P : Program} {env : Env} (he : EnvOk P env) {ρ : PMap} {Z : Zone} {t : Nat} {v : AVal} {cs : List Value} {b o : Nat} {w : World} (ht : HT env t v) (hr : RepC env ρ Z v cs)
    (hc : ∀ i c, cs[i]? = some c → w.cell? ⟨b, o + i, none⟩ = some c) : ∃ x, (loadVar t ⟨b, o, none⟩).run P w = .ok x w ∧ RepV env ρ Z v x := by
  obtain ⟨d, htd, hag⟩ := ht.td
  have hlen := ht.len he.size hr
  unfold loadVar
  cases hd : d.agg with
  | true =>
    refine ⟨.agg cs.toArray, ?_, ?_⟩
    · have := run_loadCells_list (P := P) (w := w) ⟨b, o, none⟩ cs fun j c hj => by rw [add_addr]; exact hc j c hj
      simp [run_isAgg he htd, hd, run_sizeOf he htd, ← hlen, this]
    · unfold RepV; rw [hag, hd]; exact ⟨cs.toArray, rfl, by simpa using hr⟩
  | false =>
    have h1 : env.sz t = 1 := by
      rw [he.size t d htd]; cases d <;> simp [TD.agg] at hd <;> rfl
    match cs, (by omega : cs.length = 1) with
    | [c], _ =>
      refine ⟨c, ?_, ?_⟩
      · have := hc 0 c rfl
        simp at this
        simp [run_isAgg he htd, hd, this]
      · unfold RepV; rw [hag, hd]; exact hr

/-! ### a value is stored cell by cell -/
def AVal.flat : AVal → Bool
  | .pair a b => flat a && flat b
  | .tnil => false
  | .tcons _ _ => false
  | .raw x => isSlV x
  | _ => true

theorem flat_cells {env : Env} {ρ : PMap} {Z : Zone} : ∀ {v : AVal} {cs : List Value}, v.flat = true → RepC env ρ Z v cs → ∀ c, c ∈ cs → c.oneCell' = true := by
  intro v
  induction v with
  | pair a b iha ihb =>
    intro cs hf hr c hc
    simp [AVal.flat] at hf
    simp only [RepC] at hr
    obtain ⟨c1, c2, rfl, h1, h2⟩ := hr
    simp at hc
    exact hc.elim (iha hf.1 h1 c) (ihb hf.2 h2 c)
  | tnil => intro cs hf; simp [AVal.flat] at hf
  | tcons => intro cs hf; simp [AVal.flat] at hf
  | raw x =>
    intro cs hf hr c hc
    simp only [RepC] at hr
    subst hr
    simp at hc
    subst hc
    simp only [AVal.flat] at hf
    cases c <;> first | rfl | cases hf
  | unit => intro cs _ hr c hc; simp only [RepC] at hr; subst hr; cases hc
  | arr k n l =>
    intro cs _ hr c hc
    simp only [RepC] at hr
    obtain ⟨_, rfl⟩ := hr
    simp at hc
    obtain ⟨x, _, rfl⟩ := hc
    rfl
  | _ =>
    intro cs _ hr c hc
    simp only [RepC] at hr
    first
      | (subst hr; simp at hc; subst hc; rfl)
      | (obtain ⟨_, rfl⟩ := hr; simp at hc; subst hc; rfl)
      | (obtain ⟨_, _, rfl, _⟩ := hr; simp at hc; subst hc; rfl)
      | (obtain ⟨_, _, _, _, rfl, _⟩ := hr; simp at hc; subst hc; rfl)
      | (obtain ⟨_, _, _, rfl, _⟩ := hr; simp at hc; subst hc; rfl)
      | (obtain ⟨_, rfl, _⟩ := hr; simp at hc; subst hc; rfl)

theorem hasL_flat {h : Nat → AVal → Bool} (hh : ∀ t v, h t v = true → v.flat = true) : ∀ {fs : List Nat} {v : AVal}, hasL h fs v = true → v.flat = true := by
  intro fs
  induction fs with
  | nil => intro v hl; cases v <;> simp [hasL] at hl; rfl
  | cons t ts ih =>
    intro v hl
    cases v <;> simp [hasL] at hl
    rename_i a b
    cases hb : h t a <;> simp [hb] at hl
    simp [AVal.flat, hh _ _ hb, ih hl]

theorem hasTy_flat {env : Env} : ∀ (d t : Nat) (v : AVal), hasTy env d t v = true → v.flat = true := by
  intro d
  induction d with
  | zero => intro t v h; simp [hasTy] at h
  | succ d ih =>
    intro t v h
    unfold hasTy at h
    cases htd : env.td t with
    | none => simp [htd] at h
    | some td =>
      cases td with
      | struct fs => exact hasL_flat ih (fs := fs) (by simpa [htd] using h)
      | arr m e =>
        simp only [htd] at h
        cases hte : env.td e with
        | none => simp [hte] at h
        | some te =>
          cases te with
          | int k => cases v <;> simp [hte] at h <;> rfl
          | _ => simp only [hte] at h; exact hasL_flat ih h
      | _ => cases v <;> simp [htd] at h <;> first | rfl | exact h

theorem HT.flat {env : Env} {t : Nat} {v : AVal} (h : HT env t v) : v.flat = true := let ⟨d, h⟩ := h; hasTy_flat d t v h

theorem RepV.cells {env : Env} {ρ : PMap} {Z : Zone} {t : Nat} {v : AVal} {x : Value} (ht : HT env t v) (h : RepV env ρ Z v x) : RepC env ρ Z v x.cells.toList := by
  unfold RepV at h
  cases hag : v.isAgg with
  | true => rw [hag] at h; obtain ⟨az, rfl, h⟩ := h; exact h
  | false =>
    rw [hag] at h
    have h1 := flat_cells ht.flat h x (by simp)
    cases x <;> first | exact h | (simp [Value.oneCell'] at h1)

theorem run_storeVar {P : Program} {env : Env} (he : EnvOk P env) {ρ : PMap} {Z : Zone} {t : Nat} {v : AVal} {x : Value} {b o : Nat} {w : World} (ht : HT env t v) (hr : RepV env ρ Z v x)
    (hc : ∀ i, i < x.cells.size → (w.cell? ⟨b, o + i, none⟩).isSome = true ∧ w.frozen? ⟨b, o + i, none⟩ = false) :
    (storeVar t ⟨b, o, none⟩ x).run P w = .ok () (w.setCells b o x.cells.toList) := by
  obtain ⟨d, htd, hag⟩ := ht.td
  have hcl := hr.cells ht
  have hlen := ht.len he.size hcl
  unfold storeVar
  have hs : x.cells.size = env.sz t := by simpa using hlen
  have := run_storeCells_cells (P := P) b o x.cells.toList 0 w (fun j hj => by simpa using (hc j (by simpa using hj)).1) (fun j hj => by simpa using (hc j (by simpa using hj)).2) (fun c hc => flat_cells ht.flat hcl c hc)
  simp [run_sizeOf he htd, hs, this]
end Go.Abs

namespace Go.Abs

theorem zone_fresh {env : Env} {ρ : PMap} {Z : Zone} {w : World} {H : Heap} (h : HeapOk env ρ Z w H) {b i : Nat} (hb : w.heap.size ≤ b) : Z b i = none := by
  cases hz : Z b i with
  | none => rfl
  | some v =>
    have := World.block_lt_of_cell? (w := w) (a := ⟨b, i, none⟩) (h.zone b i v hz)
    simp at this; omega

theorem Root.notMap {env : Env} {r : Root} {p : List Step} {t : Nat} (h : r.type env p = some t) : r.isMap = false := by
  cases r <;> simp [Root.type] at h <;> rfl

theorem RepB.notMap {env : Env} {ρ : PMap} {Z : Zone} {b : Blk} {cs : List Value} {n : Nat} (h : RepB env ρ Z b cs n) : b.root.isMap = false := by
  obtain ⟨root, c⟩ := b
  cases root <;> first | rfl | (simp only [RepB] at h)

theorem alloc_cell (w : World) (cs : Array Value) (t : TypeId) (i : Nat) : (w.alloc (.cells cs t)).cell? ⟨w.heap.size, i, none⟩ = cs[i]? := by simp
theorem alloc_frozen (w : World) (cs : Array Value) (t : TypeId) (i : Nat) : (w.alloc (.cells cs t)).frozen? ⟨w.heap.size, i, none⟩ = false := by
  simp [World.frozen?_alloc_new]

/-- Memory as before, and some more blocks behind it. -/
theorem HeapOk.later {env : Env} {ρ : PMap} {Z : Zone} {w w' : World} {H : Heap} (h : HeapOk env ρ Z w H) (hk : Keeps (fun _ _ => False) w w') : HeapOk env ρ Z w' H :=
  ⟨fun k b hb => (h.blk k b hb).keeps hk (fun _ _ _ h => h), h.dis, h.zdis, fun b o v hz => hk.cell (h.zone b o v hz) (fun h => h), Nat.lt_of_lt_of_le h.pos hk.size, h.gok.keeps hk⟩

section
variable {P : Program} {env : Env} {C : Tab} {ρ : PMap} {Z : Zone} {u : Nat → Bool} {base : Nat} {tmps : List (Option AVal)} {H : Heap} {a : Act} {w : World} {K : Eff → Prop} {KP : AVal → List (Nat × Option Blk) → Prop}

/-- A new block of cells is made, and named by the new key. -/
theorem EffOk.made (hp : Pre env ρ Z u tmps H a w) (hbase : ∀ k, inBase base k → ¬ known u k) {cs : Array Value} {t : TypeId} {b : Blk} {len : Nat} {w' : World} {v : AVal} {x : Value} {o : Obj}
    (hw : w'.heap = w.heap.push o) (ho : ∃ fr, o = .cells cs t fr ∧ ∀ i, i < cs.size → ¬ (fr.1 ≤ i ∧ i < fr.2)) (hos : w'.os = w.os) (htp : w'.tape = w.tape) (hout : w'.output = w.output)
    {n : Nat} (hn : n ≤ cs.size) (hb : RepB env ρ Z b (cs.toList.take n) len) (hkb : ∀ k, k ∈ b.c.keys → known u k)
    (hv : RepV env (ρ.put base ⟨w.heap.size, 0, cs.size, b.root, len⟩) Z v x) (hkv : ∀ k, k ∈ v.keys → known u k ∨ k = base) :
    EffOk env ρ Z u base H w ⟨some v, [(base, some b)]⟩ x w' := by
  obtain ⟨fr, rfl, hfr⟩ := ho
  have hkeep : ∀ R, Keeps R w w' := fun R => by
    refine ⟨hos, htp, hout, by rw [hw]; simp, fun k o ho => ⟨o, ?_, ObjKeeps.refl _ _⟩⟩
    have hk : k < w.heap.size := (Array.getElem?_eq_some_iff.1 ho).1
    rw [hw, Array.getElem?_push, if_neg (by omega)]; exact ho
  have hcell : ∀ i, w'.cell? ⟨w.heap.size, i, none⟩ = cs[i]? := fun i => by unfold World.cell?; simp [hw]
  have hfrz : ∀ i, i < cs.size → w'.frozen? ⟨w.heap.size, i, none⟩ = false := fun i hi => by
    have h1 := hfr i hi
    unfold World.frozen?
    obtain ⟨f1, f2⟩ := fr
    simp [hw]
    simp at h1
    omega
  have hnk : ¬ known u base := hbase base ⟨Nat.le_refl _, by omega⟩
  refine EffOk.fresh (pl := ⟨w.heap.size, 0, cs.size, b.root, len⟩) hp hbase (hkeep _) (hp.heap.later (hkeep _)) (Nat.le_refl _) ?_ hkb (fun i => zone_fresh hp.heap (Nat.le_refl _)) hv hkv
  refine ⟨rfl, fun _ => ⟨_, hb.congr fun k hk => PMap.put_other _ _ (by rintro rfl; exact hnk (hkb k hk)), ?_, ?_⟩, fun _ => ?_, ?_, fun hm => by rw [hb.notMap] at hm; cases hm⟩
  · intro i c hc
    simp only [Nat.zero_add]
    rw [hcell, ← hc, List.getElem?_take]
    have := (List.getElem?_eq_some_iff.1 hc).1
    simp at this
    rw [if_pos (by omega)]; simp
  · simp; omega
  · intro i _ hi
    simp only at hi
    exact ⟨by rw [hcell]; simp [hi], hfrz i hi⟩
  · simp [hw]

theorem op_move (hp : Pre env ρ Z u tmps H a w) {o : Oper} {x : Operand} (ho : o.op = .move x ∨ o.op = .assign x) (h : ob (opVal tmps x) (K1 K)) :
    OpPost P env ρ Z u base H w K KP ((execOp a.eval o).run P w) := by
  obtain ⟨v, hv, hk⟩ := ob_inv h
  obtain ⟨h1, h2⟩ := hp.opVal hv
  rcases ho with ho | ho <;> simp only [execOp, ho, Sem.run_pure, OpPost] <;> exact ⟨_, hk, .same hp.heap h1 h2⟩

theorem op_pick (hp : Pre env ρ Z u tmps H a w) {o : Oper} {c x y : Operand} (ho : o.op = .pick c x y)
    (h : ob (opVal tmps c) fun c => match c with
      | .bool t => br t (ob (opVal tmps x) (K1 K)) (ob (opVal tmps y) (K1 K))
      | _ => False) : OpPost P env ρ Z u base H w K KP ((execOp a.eval o).run P w) := by
  obtain ⟨v, hv, hk⟩ := ob_inv h
  cases v <;> try exact hk.elim
  rename_i t
  obtain ⟨h1, _⟩ := hp.opVal hv
  have hc : a.eval c = .bool t := by simpa [RepV, AVal.isAgg, RepC] using h1
  rcases br_inv hk with ⟨rfl, hk⟩ | ⟨rfl, hk⟩
  all_goals
    obtain ⟨v, hv, hk⟩ := ob_inv hk
    obtain ⟨h1, h2⟩ := hp.opVal hv
    simp only [execOp, ho, hc, asBool, pure_bind, Bool.false_eq_true, if_true, if_false, Sem.run_bind, Sem.run_pure, Result.andThen_ok, OpPost]
    exact ⟨_, hk, .same hp.heap h1 h2⟩

theorem ptr_new (pl : Place) {t : Nat} (hr : pl.root = .var t) (hlo : pl.lo = 0) : RepV env (ρ.put base pl) Z (.ptr base []) (.pointer (some ⟨pl.block, 0, none⟩)) := by
  simp [RepV, AVal.isAgg, RepC, PMap.put_same, validR, hr, validP, Root.off, offP, hlo]

theorem op_box (he : EnvOk P env) (hp : Pre env ρ Z u tmps H a w) (hbase : ∀ k, inBase base k → ¬ known u k) {o : Oper} {t : Nat} {x : Operand} (ho : o.op = .box t x)
    (h : ob (opVal tmps x) fun v => chk (hasTy env 8 t v) (K ⟨some (.ptr base []), [(base, some ⟨.var t, .var v⟩)]⟩)) : OpPost P env ρ Z u base H w K KP ((execOp a.eval o).run P w) := by
  obtain ⟨v, hv, hk⟩ := ob_inv h
  obtain ⟨ht, hk⟩ := chk_inv hk
  obtain ⟨h1, h2⟩ := hp.opVal hv
  have hcl := h1.cells ⟨8, ht⟩
  simp only [execOp, ho, Instr.box, newVar, newRow, Sem.run_bind, Sem.run_pure, Result.andThen_ok, run_newObj, OpPost]
  refine ⟨_, hk, EffOk.made (t := t) (b := ⟨.var t, .var v⟩) (len := 0) (cs := (a.eval x).cells) hp hbase rfl ⟨_, rfl, by simp⟩ rfl rfl rfl (Nat.le_refl _) ?_ h2 (ptr_new _ rfl rfl) (by simp [AVal.keys])⟩
  simp only [RepB]
  exact ⟨⟨8, ht⟩, by rw [List.take_of_length_le (by simp)]; exact hcl⟩

theorem RepEl_ofList {e n : Nat} {v v' : AVal} (ht : HT env e v') (hle : AVal.Le v v') : ∀ {cs : List Value}, RepC env ρ Z (AVal.ofList (List.replicate n v)) cs → RepEl env ρ Z e (List.replicate n v') cs := by
  induction n with
  | zero => intro cs h; simpa [AVal.ofList, RepC, RepEl] using h
  | succ n ih =>
    intro cs h
    simp only [List.replicate_succ, AVal.ofList, RepC] at h
    obtain ⟨c1, c2, rfl, h1, h2⟩ := h
    exact ⟨c1, c2, rfl, ht, hle.rep h1, ih h2⟩

theorem zeroL_keys {z : Nat → Option AVal} (hz : ∀ t v, z t = some v → v.keys = []) : ∀ {ts : List Nat} {v : AVal}, zeroL z ts = some v → v.keys = [] := by
  intro ts
  induction ts with
  | nil => intro v h; simp [zeroL] at h; subst h; rfl
  | cons t ts ih =>
    intro v h
    cases h1 : z t with
    | none => simp [zeroL, h1] at h
    | some x =>
      cases h2 : zeroL z ts with
      | none => simp [zeroL, h1, h2] at h
      | some y =>
        simp [zeroL, h1, h2] at h; subst h
        simp [AVal.keys, hz _ _ h1, ih h2]

theorem zeroV_keys (env : Env) : ∀ (d t : Nat) (v : AVal), zeroV env d t = some v → v.keys = [] := by
  intro d
  induction d with
  | zero => intro t v h; simp [zeroV] at h
  | succ d ih =>
    intro t v h
    unfold zeroV at h
    cases htd : env.td t with
    | none => simp [htd] at h
    | some td =>
      cases td with
      | struct fs => simp only [htd] at h; exact zeroL_keys ih h
      | arr n e =>
        simp only [htd] at h
        split at h
        · cases h; rfl
        · exact zeroL_keys ih h
      | _ => simp [htd] at h; subst h; rfl

theorem zeroL_mono {z z' : Nat → Option AVal} (h : ∀ t v, z t = some v → z' t = some v) : ∀ (ts : List Nat) (v : AVal), zeroL z ts = some v → zeroL z' ts = some v
  | [], v, hv => by simpa [zeroL] using hv
  | t :: ts, v, hv => by
    simp only [zeroL] at hv ⊢
    cases h1 : z t with
    | none => simp [h1] at hv
    | some x =>
      cases h2 : zeroL z ts with
      | none => simp [h1, h2] at hv
      | some xs => simp [h1, h2] at hv; simp [h t x h1, zeroL_mono h ts xs h2, hv]

theorem zeroV_succ (env : Env) : ∀ (d t : Nat) (v : AVal), zeroV env d t = some v → zeroV env (d + 1) t = some v := by
  intro d
  induction d with
  | zero => intro t v h; simp [zeroV] at h
  | succ d ih =>
    intro t v h
    rw [zeroV] at h ⊢
    cases htd : env.td t with
    | none => simp [htd] at h
    | some td =>
      cases td with
      | struct fs => simp only [htd] at h ⊢; exact zeroL_mono ih _ _ h
      | arr n e =>
        simp only [htd] at h ⊢
        cases hte : env.td e with
        | none => simp only [hte] at h ⊢; exact zeroL_mono ih _ _ h
        | some te =>
          cases te with
          | int k => simpa [hte] using h
          | _ => simp only [hte] at h ⊢; exact zeroL_mono ih _ _ h
      | _ => simpa [htd] using h

theorem zeroL_replicate {z : Nat → Option AVal} {t : Nat} {x : AVal} (hx : ∀ y, z t = some y → y = x) : ∀ (n : Nat) (v : AVal), zeroL z (List.replicate n t) = some v → v = AVal.ofList (List.replicate n x)
  | 0, v, h => by simp [zeroL] at h; simp [AVal.ofList, h]
  | n + 1, v, h => by
    simp only [List.replicate_succ, zeroL] at h
    cases h1 : z t with
    | none => simp [h1] at h
    | some y =>
      cases h2 : zeroL z (List.replicate n t) with
      | none => simp [h1, h2] at h
      | some ys =>
        simp [h1, h2] at h
        rw [← h, hx y h1, zeroL_replicate hx n ys h2]; rfl

theorem zeroVar_rep (he : EnvOk P env) {t : Nat} {c : Cont} (h : zeroVar env t = some c) : ∃ i z, P.info? t = some i ∧ i.zero = some z ∧ (∀ ρ Z, RepB env ρ Z ⟨.var t, c⟩ z.cells.toList 0) ∧ c.keys = [] := by
  unfold zeroVar at h
  cases hz : zeroV env 8 t with
  | none => simp [hz] at h
  | some v =>
    have ht := he.zty t v hz
    obtain ⟨d, htd, _⟩ := HT.td ⟨8, ht⟩
    obtain ⟨i, h1, _, _, h4⟩ := he.info t d htd
    obtain ⟨z, hzz, hr⟩ := h4 v hz
    have hrc : ∀ ρ Z, RepC env ρ Z v z.cells.toList := fun ρ Z => (hr ρ Z).cells ⟨8, ht⟩
    have var : c = .var v → ∃ i z, P.info? t = some i ∧ i.zero = some z ∧ (∀ ρ Z, RepB env ρ Z ⟨.var t, c⟩ z.cells.toList 0) ∧ c.keys = [] := fun e => by
      subst e
      exact ⟨i, z, h1, hzz, fun ρ Z => ⟨⟨8, ht⟩, hrc ρ Z⟩, zeroV_keys env 8 t v hz⟩
    cases d with
    | arr n e =>
      simp only [hz, htd] at h
      have rec' : ∀ cd, env.codec e = some cd → (∀ k, env.td e ≠ some (.int k)) → c = .recs cd (List.replicate n cd.dflt) → ∃ i z, P.info? t = some i ∧ i.zero = some z ∧ (∀ ρ Z, RepB env ρ Z ⟨.var t, c⟩ z.cells.toList 0) ∧ c.keys = [] := fun cd hc hni e1 => by
        have hco := he.cod e cd hc
        obtain ⟨z0, hz0, hle⟩ := hco.zero
        have hv : v = AVal.ofList (List.replicate n z0) := by
          have hz' := hz
          rw [zeroV] at hz'
          simp only [htd] at hz'
          have hz2 : zeroL (zeroV env 7) (List.replicate n e) = some v := by
            cases hte : env.td e with
            | none => simpa [hte] using hz'
            | some te =>
              cases te with
              | int k => exact absurd hte (hni k)
              | _ => simpa [hte] using hz'
          refine zeroL_replicate (fun y hy => ?_) n v hz2
          have := zeroV_succ env 7 e y hy
          rw [hz0] at this
          exact (Option.some.inj this).symm
        subst e1
        refine ⟨i, z, h1, hzz, fun ρ Z => ⟨n, e, htd, by simp [Cont.elems], ?_, hco.dec, hco.keys, hco.vt⟩, rfl⟩
        have := hrc ρ Z
        rw [hv] at this
        simpa [Cont.elems] using RepEl_ofList ⟨8, hco.ty⟩ hle this
      cases hte : env.td e with
      | none =>
        cases hc : env.codec e with
        | none => simp [hte, hc] at h; exact var h.symm
        | some cd => simp [hte, hc] at h; exact rec' cd hc (by simp [hte]) h.symm
      | some te =>
        cases hc : env.codec e with
        | none => cases te <;> simp [hte, hc] at h <;> exact var h.symm
        | some cd => cases te <;> simp [hte, hc] at h <;> first | exact var h.symm | exact rec' cd hc (by simp [hte]) h.symm
    | _ => simp [hz, htd] at h; exact var h.symm

theorem op_alloc (he : EnvOk P env) (hp : Pre env ρ Z u tmps H a w) (hbase : ∀ k, inBase base k → ¬ known u k) {o : Oper} {t : Nat} (ho : o.op = .alloc t)
    (h : ob (zeroVar env t) fun c => K ⟨some (.ptr base []), [(base, some ⟨.var t, c⟩)]⟩) : OpPost P env ρ Z u base H w K KP ((execOp a.eval o).run P w) := by
  obtain ⟨c, hc, hk⟩ := ob_inv h
  obtain ⟨i, z, h1, h2, h3, h4⟩ := zeroVar_rep he hc
  simp only [execOp, ho, Instr.alloc, zeroValue, typeInfo, h1, h2, newVar, newRow, Sem.run_bind, Sem.run_pure, Result.andThen_ok, run_newObj, run_program, OpPost]
  refine ⟨_, hk, EffOk.made (t := t) (b := ⟨.var t, c⟩) (len := 0) (cs := z.cells) hp hbase rfl ⟨_, rfl, by simp⟩ rfl rfl rfl (Nat.le_refl _) ?_ (by simp [h4]) (ptr_new _ rfl rfl) (by simp [AVal.keys])⟩
  rw [List.take_of_length_le (by simp)]; exact h3 _ _

/-! ### load, store -/
theorem ptr_inv {key : Nat} {p : List Step} {x : Value} (h : RepV env ρ Z (.ptr key p) x) : validR env (ρ key) p ∧ x = .pointer (some ⟨(ρ key).block, (ρ key).lo + (ρ key).root.off env p, none⟩) := by
  simpa [RepV, AVal.isAgg, RepC] using h

theorem getP_keys : ∀ {p : List Step} {v x : AVal}, AVal.getP p v = some x → ∀ k, k ∈ x.keys → k ∈ v.keys := by
  have gF : ∀ {v x : AVal} {i : Nat}, v.getF i = some x → ∀ k, k ∈ x.keys → k ∈ v.keys := by
    intro v
    induction v with
    | pair a b iha ihb =>
      intro x i h k hk
      cases i with
      | zero => simp [AVal.getF] at h; subst h; simp [AVal.keys, hk]
      | succ i => simp [AVal.getF] at h; simp [AVal.keys, ihb h k hk]
    | _ => intro x i h; cases i <;> simp [AVal.getF] at h
  intro p
  induction p with
  | nil => intro v x h k hk; simp [AVal.getP] at h; subst h; exact hk
  | cons s p ih =>
    intro v x h k hk
    cases s with
    | f i =>
      cases hf : v.getF i with
      | none => simp [AVal.getP, hf] at h
      | some y => simp [AVal.getP, hf] at h; exact gF hf k (ih h k hk)
    | i n =>
      by_cases harr : ∃ k n l, v = .arr k n l
      · obtain ⟨kd, m, l, rfl⟩ := harr
        cases p <;> simp [AVal.getP] at h
        subst h; simp [AVal.keys] at hk
      · rw [getP_i (fun k n l e => harr ⟨k, n, l, e⟩)] at h
        cases hf : v.getF n with
        | none => simp [hf] at h
        | some y => simp [hf] at h; exact gF hf k (ih h k hk)

theorem setF_keys : ∀ {v x v' : AVal} {i : Nat}, v.setF i x = some v' → ∀ k, k ∈ v'.keys → k ∈ v.keys ∨ k ∈ x.keys := by
  intro v
  induction v with
  | pair a b iha ihb =>
    intro x v' i h k hk
    cases i with
    | zero =>
      simp [AVal.setF] at h; subst h; simp [AVal.keys] at hk ⊢
      exact hk.elim .inr fun h => .inl (.inr h)
    | succ i =>
      cases hs : b.setF i x with
      | none => simp [AVal.setF, hs] at h
      | some b' =>
        simp [AVal.setF, hs] at h; subst h; simp [AVal.keys] at hk ⊢
        rcases hk with hk | hk
        · exact .inl (.inl hk)
        · exact (ihb hs k hk).imp .inr id
  | _ => intro x v' i h; cases i <;> simp [AVal.setF] at h

theorem setP_keys : ∀ {p : List Step} {v x v' : AVal}, AVal.setP p v x = some v' → ∀ k, k ∈ v'.keys → k ∈ v.keys ∨ k ∈ x.keys := by
  intro p
  induction p with
  | nil => intro v x v' h k hk; simp [AVal.setP] at h; subst h; exact .inr hk
  | cons s p ih =>
    intro v x v' h k hk
    have part : ∀ {y y' : AVal} {i : Nat}, v.getF i = some y → AVal.setP p y x = some y' → v.setF i y' = some v' → k ∈ v.keys ∨ k ∈ x.keys := fun {y y' i} h1 h2 h3 => by
      rcases setF_keys h3 k hk with h | h
      · exact .inl h
      · rcases ih h2 k h with h | h
        · exact .inl (getP_keys (p := [.f i]) (x := y) (by simp [AVal.getP, h1]) k h)
        · exact .inr h
    cases s with
    | f i =>
      cases hf : v.getF i with
      | none => simp [AVal.setP, hf] at h
      | some y =>
        cases hs : AVal.setP p y x with
        | none => simp [AVal.setP, hf, hs] at h
        | some y' => simp [AVal.setP, hf, hs] at h; exact part hf hs h
    | i n =>
      by_cases harr : ∃ k n l, v = .arr k n l
      · obtain ⟨kd, m, l, rfl⟩ := harr
        cases p with
        | cons s p => simp [AVal.setP] at h
        | nil =>
          cases x <;> simp [AVal.setP] at h
          split at h
          · cases h; simp [AVal.keys] at hk
          · cases h
      · rw [setP_i (fun k n l e => harr ⟨k, n, l, e⟩)] at h
        cases hf : v.getF n with
        | none => simp [hf] at h
        | some y =>
          cases hs : AVal.setP p y x with
          | none => simp [hf, hs] at h
          | some y' => simp [hf, hs] at h; exact part hf hs h

theorem Cont.set_keys {c c' : Cont} (hg : c.good) {p : List Step} {x : AVal} (h : c.set p x = some c') : ∀ k, k ∈ c'.keys → k ∈ c.keys ∨ k ∈ x.keys := by
  intro k hk
  cases c with
  | var v =>
    cases hs : AVal.setP p v x with
    | none => simp [Cont.set, hs] at h
    | some v' => simp [Cont.set, hs] at h; subst h; exact setP_keys hs k hk
  | ints kd l =>
    cases p with
    | nil => simp [Cont.set] at h
    | cons s p =>
      cases s with
      | f i => simp [Cont.set] at h
      | i n =>
        cases p <;> cases x <;> simp [Cont.set] at h
        split at h
        · cases h; simp [Cont.keys] at hk
        · cases h
  | recs c l =>
    cases p with
    | nil => simp [Cont.set] at h
    | cons s p =>
      cases s with
      | f i => simp [Cont.set] at h
      | i n =>
        simp only [Cont.set] at h
        split at h
        · split at h
          · cases h; simp [Cont.keys] at hk
          · cases h
        · cases h
  | vals l =>
    cases p with
    | nil => simp [Cont.set] at h
    | cons s p =>
      cases s with
      | f i => simp [Cont.set] at h
      | i n =>
        cases hn : nthV l n with
        | none => simp [Cont.set, hn] at h
        | some v =>
          cases hs : AVal.setP p v x with
          | none => simp [Cont.set, hn, hs] at h
          | some v' =>
            cases hv : setV l n v' with
            | none => simp [Cont.set, hn, hs, hv] at h
            | some l' =>
              simp [Cont.set, hn, hs, hv] at h
              subst h
              rw [nthV_eq] at hn
              simp only [Cont.keys, keysL_map, setV_eq hv] at hk ⊢
              obtain ⟨y, hy, hky⟩ := hk
              rcases List.mem_or_eq_of_mem_set hy with hy | rfl
              · exact .inl ⟨y, hy, hky⟩
              · rcases setP_keys hs k hky with h | h
                · exact .inl ⟨v, List.mem_of_getElem? hn, h⟩
                · exact .inr h
  | map | mapv => simp [Cont.set] at h

theorem Cont.get_keys {c : Cont} (hg : c.good) {p : List Step} {x : AVal} (h : c.get p = some x) : ∀ k, k ∈ x.keys → k ∈ c.keys := by
  intro k hk
  cases c with
  | var v => simp [Cont.get] at h; exact getP_keys h k hk
  | ints kd l =>
    cases p with
    | nil => simp [Cont.get] at h
    | cons s p =>
      cases s with
      | f i => simp [Cont.get] at h
      | i n => cases p <;> simp [Cont.get] at h; subst h; simp [AVal.keys] at hk
  | recs c l =>
    cases p with
    | nil => simp [Cont.get] at h
    | cons s p =>
      cases s with
      | f i => simp [Cont.get] at h
      | i n =>
        simp [Cont.get] at h
        have := getP_keys h k hk
        rw [hg.2.1] at this; cases this
  | vals l =>
    cases p with
    | nil => simp [Cont.get] at h
    | cons s p =>
      cases s with
      | f i => simp [Cont.get] at h
      | i n =>
        cases hn : nthV l n with
        | none => simp [Cont.get, hn] at h
        | some v =>
          simp [Cont.get, hn] at h
          rw [nthV_eq] at hn
          exact (keysL_map l k).2 ⟨v, List.mem_of_getElem? hn, getP_keys h k hk⟩
  | map | mapv => simp [Cont.get] at h

theorem RepB.good {b : Blk} {cs : List Value} {n : Nat} (h : RepB env ρ Z b cs n) : b.c.good := by
  obtain ⟨root, c⟩ := b
  cases root <;> cases c <;> simp only [RepB] at h <;> first | trivial | (obtain ⟨_, _, _, _, _, h⟩ := h; exact h) | (obtain ⟨_, _, _, h⟩ := h; exact h)

/-- What a part of a block reads as. -/
theorem load_blk (he : EnvOk P env) (hp : Pre env ρ Z u tmps H a w) {key t : Nat} {p : List Step} {b : Blk} {v : AVal} (hb : H key = some b) (ht : b.root.type env p = some t) (hg : b.c.get p = some v) (hv : validR env (ρ key) p) :
    ∃ x, (loadVar t ⟨(ρ key).block, (ρ key).lo + (ρ key).root.off env p, none⟩).run P w = .ok x w ∧ RepV env ρ Z v x ∧ HT env t v ∧ ∀ k, k ∈ v.keys → known u k := by
  have hB := hp.heap.blk key b hb
  obtain ⟨cs, h1, h2, h3⟩ := hB.cells (Root.notMap ht)
  obtain ⟨c1, c2, c3, rfl, e1, hr, hty⟩ := Blk.get_rep he.size h1 hB.root ht hv hg
  obtain ⟨x, hx, hrx⟩ := run_loadVar (P := P) (w := w) (b := (ρ key).block) (o := (ρ key).lo + (ρ key).root.off env p) he hty hr (fun i c hc => by
    rw [Nat.add_assoc]
    refine h2 _ c ?_
    have hi := (List.getElem?_eq_some_iff.1 hc).1
    rw [hB.root, ← e1, List.append_assoc, List.getElem?_append_right (by omega), Nat.add_sub_cancel_left, List.getElem?_append_left hi]
    exact hc)
  exact ⟨x, hx, hrx, hty, fun k hk => (hp.keysH key b hb).2 k (Cont.get_keys h1.good hg k hk)⟩

theorem beq_eq {a b : Nat} (h : Nat.beq a b = true) : a = b := Nat.eq_of_beq_eq_true h

theorem op_store (he : EnvOk P env) (hp : Pre env ρ Z u tmps H a w) {o : Oper} {t : Nat} {x y : Operand} (ho : o.op = .store t x y)
    (h : ob (opVal tmps x) fun a => ob (opVal tmps y) fun v => storeA env H t a v K) : OpPost P env ρ Z u base H w K KP ((execOp a.eval o).run P w) := by
  obtain ⟨va, hva, q1⟩ := ob_inv h
  obtain ⟨v, hv, q2⟩ := ob_inv q1
  unfold storeA at q2
  obtain ⟨key, p, rfl⟩ : ∃ key p, va = .ptr key p := by cases va <;> first | exact ⟨_, _, rfl⟩ | exact q2.elim
  obtain ⟨b, hb, q3⟩ := ob_inv q2
  obtain ⟨t', ht', q4⟩ := ob0_inv q3
  obtain ⟨e, q5⟩ := chk_inv q4
  obtain rfl := beq_eq e
  obtain ⟨hty, q6⟩ := chk_inv q5
  obtain ⟨c', hc', q7⟩ := ob_inv q6
  obtain ⟨h1, h2⟩ := hp.opVal hva
  obtain ⟨h3, h4⟩ := hp.opVal hv
  obtain ⟨hvr, hx⟩ := ptr_inv h1
  have hB := hp.heap.blk key b hb
  have hnm := Root.notMap ht'
  obtain ⟨cs, g1, g2, g3⟩ := hB.cells hnm
  have hxr := h3.cells ⟨8, hty⟩
  obtain ⟨c1, c2, c3, rfl, e1, e2, hrb⟩ := Blk.set_rep he.size g1 hB.root ht' hvr hc' ⟨8, hty⟩ hxr
  have hlen : (a.eval y).cells.size = c2.length := by simpa using e2.symm
  have hin : ∀ i, i < (a.eval y).cells.size → (ρ key).lo ≤ (ρ key).lo + (ρ key).root.off env p + i ∧ (ρ key).lo + (ρ key).root.off env p + i < (ρ key).hi := fun i hi => by
    simp at g3
    rw [hB.root]
    omega
  have hst := run_storeVar (P := P) (w := w) (b := (ρ key).block) (o := (ρ key).lo + (ρ key).root.off env p) he ⟨8, hty⟩ h3 (fun i hi => hB.own hnm _ (hin i hi).1 (hin i hi).2)
  simp only [execOp, ho, hx, Instr.storeAt, Instr.sureAddr, pure_bind, Sem.run_bind, hst, Result.andThen_ok, Sem.run_pure, OpPost]
  have hkeep : Keeps (fun y i => y = (ρ key).block ∧ (ρ key).lo ≤ i ∧ i < (ρ key).hi) w (w.setCells (ρ key).block ((ρ key).lo + (ρ key).root.off env p) (a.eval y).cells.toList) :=
    Keeps.setCells _ _ _ _ fun j h1 h2 => ⟨rfl, by omega, by have := hin (j - ((ρ key).lo + (ρ key).root.off env p)) (by simp at h2; omega); omega⟩
  refine ⟨_, q7, EffOk.turn hp hb hkeep ⟨hB.root, fun _ => ⟨_, hrb, ?_, ?_⟩, fun _ => ?_, ?_, fun hm => by rw [hnm] at hm; cases hm⟩ ?_ (fun v e => by cases e)⟩
  · intro i c hc
    have hsome : ∀ j, j < (a.eval y).cells.toList.length → (w.cell? ⟨(ρ key).block, (ρ key).lo + (ρ key).root.off env p + j, none⟩).isSome = true := fun j hj =>
      (hB.own hnm _ (hin j (by simpa using hj)).1 (hin j (by simpa using hj)).2).1
    by_cases hi1 : i < c1.length
    · rw [World.cell?_setCells_out _ _ _ _ _ (fun _ _ => .inl (by simp only; rw [hB.root]; omega))]
      refine g2 i c ?_
      rw [List.append_assoc, List.getElem?_append_left hi1] at hc ⊢
      exact hc
    · by_cases hi2 : i < c1.length + (a.eval y).cells.size
      · obtain ⟨j, rfl⟩ : ∃ j, i = c1.length + j := ⟨i - c1.length, by omega⟩
        have hj : j < (a.eval y).cells.toList.length := by simp; omega
        rw [List.append_assoc, List.getElem?_append_right (by omega), Nat.add_sub_cancel_left, List.getElem?_append_left hj] at hc
        rw [show (ρ key).lo + (c1.length + j) = (ρ key).lo + (ρ key).root.off env p + j by rw [hB.root]; omega]
        rw [World.cell?_setCells_in _ _ _ _ hsome j hj]
        rw [List.getElem?_eq_getElem hj] at hc; exact hc
      · rw [World.cell?_setCells_out _ _ _ _ _ (fun _ _ => .inr (by simp only [Array.length_toList]; rw [hB.root]; omega))]
        refine g2 i c ?_
        rw [List.getElem?_append_right (by simp; omega)] at hc ⊢
        · rw [← hc]; congr 1; simp; omega
  · simp at g3 ⊢; omega
  · intro i hi1 hi2
    have := hB.own hnm i hi1 hi2
    exact ⟨hkeep.cellSome this.1, by rw [World.frozen?_setCells]; exact this.2⟩
  · exact Nat.lt_of_lt_of_le hB.there hkeep.size
  · intro k hk
    rcases Cont.set_keys g1.good hc' k hk with h | h
    · exact (hp.keysH key b hb).2 k h
    · exact h4 k h
end
end Go.Abs
