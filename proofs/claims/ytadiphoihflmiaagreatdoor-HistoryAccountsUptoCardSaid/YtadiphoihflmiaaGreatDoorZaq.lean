/- An environment that fits a program: checked by evaluation. -/
import Derived.Test.YtadiphoihflmiaaGreatDoorZap
set_option linter.all false
namespace Go.Abs

def natsB : List Nat → List Nat → Bool
  | [], [] => true
  | a :: az, b :: bs => andB (Nat.beq a b) (natsB az bs)
  | _, _ => false

theorem natsB_eq : ∀ {a b : List Nat}, natsB a b = true → a = b
  | [], [], _ => rfl
  | x :: a, y :: b, h => by
    cases h1 : Nat.beq x y with
    | false => simp [natsB, h1, andB] at h
    | true => simp [natsB, h1, andB] at h; rw [beq_eq h1, natsB_eq h]
  | [], _ :: _, h => by simp [natsB] at h
  | _ :: _, [], h => by simp [natsB] at h

theorem andB_iff {a b : Bool} : andB a b = true ↔ a = true ∧ b = true := by cases a <;> cases b <;> simp [andB]

/-- The fields lie one behind the other. -/
def fieldsB (env : Env) : Nat → List Field → List Nat → Bool
  | _, [], [] => true
  | off, f :: l, t :: ts => andB (Nat.beq f.type t) (andB (Nat.beq f.offset off) (fieldsB env (off + env.sz t) l ts))
  | _, _, _ => false

theorem fieldsB_spec {env : Env} : ∀ {off : Nat} {l : List Field} {ts : List Nat}, fieldsB env off l ts = true → l.map (·.type) = ts ∧ ∀ i f, l[i]? = some f → f.offset = off + sumSz env (ts.take i)
  | off, [], [], _ => ⟨rfl, fun i f h => by simp at h⟩
  | off, f :: l, t :: ts, h => by
    simp only [fieldsB, andB_iff] at h
    obtain ⟨h1, h2, h3⟩ := h
    have h1 := beq_eq h1
    have h2 := beq_eq h2
    obtain ⟨g1, g2⟩ := fieldsB_spec h3
    refine ⟨by simp [h1, g1], fun i g hg => ?_⟩
    cases i with
    | zero => simp at hg; subst hg; simp [sumSz, h2]
    | succ i => simp at hg; rw [g2 i g hg]; simp [sumSz]; omega
  | _, [], _ :: _, h => by simp [fieldsB] at h
  | _, _ :: _, [], h => by simp [fieldsB] at h

def undB (P : Program) (env : Env) (t : Nat) (d : TD) : Bool := match d, P.underlying t with
  | .bool, some .bool => true
  | .int k, some (.int k') => IntKind.same k k'
  | .str, some .string => true
  | .ptr e, some (.pointer e') => Nat.beq e e'
  | .slice e, some (.slice e') => Nat.beq e e'
  | .arr n e, some (.array n' e') => andB (Nat.beq n n') (Nat.beq e e')
  | .struct fs, some (.struct fields) => fieldsB env 0 fields.toList fs
  | .iface, some (.interface _) => true
  | .func, some (.func _ _ _) => true
  | .map k e, some (.map k' e') => andB (Nat.beq k k') (Nat.beq e e')
  | _, _ => false

theorem undB_spec {P : Program} {env : Env} {t : Nat} {d : TD} (h : undB P env t d = true) : UndOk P env t d := by
  unfold undB at h
  split at h
  · assumption
  · rename_i hu; rw [← same_eq h] at hu; exact hu
  · assumption
  · rename_i hu; rw [← beq_eq h] at hu; exact hu
  · rename_i hu; rw [← beq_eq h] at hu; exact hu
  · rename_i hu
    obtain ⟨h1, h2⟩ := andB_iff.1 h
    rw [← beq_eq h1, ← beq_eq h2] at hu; exact hu
  · rename_i fs fields hu
    obtain ⟨h1, h2⟩ := fieldsB_spec h
    exact ⟨fields, hu, h1, fun i f hf => by have := h2 i f (by simpa using hf); simpa using this⟩
  · rename_i hu; exact ⟨_, hu⟩
  · rename_i hu; exact ⟨_, _, _, hu⟩
  · rename_i hu
    obtain ⟨h1, h2⟩ := andB_iff.1 h
    rw [← beq_eq h1, ← beq_eq h2] at hu; exact hu
  · cases h

/-! ### zero values -/
def bytesB : List UInt8 → List UInt8 → Bool
  | [], [] => true
  | a :: az, b :: bs => andB (Nat.beq a.toNat b.toNat) (bytesB az bs)
  | _, _ => false

theorem bytesB_eq : ∀ {a b : List UInt8}, bytesB a b = true → a = b
  | [], [], _ => rfl
  | x :: a, y :: b, h => by
    cases h1 : Nat.beq x.toNat y.toNat with
    | false => simp [bytesB, h1, andB] at h
    | true => simp [bytesB, h1, andB] at h; rw [UInt8.toNat_inj.1 (beq_eq h1), bytesB_eq h]
  | [], _ :: _, h => by simp [bytesB] at h
  | _ :: _, [], h => by simp [bytesB] at h

def intB (a b : Int) : Bool := match a, b with
  | .ofNat m, .ofNat n => Nat.beq m n
  | .negSucc m, .negSucc n => Nat.beq m n
  | _, _ => false

theorem intB_eq {a b : Int} (h : intB a b = true) : a = b := by
  unfold intB at h
  split at h
  · rw [beq_eq h]
  · rw [beq_eq h]
  · cases h

/-- Cells that an unnamed value is laid as, taken off the head of others. -/
def intsOff (k : IntKind) : List (TT k) → List Value → Option (List Value)
  | [], cs => some cs
  | x :: l, .int k' n :: cs => match IntKind.same k k', intB (toI k x) n with
    | true, true => intsOff k l cs
    | _, _ => none
  | _, _ => none

def cell1 (v : AVal) (c : Value) : Bool := match v, c with
  | .int k x, .int k' n => andB (IntKind.same k k') (intB (toI k x) n)
  | .bool true, .bool true => true
  | .bool false, .bool false => true
  | .str s, .string s' => bytesB s s'.data.toList
  | .nilptr, .pointer none => true
  | .nilsl, .slice none 0 0 => true
  | .nilIface, .nilIface => true
  | .nilfn, .nilFunc => true
  | .nilmap, .map none => true
  | _, _ => false

def cellsOff : AVal → List Value → Option (List Value)
  | .arr k n l, cs => match Nat.beq l.length n with
    | true => intsOff k l cs
    | false => none
  | .unit, cs => some cs
  | .pair a b, cs => match cellsOff a cs with
    | some cs' => cellsOff b cs'
    | none => none
  | v, c :: cs => match cell1 v c with
    | true => some cs
    | false => none
  | _, [] => none

theorem intsOff_spec {k : IntKind} : ∀ {l : List (TT k)} {cs r : List Value}, intsOff k l cs = some r → cs = l.map (fun x => Value.int k (toI k x)) ++ r
  | [], cs, r, h => by simp [intsOff] at h; simp [h]
  | x :: l, [], r, h => by simp [intsOff] at h
  | x :: l, c :: cs, r, h => by
    cases c <;> simp [intsOff] at h
    rename_i k' n
    cases h1 : IntKind.same k k' <;> simp [h1] at h
    cases h2 : intB (toI k x) n <;> simp [h2] at h
    rw [← same_eq h1, ← intB_eq h2]
    simp [intsOff_spec h]

theorem cell1_spec {env : Env} {ρ : PMap} {Z : Zone} {v : AVal} {c : Value} (h : cell1 v c = true) : RepC env ρ Z v [c] := by
  unfold cell1 at h
  split at h
  · obtain ⟨h1, h2⟩ := andB_iff.1 h
    simp only [RepC]; rw [← same_eq h1, ← intB_eq h2]
  · simp [RepC]
  · simp [RepC]
  · rename_i s s'
    have := bytesB_eq h
    simp only [RepC]; rw [this]
  · simp [RepC]
  · simp [RepC]
  · simp [RepC]
  · simp [RepC]
  · simp [RepC]
  · cases h

theorem cellsOff_spec {env : Env} {ρ : PMap} {Z : Zone} : ∀ {v : AVal} {cs r : List Value}, cellsOff v cs = some r → ∃ c, cs = c ++ r ∧ RepC env ρ Z v c := by
  intro v
  induction v with
  | pair a b iha ihb =>
    intro cs r h
    simp only [cellsOff] at h
    cases h1 : cellsOff a cs with
    | none => simp [h1] at h
    | some cs' =>
      rw [h1] at h
      obtain ⟨c1, rfl, r1⟩ := iha h1
      obtain ⟨c2, rfl, r2⟩ := ihb h
      exact ⟨c1 ++ c2, by simp, by simp only [RepC]; exact ⟨c1, c2, rfl, r1, r2⟩⟩
  | unit => intro cs r h; simp [cellsOff] at h; exact ⟨[], by simp [h], by simp [RepC]⟩
  | arr k n l =>
    intro cs r h
    simp only [cellsOff] at h
    cases h1 : Nat.beq l.length n with
    | false => simp [h1] at h
    | true =>
      rw [h1] at h
      exact ⟨l.map fun x => Value.int k (toI k x), intsOff_spec h, by simp [RepC, beq_eq h1]⟩
  | _ =>
    intro cs r h
    cases cs with
    | nil => simp [cellsOff] at h
    | cons c cs =>
      simp only [cellsOff] at h
      split at h
      · rename_i h1
        simp at h; subst h
        exact ⟨[c], rfl, cell1_spec h1⟩
      · cases h

def zeroB (env : Env) (t : Nat) (i : TypeInfo) : Bool := match zeroV env 8 t with
  | none => true
  | some v => andB (hasTy env 8 t v) (match i.zero with
    | none => false
    | some z => match v.isAgg, z with
      | true, .agg cs => match cellsOff v cs.toList with
        | some [] => true
        | _ => false
      | true, _ => false
      | false, z => match cellsOff v [z] with
        | some [] => true
        | _ => false)

theorem zeroB_spec {env : Env} {t : Nat} {i : TypeInfo} (h : zeroB env t i = true) : (∀ v, zeroV env 8 t = some v → hasTy env 8 t v = true ∧ ∃ z, i.zero = some z ∧ ∀ ρ Z, RepV env ρ Z v z) := by
  intro v hv
  unfold zeroB at h
  rw [hv] at h
  obtain ⟨h1, h⟩ := andB_iff.1 h
  refine ⟨h1, ?_⟩
  cases hz : i.zero with
  | none => rw [hz] at h; cases h
  | some z =>
    rw [hz] at h
    refine ⟨z, rfl, fun ρ Z => ?_⟩
    unfold RepV
    cases ha : v.isAgg with
    | true =>
      rw [ha] at h
      cases z <;> simp at h
      rename_i cs
      cases hc : cellsOff v cs.toList with
      | none => simp [hc] at h
      | some r =>
        cases r <;> simp [hc] at h
        obtain ⟨c, e, hr⟩ := cellsOff_spec (env := env) (ρ := ρ) (Z := Z) hc
        simp at e
        exact ⟨cs, rfl, e ▸ hr⟩
    | false =>
      rw [ha] at h
      simp only at h
      cases hc : cellsOff v [z] with
      | none => simp [hc] at h
      | some r =>
        cases r <;> simp [hc] at h
        obtain ⟨c, e, hr⟩ := cellsOff_spec (env := env) (ρ := ρ) (Z := Z) hc
        simp at e
        exact e ▸ hr

/-! ### all of a type -/
def someB (env : Env) (t : Nat) : Bool := match env.td t with
  | some _ => true
  | none => false

theorem someB_spec {env : Env} {t : Nat} (h : someB env t = true) : ∃ d, env.td t = some d := by
  unfold someB at h
  cases hd : env.td t with
  | none => simp [hd] at h
  | some d => exact ⟨d, rfl⟩

def allSomeB (env : Env) : List Nat → Bool
  | [] => true
  | t :: ts => andB (someB env t) (allSomeB env ts)

theorem allSomeB_spec {env : Env} : ∀ {ts : List Nat}, allSomeB env ts = true → ∀ i u, nth ts i = some u → ∃ d, env.td u = some d
  | [], _, i, u, h => by simp [nth] at h
  | t :: ts, hh, i, u, h => by
    obtain ⟨h1, h2⟩ := andB_iff.1 hh
    cases i with
    | zero => simp [nth] at h; subst h; exact someB_spec h1
    | succ i => simp [nth] at h; exact allSomeB_spec h2 i u h

def cloB (env : Env) : TD → Bool
  | .arr _ e => someB env e
  | .slice e => someB env e
  | .struct fs => allSomeB env fs
  | .map k e => andB (someB env k) (someB env e)
  | _ => true

theorem cloB_spec {env : Env} {d : TD} (h : cloB env d = true) : CloOk env d := by
  cases d with
  | arr n e => exact someB_spec h
  | slice e => exact someB_spec h
  | struct fs => exact allSomeB_spec h
  | map k e => obtain ⟨h1, h2⟩ := andB_iff.1 h; exact ⟨someB_spec h1, someB_spec h2⟩
  | _ => trivial

def notB (b : Bool) : Bool := match b with
  | true => false
  | false => true

def namesB : List Field → Bool
  | [] => true
  | f :: l => andB (notB (f.name == "_")) (namesB l)

theorem namesB_spec : ∀ {l : List Field}, namesB l = true → ∀ (i : Nat) (f : Field), l[i]? = some f → f.name ≠ "_"
  | [], _, i, f, h => by simp at h
  | g :: l, hh, i, f, h => by
    obtain ⟨h1, h2⟩ := andB_iff.1 hh
    cases i with
    | zero =>
      simp at h; subst h
      intro e
      rw [e] at h1
      simp [notB] at h1
    | succ i => simp at h; exact namesB_spec h2 i f h

/-- May values of a type be held against each other? -/
def eqTB (P : Program) (t : Nat) : Bool := andB (notB (P.eqGuardType P.depth t)) (match P.underlying t with
  | some (.struct fields) => andB (notB (P.stoodInHeld t)) (namesB fields.toList)
  | _ => true)

def cmpB (d : TD) (b : Bool) : Bool := match d with
  | .int _ => b
  | .ptr _ => b
  | _ => true

def envB (P : Program) (env : Env) (t : Nat) : Bool := match env.td t with
  | none => notB (env.eq t)
  | some d => match P.info? t with
    | none => false
    | some i => andB (undB P env t d) (andB (Nat.beq i.size (env.sz t)) (andB (Nat.beq i.bytes (env.bytes t)) (andB (Nat.beq (env.sz t) (szOf env d)) (andB (cloB env d) (andB (zeroB env t i)
      (andB (cmpB d i.comparable) (match env.eq t with
        | true => eqTB P t
        | false => true)))))))

def allB (f : Nat → Bool) : Nat → Bool
  | 0 => true
  | n + 1 => match f n with
    | true => allB f n
    | false => false

theorem allB_spec {f : Nat → Bool} : ∀ {n : Nat}, allB f n = true → ∀ t, t < n → f t = true
  | 0, _, t, h => by omega
  | n + 1, hh, t, h => by
    simp only [allB] at hh
    cases hn : f n with
    | false => simp [hn] at hh
    | true =>
      rw [hn] at hh
      by_cases ht : t = n
      · subst ht; exact hn
      · exact allB_spec hh t (by omega)

theorem notB_iff {b : Bool} : notB b = true ↔ b = false := by cases b <;> simp [notB]

/-- What is checked of an environment by evaluation. -/
structure EnvBase (P : Program) (env : Env) : Prop where
  chk : ∀ t, envB P env t = true
  ng : env.ng = P.globals.size
  gty : ∀ id t v, env.gv id = some (t, v) → hasTy env 8 t v = true
  impl : ∀ u t r, env.impl u t = some r → ∀ s x w, (Instr.typeAssert (.iface u x) s t true).run P w = .ok (.tuple #[if r = true then .iface u x else .nilIface, .bool r]) w
  meth : ∀ t n f, env.meth t n = some f → ∀ x w, (method (P.types.size + Made.depth) t x n).run P w = .ok (f, x) w

theorem envB_some {P : Program} {env : Env} {t : Nat} {d : TD} (h : envB P env t = true) (hd : env.td t = some d) : ∃ i, P.info? t = some i ∧ undB P env t d = true ∧ i.size = env.sz t ∧ i.bytes = env.bytes t ∧ env.sz t = szOf env d ∧ cloB env d = true ∧ zeroB env t i = true ∧
    cmpB d i.comparable = true ∧ (env.eq t = true → eqTB P t = true) := by
  unfold envB at h
  rw [hd] at h
  cases hi : P.info? t with
  | none => rw [hi] at h; cases h
  | some i =>
    rw [hi] at h
    simp only [andB_iff] at h
    obtain ⟨h1, h2, h3, h4, h5, h6, h7, h8⟩ := h
    exact ⟨i, rfl, h1, beq_eq h2, beq_eq h3, beq_eq h4, h5, h6, h7, fun he => by rw [he] at h8; exact h8⟩

theorem envB_eq {P : Program} {env : Env} {t : Nat} (h : envB P env t = true) (he : env.eq t = true) : eqTB P t = true := by
  cases hd : env.td t with
  | none => unfold envB at h; rw [hd] at h; simp [he, notB] at h
  | some d =>
    obtain ⟨i, _, _, _, _, _, _, _, _, g⟩ := envB_some h hd
    exact g he

theorem EnvBase.ok {P : Program} {env : Env} (h : EnvBase P env) (hcod : ∀ t c, env.codec t = some c → CodOk env t c) (hkey : ∀ t c f, env.codec t = some c → c.eq = some f → KeyOk P env t c f) : EnvOk P env := by
  refine ⟨fun t d hd => ?_, fun t d hd => ?_, fun t d hd => ?_, fun t d hd => ?_, fun t v hv => ?_, hcod, fun t ht => ?_, fun t fs fields ht hd hu => ?_, fun t k hd => ?_, fun t k hd _ => ?_, hkey, h.ng, h.impl, h.gty, h.meth⟩
  · obtain ⟨i, g0, g1, _⟩ := envB_some (h.chk t) hd; exact undB_spec g1
  · obtain ⟨i, g0, g1, g2, g3, g4, g5, g6, g7, g8⟩ := envB_some (h.chk t) hd
    exact ⟨i, g0, g2, g3, fun v hv => (zeroB_spec g6 v hv).2⟩
  · obtain ⟨i, g0, g1, g2, g3, g4, _⟩ := envB_some (h.chk t) hd; exact g4
  · obtain ⟨i, g0, g1, g2, g3, g4, g5, _⟩ := envB_some (h.chk t) hd; exact cloB_spec g5
  · cases hd : env.td t with
    | none => simp [zeroV, hd] at hv
    | some d =>
      obtain ⟨i, g0, g1, g2, g3, g4, g5, g6, _⟩ := envB_some (h.chk t) hd
      exact (zeroB_spec g6 v hv).1
  · have := envB_eq (h.chk t) ht
    exact notB_iff.1 (andB_iff.1 this).1
  · have := (andB_iff.1 (envB_eq (h.chk t) ht)).2
    rw [hu] at this
    obtain ⟨g1, g2⟩ := andB_iff.1 this
    exact ⟨notB_iff.1 g1, fun i f hf => namesB_spec g2 i f (by simpa using hf)⟩
  · obtain ⟨i, g0, g1, g2, g3, g4, g5, g6, g7, g8⟩ := envB_some (h.chk t) hd
    rw [g0]; simpa [cmpB] using g7
  · obtain ⟨i, g0, g1, g2, g3, g4, g5, g6, g7, g8⟩ := envB_some (h.chk t) hd
    rw [g0]; simpa [cmpB] using g7

/-! ### tables -/
inductive BT (α : Type) where
  | leaf
  | node (l : BT α) (v : Option α) (r : BT α)

def BT.get {α : Type} : BT α → Nat → Option α
  | .leaf, _ => none
  | .node l v r, n => match Nat.beq n 0 with
    | true => v
    | false => match Nat.beq (Nat.mod n 2) 1 with
      | true => l.get (Nat.div n 2)
      | false => r.get (Nat.div (Nat.sub n 2) 2)

def headE {α : Type} : Option α → List (Nat × α)
  | some x => [(0, x)]
  | none => []

def BT.entries {α : Type} : BT α → List (Nat × α)
  | .leaf => []
  | .node l v r => headE v ++ (l.entries.map (fun p => (2 * p.1 + 1, p.2)) ++ r.entries.map fun p => (2 * p.1 + 2, p.2))

theorem BT.get_mem {α : Type} : ∀ {t : BT α} {n : Nat} {v : α}, t.get n = some v → (n, v) ∈ t.entries
  | .leaf, n, v, h => by simp [BT.get] at h
  | .node l x r, n, v, h => by
    simp only [BT.get] at h
    simp only [BT.entries, List.mem_append, List.mem_map]
    cases h0 : Nat.beq n 0 with
    | true =>
      rw [h0] at h
      have := beq_eq h0; subst this
      simp only at h
      subst h
      exact .inl (by simp [headE])
    | false =>
      have hne := Nat.ne_of_beq_eq_false h0
      rw [h0] at h
      simp only at h
      cases h1 : Nat.beq (Nat.mod n 2) 1 with
      | true =>
        rw [h1] at h
        have h1 : n % 2 = 1 := beq_eq h1
        exact .inr (.inl ⟨_, BT.get_mem h, by
          have e : Nat.div n 2 = n / 2 := rfl
          simp only [e, Prod.mk.injEq, and_true]; omega⟩)
      | false =>
        rw [h1] at h
        have h1 : n % 2 ≠ 1 := Nat.ne_of_beq_eq_false h1
        exact .inr (.inr ⟨_, BT.get_mem h, by
          have e : Nat.div (Nat.sub n 2) 2 = (n - 2) / 2 := rfl
          simp only [e, Prod.mk.injEq, and_true]; omega⟩)

def keysBelow {α : Type} (n : Nat) : List (Nat × α) → Bool
  | [] => true
  | p :: ps => andB (Nat.blt p.1 n) (keysBelow n ps)

theorem keysBelow_spec {α : Type} {n : Nat} : ∀ {l : List (Nat × α)}, keysBelow n l = true → ∀ p, p ∈ l → p.1 < n
  | [], _, p, h => by cases h
  | q :: l, hh, p, h => by
    obtain ⟨h1, h2⟩ := andB_iff.1 hh
    rw [List.mem_cons] at h
    rcases h with rfl | h
    · simpa [Nat.blt_eq] using h1
    · exact keysBelow_spec h2 p h

structure TI where
  td : TD
  sz : Nat
  bytes : Nat
  eq : Bool

def bodyOf (fn : Func) : Code := match fn.body with
  | some c => c
  | none => .skip

def hasBodyB (fn : Func) : Bool := match fn.body with
  | some _ => andB (notB (fn.name == "runtime.NumGoroutine")) true
  | none => false

def allE {α : Type} (f : α → Bool) : List (Nat × α) → Bool
  | [] => true
  | p :: ps => andB (f p.2) (allE f ps)

theorem allE_spec {α : Type} {f : α → Bool} : ∀ {l : List (Nat × α)}, allE f l = true → ∀ p, p ∈ l → f p.2 = true
  | [], _, p, h => by cases h
  | q :: l, hh, p, h => by
    obtain ⟨h1, h2⟩ := andB_iff.1 hh
    rw [List.mem_cons] at h
    rcases h with rfl | h
    · exact h1
    · exact allE_spec h2 p h

theorem call_run {P : Program} {f : Nat} {fn : Func} (hf : P.funcs[f]? = some fn) (hb : hasBodyB fn = true) : fn.body = some (bodyOf fn) ∧ ∀ args w, (callFunc f args).run P w = .ok (.enter f args) w := by
  unfold hasBodyB at hb
  unfold bodyOf
  cases hc : fn.body with
  | none => rw [hc] at hb; cases hb
  | some c =>
    rw [hc] at hb
    have hn := notB_iff.1 (andB_iff.1 hb).1
    have hn' : fn.name ≠ "runtime.NumGoroutine" := by simpa using hn
    exact ⟨rfl, fun args w => by simp [callFunc, hf, hc, hn']⟩

/-- A table of functions fits the program. -/
theorem fns_of {P : Program} {t : BT Func} (h1 : t.entries.map (fun p => P.funcs[p.1]?) = t.entries.map fun p => some p.2) (h2 : allE hasBodyB t.entries = true) {f : Nat} {fn : Func} (h : t.get f = some fn) :
    P.funcs[f]? = some fn ∧ fn.body = some (bodyOf fn) ∧ ∀ args w, (callFunc f args).run P w = .ok (.enter f args) w := by
  have hm := BT.get_mem h
  have hf : P.funcs[f]? = some fn := List.map_inj_left.1 h1 _ hm
  have := allE_spec h2 _ hm
  obtain ⟨g1, g2⟩ := call_run hf this
  exact ⟨hf, g1, g2⟩

/-- An environment out of a table of types. -/
theorem chk_of {P : Program} {env : Env} {t : BT TI} (htd : ∀ n, env.td n = (t.get n).map (·.td)) (heq : ∀ n, env.eq n = ((t.get n).map (·.eq)).getD false) {N : Nat} (h1 : keysBelow N t.entries = true) (h2 : allB (envB P env) N = true) : ∀ n, envB P env n = true := fun n => by
  by_cases hn : n < N
  · exact allB_spec h2 n hn
  · have hg : t.get n = none := by
      cases hg : t.get n with
      | none => rfl
      | some v => exact absurd (keysBelow_spec h1 _ (BT.get_mem hg)) hn
    have e1 : env.td n = none := by rw [htd, hg]; rfl
    have e2 : env.eq n = false := by rw [heq, hg]; rfl
    unfold envB
    rw [e1, e2]; rfl
end Go.Abs
