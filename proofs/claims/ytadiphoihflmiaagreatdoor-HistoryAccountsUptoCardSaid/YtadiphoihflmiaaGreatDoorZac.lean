/- The abstract evaluator's numbers are the model's. What a value of the evaluator stands for in the model's memory. Types, parts at a path. -/
import Derived.Test.YtadiphoihflmiaaGreatDoorZab
set_option linter.all false
namespace Go.Abs

theorem toI_ofI (k : IntKind) (n : Int) : toI k (ofI k n) = k.wrap n := by
  cases k <;> simp only [toI, ofI, IntKind.wrap, IntKind.signed, IntKind.bits] <;> simp <;> omega

theorem same_eq {k k' : IntKind} (h : IntKind.same k k' = true) : k = k' := by
  cases k <;> cases k' <;> first | rfl | (simp [IntKind.same] at h)

theorem castT_some {k k' : IntKind} {x : TT k'} {y : TT k} (h : castT k k' x = some y) : ∃ e : k' = k, y = e ▸ x := by
  cases k <;> cases k' <;> simp [castT] at h <;> exact ⟨rfl, h.symm⟩

theorem castL_some {k k' : IntKind} {x : List (TT k')} {y : List (TT k)} (h : castL k k' x = some y) : ∃ e : k' = k, y = e ▸ x := by
  cases k <;> cases k' <;> simp [castL] at h <;> exact ⟨rfl, h.symm⟩

/-- The numbers that a kind bears. -/
def inR (k : IntKind) (n : Int) : Prop := match k.signed with
  | true => True
  | false => 0 ≤ n ∧ n < 2 ^ k.bits

theorem toI_inR (k : IntKind) (x : TT k) : inR k (toI k x) := by
  cases k <;> simp [inR, IntKind.signed, toI, IntKind.bits]
  · exact UInt8.toNat_lt x |> fun h => by omega
  · exact UInt16.toNat_lt x |> fun h => by omega
  · exact UInt32.toNat_lt x |> fun h => by omega
  · exact UInt64.toNat_lt x |> fun h => by omega

theorem toI_rawI {k : IntKind} {n : Int} (h : inR k n) : toI k (rawI k n) = n := by
  cases k <;> simp [inR, IntKind.signed, IntKind.bits] at h <;> simp only [toI, rawI] <;> simp <;> omega

theorem toI_nonneg {k : IntKind} (hs : k.signed = false) (x : TT k) : 0 ≤ toI k x := by
  have := toI_inR k x
  simp [inR, hs] at this
  exact this.1

theorem toI_inj {k : IntKind} {x y : TT k} (h : toI k x = toI k y) : x = y := by
  cases k <;> simp only [toI] at h
  case u8 => exact UInt8.toNat.inj (by omega)
  case u16 => exact UInt16.toNat.inj (by omega)
  case u32 => exact UInt32.toNat.inj (by omega)
  case u64 => exact UInt64.toNat.inj (by omega)
  all_goals exact h

theorem toI_addT (k : IntKind) (x y : TT k) : toI k (addT k x y) = k.wrap (toI k x + toI k y) := toI_ofI _ _
theorem toI_subT (k : IntKind) (x y : TT k) : toI k (subT k x y) = k.wrap (toI k x - toI k y) := toI_ofI _ _
theorem toI_mulT (k : IntKind) (x y : TT k) : toI k (mulT k x y) = k.wrap (toI k x * toI k y) := toI_ofI _ _
theorem toI_quoT (k : IntKind) (x y : TT k) : toI k (quoT k x y) = k.wrap ((toI k x).tdiv (toI k y)) := toI_ofI _ _
theorem toI_negT (k : IntKind) (x : TT k) : toI k (negT k x) = k.wrap (0 - toI k x) := toI_ofI _ _
theorem toI_convT (k k' : IntKind) (x : TT k) : toI k' (convT k k' x) = k'.wrap (toI k x) := toI_ofI _ _
theorem toI_shlT (k : IntKind) (x : TT k) (n : Nat) : toI k (shlT k x n) = k.wrap (toI k x * 2 ^ (min n k.bits)) := toI_ofI _ _

theorem toI_remT (k : IntKind) (x y : TT k) (hy : toI k y ≠ 0) : toI k (remT k x y) = (toI k x).tmod (toI k y) := by
  unfold remT
  refine toI_rawI ?_
  unfold inR
  cases hs : k.signed with
  | true => trivial
  | false =>
    have hx := toI_inR k x
    have hy' := toI_inR k y
    simp [inR, hs] at hx hy'
    have h1 := Int.tmod_nonneg (toI k y) hx.1
    have h2 := Int.tmod_lt_of_pos (toI k x) (b := toI k y) (by omega)
    exact ⟨h1, by omega⟩

theorem toI_shrT (k : IntKind) (x : TT k) (n : Nat) : toI k (shrT k x n) = (toI k x).fdiv (2 ^ (min n k.bits)) := by
  unfold shrT
  refine toI_rawI ?_
  unfold inR
  cases hs : k.signed with
  | true => trivial
  | false =>
    have hx := toI_inR k x
    simp [inR, hs] at hx
    have hp : (0 : Int) < 2 ^ (min n k.bits) := Int.pow_pos (by decide)
    show 0 ≤ _ ∧ _ < (2 : Int) ^ k.bits
    rw [Int.fdiv_eq_ediv_of_nonneg _ (Int.le_of_lt hp)]
    refine ⟨Int.ediv_nonneg hx.1 (Int.le_of_lt hp), ?_⟩
    have := Int.ediv_le_self (2 ^ (min n k.bits)) hx.1
    omega
end Go.Abs

namespace Go.Abs

/-- Where a block of the evaluator lies: cells lo to hi of a block of the model's, what it is, how many elements it has. -/
structure Place where
  block : Nat
  lo : Nat
  hi : Nat
  root : Root
  len : Nat

abbrev PMap := Nat → Place
/-- Cells that nobody writes; where the package-level variables, and what they point to, lie. -/
structure Zone where
  cell : Nat → Nat → Option Value
  g : Nat → Nat × Nat
instance : CoeFun Zone (fun _ => Nat → Nat → Option Value) := ⟨Zone.cell⟩

def AVal.isAgg : AVal → Bool
  | .arr .. => true
  | .unit => true
  | .pair .. => true
  | _ => false

theorem agg_isAgg (v : AVal) : v.agg = v.isAgg := by cases v <;> rfl

def validP (env : Env) : List Step → Nat → Prop
  | [], _ => True
  | .f i :: p, t => match env.td t with
    | some (.struct fs) => match nth fs i with
      | some u => validP env p u
      | none => False
    | _ => False
  | .i n :: p, t => match env.td t with
    | some (.arr m e) => n < m ∧ validP env p e
    | _ => False

def validR (env : Env) (pl : Place) (p : List Step) : Prop := match pl.root, p with
  | .var t, p => validP env p t
  | .row e, .i n :: p => n < pl.len ∧ validP env p e
  | .row _, _ => False
  | .map _ _, _ => False

mutual
def RepC (env : Env) (ρ : PMap) (Z : Zone) : AVal → List Value → Prop
  | .int k x, cs => cs = [.int k (toI k x)]
  | .bool b, cs => cs = [.bool b]
  | .str s, cs => cs = [.string ⟨s.toArray⟩]
  | .arr k n l, cs => l.length = n ∧ cs = l.map fun x => .int k (toI k x)
  | .unit, cs => cs = []
  | .pair a b, cs => ∃ c1 c2, cs = c1 ++ c2 ∧ RepC env ρ Z a c1 ∧ RepC env ρ Z b c2
  | .ptr key p, cs => validR env (ρ key) p ∧ cs = [.pointer (some ⟨(ρ key).block, (ρ key).lo + (ρ key).root.off env p, none⟩)]
  | .nilptr, cs => cs = [.pointer none]
  | .sl key p off len, cs => ∃ a cap, cs = [.slice a len cap] ∧ len ≤ cap ∧ (len ≠ 0 → a = some ⟨(ρ key).block, (ρ key).lo + (ρ key).root.off env (p ++ [.i off]), none⟩) ∧
      ∀ i, i < len → validR env (ρ key) (p ++ [.i (off + i)])
  | .sw key, cs => ∃ a cap e, (ρ key).root = .row e ∧ cs = [.slice a (ρ key).len cap] ∧ (ρ key).len ≤ cap ∧
      (cap ≠ 0 → a = some ⟨(ρ key).block, (ρ key).lo, none⟩ ∧ (ρ key).lo + cap * env.sz e ≤ (ρ key).hi)
  | .nilsl, cs => cs = [.slice none 0 0]
  | .vw k l, cs => ∃ a cap, cs = [.slice a l.length cap] ∧ l.length ≤ cap ∧ (l ≠ [] → ∃ b o, a = some ⟨b, o, none⟩ ∧ ∀ i x, l[i]? = some x → Z b (o + i) = some (.int k (toI k x)))
  | .vr t e enc _ l, cs => enc = encT t ∧ ∃ a cap, cs = [.slice a l.length cap] ∧ l.length ≤ cap ∧ (l ≠ [] → ∃ b o, a = some ⟨b, o, none⟩ ∧
      ∀ i x, l[i]? = some x → ∃ ecs, RepC env ρ Z (enc x) ecs ∧ AVal.keys (enc x) = [] ∧ ecs.length = env.sz e ∧ ∀ j c, ecs[j]? = some c → Z b (o + i * env.sz e + j) = some c)
  | .vp v, cs => AVal.keys v = [] ∧ ∃ b o ecs, cs = [.pointer (some ⟨b, o, none⟩)] ∧ RepC env ρ Z v ecs ∧ ∀ j c, ecs[j]? = some c → Z b (o + j) = some c
  | .kp key p off n, cs => 0 < n ∧ cs = [.pointer (some ⟨(ρ key).block, (ρ key).lo + (ρ key).root.off env (p ++ [.i off]), none⟩)] ∧ ∀ i, i < n → validR env (ρ key) (p ++ [.i (off + i)])
  | .iface t v, cs => ∃ x, cs = [.iface t x] ∧ (match v.isAgg with
      | true => ∃ az, x = .agg az ∧ RepC env ρ Z v az.toList
      | false => RepC env ρ Z v [x])
  | .nilIface, cs => cs = [.nilIface]
  | .fn f a b, cs => ∃ xs ys, cs = [.func f xs ys] ∧ RepA env ρ Z a xs.toList ∧ RepA env ρ Z b ys.toList
  | .nilfn, cs => cs = [.nilFunc]
  | .gp id, cs => cs = [.pointer (some ⟨(Z.g id).1, (Z.g id).2, none⟩)]
  | .th t, cs => cs = [.pointer (some ⟨env.ng, t, none⟩)]
  | .mp key, cs => (∃ k e, (ρ key).root = .map k e) ∧ cs = [.map (some (ρ key).block)]
  | .nilmap, cs => cs = [.map none]
  | .raw x, cs => cs = [x]
  | .tnil, cs => cs = [.tuple #[]]
  | .tcons a b, cs => ∃ vs : Array Value, cs = [.tuple vs] ∧ ∃ x ys, vs.toList = x :: ys ∧ (match a.isAgg with
      | true => ∃ az, x = .agg az ∧ RepC env ρ Z a az.toList
      | false => RepC env ρ Z a [x]) ∧ RepA env ρ Z b ys
def RepA (env : Env) (ρ : PMap) (Z : Zone) : AVal → List Value → Prop
  | .unit, xs => xs = []
  | .tnil, xs => xs = []
  | .pair a b, xs => ∃ x ys, xs = x :: ys ∧ (match a.isAgg with
      | true => ∃ az, x = .agg az ∧ RepC env ρ Z a az.toList
      | false => RepC env ρ Z a [x]) ∧ RepA env ρ Z b ys
  | .tcons a b, xs => ∃ x ys, xs = x :: ys ∧ (match a.isAgg with
      | true => ∃ az, x = .agg az ∧ RepC env ρ Z a az.toList
      | false => RepC env ρ Z a [x]) ∧ RepA env ρ Z b ys
  | _, _ => False
end

/-- A whole value. -/
def RepV (env : Env) (ρ : PMap) (Z : Zone) (v : AVal) (x : Value) : Prop := match v.isAgg with
  | true => ∃ az, x = .agg az ∧ RepC env ρ Z v az.toList
  | false => RepC env ρ Z v [x]

def RepVs (env : Env) (ρ : PMap) (Z : Zone) : List AVal → List Value → Prop
  | [], xs => xs = []
  | v :: vs, xs => ∃ x ys, xs = x :: ys ∧ RepV env ρ Z v x ∧ RepVs env ρ Z vs ys

/-! ### it hangs on the places of the blocks that it names -/
theorem RepCA_congr {env : Env} {Z : Zone} {ρ ρ' : PMap} (v : AVal) :
    (∀ cs, (∀ k, k ∈ v.keys → ρ' k = ρ k) → RepC env ρ Z v cs → RepC env ρ' Z v cs) ∧
    (∀ cs, (∀ k, k ∈ v.keys → ρ' k = ρ k) → RepA env ρ Z v cs → RepA env ρ' Z v cs) := by
  induction v with
  | int | bool | str | arr | unit | nilptr | nilsl | vw | nilIface | nilfn | tnil | gp | th | nilmap | raw =>
    exact ⟨fun cs _ h => by simpa [RepC] using h, fun cs _ h => by simpa [RepA] using h⟩
  | mp key =>
    refine ⟨fun cs hk h => ?_, fun cs _ h => by simp [RepA] at h⟩
    simp only [RepC] at h ⊢
    rw [hk key (by simp [AVal.keys])]; exact h
  | pair a b iha ihb =>
    refine ⟨fun cs hk h => ?_, fun cs hk h => ?_⟩
    · simp only [RepC] at h ⊢
      obtain ⟨c1, c2, rfl, h1, h2⟩ := h
      exact ⟨c1, c2, rfl, iha.1 _ (fun k hm => hk k (by simp [AVal.keys, hm])) h1, ihb.1 _ (fun k hm => hk k (by simp [AVal.keys, hm])) h2⟩
    · simp only [RepA] at h ⊢
      obtain ⟨x, ys, rfl, h1, h2⟩ := h
      refine ⟨x, ys, rfl, ?_, ihb.2 _ (fun k hm => hk k (by simp [AVal.keys, hm])) h2⟩
      cases hag : a.isAgg <;> simp only [hag] at h1 ⊢
      · exact iha.1 _ (fun k hm => hk k (by simp [AVal.keys, hm])) h1
      · obtain ⟨az, e, h1⟩ := h1
        exact ⟨az, e, iha.1 _ (fun k hm => hk k (by simp [AVal.keys, hm])) h1⟩
  | tcons a b iha ihb =>
    have one : ∀ x, (∀ k, k ∈ (AVal.tcons a b).keys → ρ' k = ρ k) → (match a.isAgg with
      | true => ∃ az, x = .agg az ∧ RepC env ρ Z a az.toList
      | false => RepC env ρ Z a [x]) → (match a.isAgg with
      | true => ∃ az, x = .agg az ∧ RepC env ρ' Z a az.toList
      | false => RepC env ρ' Z a [x]) := by
      intro x hk h1
      cases hag : a.isAgg <;> simp only [hag] at h1 ⊢
      · exact iha.1 _ (fun k hm => hk k (by simp [AVal.keys, hm])) h1
      · obtain ⟨az, e, h1⟩ := h1
        exact ⟨az, e, iha.1 _ (fun k hm => hk k (by simp [AVal.keys, hm])) h1⟩
    refine ⟨fun cs hk h => ?_, fun cs hk h => ?_⟩
    · simp only [RepC] at h ⊢
      obtain ⟨vs, rfl, x, ys, e, h1, h2⟩ := h
      exact ⟨vs, rfl, x, ys, e, one x hk h1, ihb.2 _ (fun k hm => hk k (by simp [AVal.keys, hm])) h2⟩
    · simp only [RepA] at h ⊢
      obtain ⟨x, ys, rfl, h1, h2⟩ := h
      exact ⟨x, ys, rfl, one x hk h1, ihb.2 _ (fun k hm => hk k (by simp [AVal.keys, hm])) h2⟩
  | ptr key p =>
    refine ⟨fun cs hk h => ?_, fun cs _ h => by simp [RepA] at h⟩
    simp only [RepC] at h ⊢
    rw [hk key (by simp [AVal.keys])]; exact h
  | sl key p off len =>
    refine ⟨fun cs hk h => ?_, fun cs _ h => by simp [RepA] at h⟩
    simp only [RepC] at h ⊢
    rw [hk key (by simp [AVal.keys])]; exact h
  | sw key =>
    refine ⟨fun cs hk h => ?_, fun cs _ h => by simp [RepA] at h⟩
    simp only [RepC] at h ⊢
    rw [hk key (by simp [AVal.keys])]; exact h
  | kp key p off n =>
    refine ⟨fun cs hk h => ?_, fun cs _ h => by simp [RepA] at h⟩
    simp only [RepC] at h ⊢
    rw [hk key (by simp [AVal.keys])]; exact h
  | vr tg e enc d l ih =>
    refine ⟨fun cs hk h => ?_, fun cs _ h => by simp [RepA] at h⟩
    simp only [RepC] at h ⊢
    obtain ⟨henc, a, cap, rfl, hl, hz⟩ := h
    refine ⟨henc, a, cap, rfl, hl, fun hne => ?_⟩
    obtain ⟨b, o, e1, hz⟩ := hz hne
    refine ⟨b, o, e1, fun i x hx => ?_⟩
    obtain ⟨ecs, h1, h2, h3⟩ := hz i x hx
    exact ⟨ecs, (ih x).1 _ (fun k hm => by rw [h2] at hm; cases hm) h1, h2, h3⟩
  | vp v ih =>
    refine ⟨fun cs hk h => ?_, fun cs _ h => by simp [RepA] at h⟩
    simp only [RepC] at h ⊢
    obtain ⟨hv, b, o, ecs, e, h1, h2⟩ := h
    exact ⟨hv, b, o, ecs, e, ih.1 _ (fun k hm => by rw [hv] at hm; cases hm) h1, h2⟩
  | iface t v ih =>
    refine ⟨fun cs hk h => ?_, fun cs _ h => by simp [RepA] at h⟩
    simp only [RepC] at h ⊢
    obtain ⟨x, rfl, h1⟩ := h
    refine ⟨x, rfl, ?_⟩
    cases hag : v.isAgg <;> simp only [hag] at h1 ⊢
    · exact ih.1 _ (fun k hm => hk k (by simp [AVal.keys, hm])) h1
    · obtain ⟨az, e, h1⟩ := h1
      exact ⟨az, e, ih.1 _ (fun k hm => hk k (by simp [AVal.keys, hm])) h1⟩
  | fn f a b iha ihb =>
    refine ⟨fun cs hk h => ?_, fun cs _ h => by simp [RepA] at h⟩
    simp only [RepC] at h ⊢
    obtain ⟨xs, ys, rfl, h1, h2⟩ := h
    exact ⟨xs, ys, rfl, iha.2 _ (fun k hm => hk k (by simp [AVal.keys, hm])) h1, ihb.2 _ (fun k hm => hk k (by simp [AVal.keys, hm])) h2⟩

theorem RepC.congr {env : Env} {Z : Zone} {ρ ρ' : PMap} {v : AVal} {cs : List Value} (h : RepC env ρ Z v cs) (hk : ∀ k, k ∈ v.keys → ρ' k = ρ k) : RepC env ρ' Z v cs :=
  (RepCA_congr v).1 cs hk h

theorem RepV.congr {env : Env} {Z : Zone} {ρ ρ' : PMap} {v : AVal} {x : Value} (h : RepV env ρ Z v x) (hk : ∀ k, k ∈ v.keys → ρ' k = ρ k) : RepV env ρ' Z v x := by
  unfold RepV at *
  cases hag : v.isAgg <;> simp only [hag] at h ⊢
  · exact h.congr hk
  · obtain ⟨az, e, h⟩ := h
    exact ⟨az, e, h.congr hk⟩

def Zle (Z Z' : Zone) : Prop := ∀ b o c, Z b o = some c → Z' b o = some c

theorem RepCA_zone {env : Env} {Z Z' : Zone} {ρ : PMap} (hg : Z'.g = Z.g) (v : AVal) :
    (∀ cs, (v.views = true → Zle Z Z') → RepC env ρ Z v cs → RepC env ρ Z' v cs) ∧
    (∀ cs, (v.views = true → Zle Z Z') → RepA env ρ Z v cs → RepA env ρ Z' v cs) := by
  induction v with
  | int | bool | str | arr | unit | nilptr | nilsl | nilIface | nilfn | tnil | ptr | sl | sw | kp | th | mp | nilmap | raw =>
    exact ⟨fun cs _ h => by simpa only [RepC] using h, fun cs _ h => by simpa only [RepA] using h⟩
  | gp id =>
    exact ⟨fun cs _ h => by simpa only [RepC, hg] using h, fun cs _ h => by simpa only [RepA] using h⟩
  | vw k l =>
    refine ⟨fun cs hz h => ?_, fun cs _ h => by simp [RepA] at h⟩
    simp only [RepC] at h ⊢
    obtain ⟨a, cap, e, hl, h⟩ := h
    refine ⟨a, cap, e, hl, fun hne => ?_⟩
    obtain ⟨b, o, e, h⟩ := h hne
    exact ⟨b, o, e, fun i x hx => hz rfl _ _ _ (h i x hx)⟩
  | pair a b iha ihb =>
    have hl : ∀ {p : Prop}, ((AVal.pair a b).views = true → p) → (a.views = true → p) := fun h h' => h (by simp [AVal.views, h'])
    have hr : ∀ {p : Prop}, ((AVal.pair a b).views = true → p) → (b.views = true → p) := fun h h' => h (by simp [AVal.views, h'])
    refine ⟨fun cs hk h => ?_, fun cs hk h => ?_⟩
    · simp only [RepC] at h ⊢
      obtain ⟨c1, c2, rfl, h1, h2⟩ := h
      exact ⟨c1, c2, rfl, iha.1 _ (hl hk) h1, ihb.1 _ (hr hk) h2⟩
    · simp only [RepA] at h ⊢
      obtain ⟨x, ys, rfl, h1, h2⟩ := h
      refine ⟨x, ys, rfl, ?_, ihb.2 _ (hr hk) h2⟩
      cases hag : a.isAgg <;> simp only [hag] at h1 ⊢
      · exact iha.1 _ (hl hk) h1
      · obtain ⟨az, e, h1⟩ := h1
        exact ⟨az, e, iha.1 _ (hl hk) h1⟩
  | tcons a b iha ihb =>
    have hl : ∀ {p : Prop}, ((AVal.tcons a b).views = true → p) → (a.views = true → p) := fun h h' => h (by simp [AVal.views, h'])
    have hr : ∀ {p : Prop}, ((AVal.tcons a b).views = true → p) → (b.views = true → p) := fun h h' => h (by simp [AVal.views, h'])
    have one : ∀ x, ((AVal.tcons a b).views = true → Zle Z Z') → (match a.isAgg with
      | true => ∃ az, x = .agg az ∧ RepC env ρ Z a az.toList
      | false => RepC env ρ Z a [x]) → (match a.isAgg with
      | true => ∃ az, x = .agg az ∧ RepC env ρ Z' a az.toList
      | false => RepC env ρ Z' a [x]) := by
      intro x hk h1
      cases hag : a.isAgg <;> simp only [hag] at h1 ⊢
      · exact iha.1 _ (hl hk) h1
      · obtain ⟨az, e, h1⟩ := h1
        exact ⟨az, e, iha.1 _ (hl hk) h1⟩
    refine ⟨fun cs hk h => ?_, fun cs hk h => ?_⟩
    · simp only [RepC] at h ⊢
      obtain ⟨vs, rfl, x, ys, e, h1, h2⟩ := h
      exact ⟨vs, rfl, x, ys, e, one x hk h1, ihb.2 _ (hr hk) h2⟩
    · simp only [RepA] at h ⊢
      obtain ⟨x, ys, rfl, h1, h2⟩ := h
      exact ⟨x, ys, rfl, one x hk h1, ihb.2 _ (hr hk) h2⟩
  | vr tg e enc d l ih =>
    refine ⟨fun cs hk h => ?_, fun cs _ h => by simp [RepA] at h⟩
    simp only [RepC] at h ⊢
    obtain ⟨henc, a, cap, rfl, hl, hz⟩ := h
    refine ⟨henc, a, cap, rfl, hl, fun hne => ?_⟩
    obtain ⟨b, o, e1, hz⟩ := hz hne
    refine ⟨b, o, e1, fun i x hx => ?_⟩
    obtain ⟨ecs, h1, h2, h3, h4⟩ := hz i x hx
    exact ⟨ecs, (ih x).1 _ (fun _ => hk rfl) h1, h2, h3, fun j c hc => hk rfl _ _ _ (h4 j c hc)⟩
  | vp v ih =>
    refine ⟨fun cs hk h => ?_, fun cs _ h => by simp [RepA] at h⟩
    simp only [RepC] at h ⊢
    obtain ⟨hv, b, o, ecs, e, h1, h2⟩ := h
    exact ⟨hv, b, o, ecs, e, ih.1 _ (fun _ => hk rfl) h1, fun j c hc => hk rfl _ _ _ (h2 j c hc)⟩
  | iface t v ih =>
    refine ⟨fun cs hk h => ?_, fun cs _ h => by simp [RepA] at h⟩
    simp only [RepC] at h ⊢
    obtain ⟨x, rfl, h1⟩ := h
    refine ⟨x, rfl, ?_⟩
    cases hag : v.isAgg <;> simp only [hag] at h1 ⊢
    · exact ih.1 _ hk h1
    · obtain ⟨az, e, h1⟩ := h1
      exact ⟨az, e, ih.1 _ hk h1⟩
  | fn f a b iha ihb =>
    refine ⟨fun cs hk h => ?_, fun cs _ h => by simp [RepA] at h⟩
    simp only [RepC] at h ⊢
    obtain ⟨xs, ys, rfl, h1, h2⟩ := h
    exact ⟨xs, ys, rfl, iha.2 _ (fun h' => hk (by simp [AVal.views, h'])) h1, ihb.2 _ (fun h' => hk (by simp [AVal.views, h'])) h2⟩

theorem RepC.zone {env : Env} {Z Z' : Zone} {ρ : PMap} {v : AVal} {cs : List Value} (h : RepC env ρ Z v cs) (hg : Z'.g = Z.g) (hz : v.views = true → Zle Z Z') : RepC env ρ Z' v cs :=
  (RepCA_zone hg v).1 cs hz h

theorem RepV.zone {env : Env} {Z Z' : Zone} {ρ : PMap} {v : AVal} {x : Value} (h : RepV env ρ Z v x) (hg : Z'.g = Z.g) (hz : v.views = true → Zle Z Z') : RepV env ρ Z' v x := by
  unfold RepV at *
  cases hag : v.isAgg <;> simp only [hag] at h ⊢
  · exact h.zone hg hz
  · obtain ⟨az, e, h⟩ := h
    exact ⟨az, e, h.zone hg hz⟩

theorem isAgg_rename (r : Nat → Nat) (v : AVal) : (v.rename r).isAgg = v.isAgg := by cases v <;> rfl

theorem RepCA_rename {env : Env} {Z : Zone} {ρ ρ' : PMap} {r : Nat → Nat} (v : AVal) :
    (∀ cs, (∀ k, k ∈ v.keys → ρ' (r k) = ρ k) → RepC env ρ Z v cs → RepC env ρ' Z (v.rename r) cs) ∧
    (∀ cs, (∀ k, k ∈ v.keys → ρ' (r k) = ρ k) → RepA env ρ Z v cs → RepA env ρ' Z (v.rename r) cs) := by
  induction v with
  | int | bool | str | arr | unit | nilptr | nilsl | vw | nilIface | nilfn | tnil | gp | th | nilmap | raw =>
    exact ⟨fun cs _ h => by simpa only [AVal.rename, RepC] using h, fun cs _ h => by simpa only [AVal.rename, RepA] using h⟩
  | mp key =>
    refine ⟨fun cs hk h => ?_, fun cs _ h => by simp [RepA] at h⟩
    simp only [AVal.rename, RepC] at h ⊢
    rw [hk key (by simp [AVal.keys])]; exact h
  | pair a b iha ihb =>
    refine ⟨fun cs hk h => ?_, fun cs hk h => ?_⟩
    · simp only [AVal.rename, RepC] at h ⊢
      obtain ⟨c1, c2, rfl, h1, h2⟩ := h
      exact ⟨c1, c2, rfl, iha.1 _ (fun k hm => hk k (by simp [AVal.keys, hm])) h1, ihb.1 _ (fun k hm => hk k (by simp [AVal.keys, hm])) h2⟩
    · simp only [AVal.rename, RepA, isAgg_rename] at h ⊢
      obtain ⟨x, ys, rfl, h1, h2⟩ := h
      refine ⟨x, ys, rfl, ?_, ihb.2 _ (fun k hm => hk k (by simp [AVal.keys, hm])) h2⟩
      cases hag : a.isAgg <;> simp only [hag] at h1 ⊢
      · exact iha.1 _ (fun k hm => hk k (by simp [AVal.keys, hm])) h1
      · obtain ⟨az, e, h1⟩ := h1
        exact ⟨az, e, iha.1 _ (fun k hm => hk k (by simp [AVal.keys, hm])) h1⟩
  | tcons a b iha ihb =>
    have one : ∀ x, (∀ k, k ∈ (AVal.tcons a b).keys → ρ' (r k) = ρ k) → (match a.isAgg with
      | true => ∃ az, x = .agg az ∧ RepC env ρ Z a az.toList
      | false => RepC env ρ Z a [x]) → (match a.isAgg with
      | true => ∃ az, x = .agg az ∧ RepC env ρ' Z (a.rename r) az.toList
      | false => RepC env ρ' Z (a.rename r) [x]) := by
      intro x hk h1
      cases hag : a.isAgg <;> simp only [hag] at h1 ⊢
      · exact iha.1 _ (fun k hm => hk k (by simp [AVal.keys, hm])) h1
      · obtain ⟨az, e, h1⟩ := h1
        exact ⟨az, e, iha.1 _ (fun k hm => hk k (by simp [AVal.keys, hm])) h1⟩
    refine ⟨fun cs hk h => ?_, fun cs hk h => ?_⟩
    · simp only [AVal.rename, RepC, isAgg_rename] at h ⊢
      obtain ⟨vs, rfl, x, ys, e, h1, h2⟩ := h
      exact ⟨vs, rfl, x, ys, e, one x hk h1, ihb.2 _ (fun k hm => hk k (by simp [AVal.keys, hm])) h2⟩
    · simp only [AVal.rename, RepA, isAgg_rename] at h ⊢
      obtain ⟨x, ys, rfl, h1, h2⟩ := h
      exact ⟨x, ys, rfl, one x hk h1, ihb.2 _ (fun k hm => hk k (by simp [AVal.keys, hm])) h2⟩
  | ptr key p =>
    refine ⟨fun cs hk h => ?_, fun cs _ h => by simp [RepA] at h⟩
    simp only [AVal.rename, RepC] at h ⊢
    rw [hk key (by simp [AVal.keys])]; exact h
  | sl key p off len =>
    refine ⟨fun cs hk h => ?_, fun cs _ h => by simp [RepA] at h⟩
    simp only [AVal.rename, RepC] at h ⊢
    rw [hk key (by simp [AVal.keys])]; exact h
  | sw key =>
    refine ⟨fun cs hk h => ?_, fun cs _ h => by simp [RepA] at h⟩
    simp only [AVal.rename, RepC] at h ⊢
    rw [hk key (by simp [AVal.keys])]; exact h
  | kp key p off n =>
    refine ⟨fun cs hk h => ?_, fun cs _ h => by simp [RepA] at h⟩
    simp only [AVal.rename, RepC] at h ⊢
    rw [hk key (by simp [AVal.keys])]; exact h
  | vr tg e enc d l ih =>
    refine ⟨fun cs hk h => ?_, fun cs _ h => by simp [RepA] at h⟩
    simp only [AVal.rename]
    exact h.congr (fun k hm => by simp [AVal.keys] at hm)
  | vp v ih =>
    refine ⟨fun cs hk h => ?_, fun cs _ h => by simp [RepA] at h⟩
    simp only [AVal.rename]
    exact h.congr (fun k hm => by simp [AVal.keys] at hm)
  | iface t v ih =>
    refine ⟨fun cs hk h => ?_, fun cs _ h => by simp [RepA] at h⟩
    simp only [AVal.rename, RepC, isAgg_rename] at h ⊢
    obtain ⟨x, rfl, h1⟩ := h
    refine ⟨x, rfl, ?_⟩
    cases hag : v.isAgg <;> simp only [hag] at h1 ⊢
    · exact ih.1 _ (fun k hm => hk k (by simp [AVal.keys, hm])) h1
    · obtain ⟨az, e, h1⟩ := h1
      exact ⟨az, e, ih.1 _ (fun k hm => hk k (by simp [AVal.keys, hm])) h1⟩
  | fn f a b iha ihb =>
    refine ⟨fun cs hk h => ?_, fun cs _ h => by simp [RepA] at h⟩
    simp only [AVal.rename, RepC] at h ⊢
    obtain ⟨xs, ys, rfl, h1, h2⟩ := h
    exact ⟨xs, ys, rfl, iha.2 _ (fun k hm => hk k (by simp [AVal.keys, hm])) h1, ihb.2 _ (fun k hm => hk k (by simp [AVal.keys, hm])) h2⟩

theorem RepC.rename {env : Env} {Z : Zone} {ρ ρ' : PMap} {r : Nat → Nat} {v : AVal} {cs : List Value} (h : RepC env ρ Z v cs) (hk : ∀ k, k ∈ v.keys → ρ' (r k) = ρ k) : RepC env ρ' Z (v.rename r) cs :=
  (RepCA_rename v).1 cs hk h

theorem RepV.rename {env : Env} {Z : Zone} {ρ ρ' : PMap} {r : Nat → Nat} {v : AVal} {x : Value} (h : RepV env ρ Z v x) (hk : ∀ k, k ∈ v.keys → ρ' (r k) = ρ k) : RepV env ρ' Z (v.rename r) x := by
  unfold RepV at *
  rw [isAgg_rename]
  cases hag : v.isAgg <;> simp only [hag] at h ⊢
  · exact h.rename hk
  · obtain ⟨az, e, h⟩ := h
    exact ⟨az, e, h.rename hk⟩

theorem keys_rename (r : Nat → Nat) (v : AVal) : (v.rename r).keys = v.keys.map r := by
  induction v <;> simp_all [AVal.rename, AVal.keys]

theorem views_rename (r : Nat → Nat) (v : AVal) : (v.rename r).views = v.views := by
  induction v <;> simp_all [AVal.rename, AVal.views]

/-- Whatever the one stands for, the other stands for, too. -/
structure AVal.Le (v v' : AVal) : Prop where
  keys : ∀ k, k ∈ v'.keys → k ∈ v.keys
  agg : v'.isAgg = v.isAgg
  rep : ∀ {env : Env} {ρ : PMap} {Z : Zone} {cs : List Value}, RepC env ρ Z v cs → RepC env ρ Z v' cs
  ty : ∀ {env : Env} {d t : Nat}, hasTy env d t v = true → hasTy env d t v' = true
theorem AVal.Le.refl (v : AVal) : AVal.Le v v := ⟨fun _ h => h, rfl, fun h => h, fun h => h⟩
theorem AVal.Le.of_eq {v v' : AVal} (h : v = v') : AVal.Le v v' := h ▸ AVal.Le.refl v
theorem RepV.le {env : Env} {ρ : PMap} {Z : Zone} {v v' : AVal} {x : Value} (h : RepV env ρ Z v x) (hl : AVal.Le v v') : RepV env ρ Z v' x := by
  unfold RepV at *
  rw [hl.agg]
  cases hag : v.isAgg <;> simp only [hag] at h ⊢
  · exact hl.rep h
  · obtain ⟨ar, e, h⟩ := h
    exact ⟨ar, e, hl.rep h⟩
end Go.Abs

namespace Go.Abs

def UndOk (P : Program) (env : Env) (t : Nat) : TD → Prop
  | .bool => P.underlying t = some .bool
  | .int k => P.underlying t = some (.int k)
  | .str => P.underlying t = some .string
  | .ptr e => P.underlying t = some (.pointer e)
  | .slice e => P.underlying t = some (.slice e)
  | .arr n e => P.underlying t = some (.array n e)
  | .struct fs => ∃ fields : Array Field, P.underlying t = some (.struct fields) ∧ fields.toList.map (·.type) = fs ∧ ∀ i f, fields[i]? = some f → f.offset = sumSz env (fs.take i)
  | .iface => ∃ ms, P.underlying t = some (.interface ms)
  | .func => ∃ a b c, P.underlying t = some (.func a b c)
  | .map k e => P.underlying t = some (.map k e)

def szOf (env : Env) : TD → Nat
  | .arr n e => n * env.sz e
  | .struct fs => sumSz env fs
  | _ => 1

structure CodOk (env : Env) (t : Nat) (c : Codec) : Prop where
  dec : ∀ v a, c.dec v = some a → AVal.Le v (c.enc a)
  keys : ∀ a, (c.enc a).keys = []
  ty : hasTy env 8 t (c.enc c.dflt) = true
  zero : ∃ z, zeroV env 8 t = some z ∧ AVal.Le z (c.enc c.dflt)
  vt : ∀ vt, c.vt = some vt → (∀ l, (vt.2.1 l).map (encT vt.1) = l.map c.enc) ∧ ∀ m, (vt.2.2 m).map c.enc = m.map (encT vt.1)
  vty : ∀ vt, c.vt = some vt → ∀ x, hasTy env 8 t (encT vt.1 x) = true

/-- Values that may be keys of a map. -/
def KeyOk (P : Program) (env : Env) (t : Nat) (c : Codec) (f : c.α → c.α → Bool) : Prop :=
  ∀ ρ Z a b x y w, RepV env ρ Z (c.enc a) x → RepV env ρ Z (c.enc b) y →
    (Op.equal t x y).run P w = .ok (f a b) w ∧ (f a b = true → x = y ∧ Instr.sameBits 10000 x y = true) ∧ ∀ e, (Instr.checkKey e 10000 t x).run P w = .ok () w

/-- The types of the parts are known. -/
def CloOk (env : Env) : TD → Prop
  | .arr _ e => ∃ d, env.td e = some d
  | .slice e => ∃ d, env.td e = some d
  | .struct fs => ∀ i u, nth fs i = some u → ∃ d, env.td u = some d
  | .map k e => (∃ d, env.td k = some d) ∧ ∃ d, env.td e = some d
  | _ => True

structure EnvOk (P : Program) (env : Env) : Prop where
  und : ∀ t d, env.td t = some d → UndOk P env t d
  info : ∀ t d, env.td t = some d → ∃ i, P.info? t = some i ∧ i.size = env.sz t ∧ i.bytes = env.bytes t ∧
    ∀ v, zeroV env 8 t = some v → ∃ z, i.zero = some z ∧ ∀ ρ Z, RepV env ρ Z v z
  size : ∀ t d, env.td t = some d → env.sz t = szOf env d
  clo : ∀ t d, env.td t = some d → CloOk env d
  zty : ∀ t v, zeroV env 8 t = some v → hasTy env 8 t v = true
  cod : ∀ t c, env.codec t = some c → CodOk env t c
  eqs : ∀ t, env.eq t = true → P.eqGuardType P.depth t = false
  eqf : ∀ t fs (fields : Array Field), env.eq t = true → env.td t = some (.struct fs) → P.underlying t = some (.struct fields) → P.stoodInHeld t = false ∧ ∀ (i : Nat) (f : Field), fields[i]? = some f → f.name ≠ "_"
  cmp : ∀ t k, env.td t = some (.int k) → (P.info? t).map (·.comparable) = some true
  cmpP : ∀ t k, env.td t = some (.ptr k) → (∃ d, env.td k = some d) → (P.info? t).map (·.comparable) = some true
  key : ∀ t c f, env.codec t = some c → c.eq = some f → KeyOk P env t c f
  ng : env.ng = P.globals.size
  impl : ∀ u t r, env.impl u t = some r → ∀ s x w, (Instr.typeAssert (.iface u x) s t true).run P w = .ok (.tuple #[if r = true then .iface u x else .nilIface, .bool r]) w
  gty : ∀ id t v, env.gv id = some (t, v) → hasTy env 8 t v = true
  meth : ∀ t n f, env.meth t n = some f → ∀ x w, (method (P.types.size + Made.depth) t x n).run P w = .ok (f, x) w

def HT (env : Env) (t : Nat) (v : AVal) : Prop := ∃ d, hasTy env d t v = true
theorem HT.le {env : Env} {t : Nat} {v v' : AVal} (h : HT env t v) (hl : AVal.Le v v') : HT env t v' := let ⟨d, h⟩ := h; ⟨d, hl.ty h⟩

/-- What the lemmas on parts ask of an environment. -/
def SzOk (env : Env) : Prop := ∀ t d, env.td t = some d → env.sz t = szOf env d

theorem hasL_len {env : Env} {ρ : PMap} {Z : Zone} {h : Nat → AVal → Bool} (hh : ∀ t v cs, h t v = true → RepC env ρ Z v cs → cs.length = env.sz t) :
    ∀ (fs : List Nat) (v : AVal) (cs : List Value), hasL h fs v = true → RepC env ρ Z v cs → cs.length = sumSz env fs := by
  intro fs
  induction fs with
  | nil =>
    intro v cs h1 h2
    cases v <;> simp [hasL] at h1
    simp only [RepC] at h2
    simp [h2, sumSz]
  | cons t ts ih =>
    intro v cs h1 h2
    cases v <;> simp [hasL] at h1
    rename_i a b
    simp only [RepC] at h2
    obtain ⟨c1, c2, rfl, h3, h4⟩ := h2
    cases hb : h t a <;> simp [hb] at h1
    simp [sumSz, hh _ _ _ hb h3, ih _ _ h1 h4]

theorem sumSz_replicate (env : Env) (n e : Nat) : sumSz env (List.replicate n e) = n * env.sz e := by
  induction n with
  | zero => simp [sumSz]
  | succ n ih => simp [List.replicate_succ, sumSz, ih, Nat.add_mul, Nat.add_comm]

theorem hasTy_len {env : Env} {ρ : PMap} {Z : Zone} (hs : SzOk env) : ∀ (d t : Nat) (v : AVal) (cs : List Value), hasTy env d t v = true → RepC env ρ Z v cs → cs.length = env.sz t := by
  intro d
  induction d with
  | zero => intro t v cs h; simp [hasTy] at h
  | succ d ih =>
    intro t v cs h hr
    unfold hasTy at h
    cases htd : env.td t with
    | none => simp [htd] at h
    | some td =>
      have hsz := hs t td htd
      cases td with
      | struct fs =>
        have h : hasL (hasTy env d) fs v = true := by simpa [htd] using h
        rw [hsz]
        exact hasL_len ih fs v cs h hr
      | arr n e =>
        simp only [htd] at h
        cases hte : env.td e with
        | none => simp [hte] at h
        | some te =>
          have hsze := hs e te hte
          cases te
          case int k =>
            cases v <;> simp [hte] at h
            simp only [RepC] at hr
            obtain ⟨hl, rfl⟩ := hr
            cases hsm : IntKind.same k ‹_› <;> simp [hsm] at h
            rw [hsz]
            simp [szOf, hsze, hl, h]
          all_goals
            simp only [hte] at h
            rw [hsz]
            simp only [szOf]
            rw [← sumSz_replicate]
            exact hasL_len ih _ v cs h hr
      | _ =>
        cases v <;> simp [htd] at h <;> simp only [RepC] at hr <;> rw [hsz] <;> simp only [szOf] <;>
          first
            | (rw [hr]; rfl)
            | (rw [hr.2]; rfl)
            | (obtain ⟨_, _, e, _⟩ := hr; rw [e]; rfl)
            | (obtain ⟨_, _, _, _, e, _⟩ := hr; rw [e]; rfl)
            | (obtain ⟨_, _, _, e, _⟩ := hr; rw [e]; rfl)
            | (obtain ⟨_, e, _⟩ := hr; rw [e]; rfl)

theorem HT.len {env : Env} {ρ : PMap} {Z : Zone} (hs : SzOk env) {t : Nat} {v : AVal} {cs : List Value} (h : HT env t v) (hr : RepC env ρ Z v cs) : cs.length = env.sz t :=
  let ⟨d, h⟩ := h; hasTy_len hs d t v cs h hr

/-! ### one part of a struct -/
theorem getF_rep {env : Env} {ρ : PMap} {Z : Zone} {h : Nat → AVal → Bool} (hh : ∀ t v cs, h t v = true → RepC env ρ Z v cs → cs.length = env.sz t) :
    ∀ (fs : List Nat) (i u : Nat) (v x : AVal) (cs : List Value), hasL h fs v = true → RepC env ρ Z v cs → nth fs i = some u → v.getF i = some x →
      ∃ c1 c2 c3, cs = c1 ++ c2 ++ c3 ∧ c1.length = sumSz env (fs.take i) ∧ RepC env ρ Z x c2 ∧ h u x = true := by
  intro fs
  induction fs with
  | nil => intro i u v x cs _ _ hn; simp [nth] at hn
  | cons t ts ih =>
    intro i u v x cs h1 h2 hn hg
    cases v <;> simp [hasL] at h1
    rename_i a b
    simp only [RepC] at h2
    obtain ⟨c1, c2, rfl, h3, h4⟩ := h2
    cases hb : h t a <;> simp [hb] at h1
    cases i with
    | zero =>
      simp [nth] at hn; simp [AVal.getF] at hg
      subst hn; subst hg
      exact ⟨[], c1, c2, by simp, by simp [sumSz], h3, hb⟩
    | succ i =>
      simp [nth] at hn; simp [AVal.getF] at hg
      obtain ⟨d1, d2, d3, e, hl, hr, hu⟩ := ih i u b x c2 h1 h4 hn hg
      exact ⟨c1 ++ d1, d2, d3, by simp [e], by simp [sumSz, hh _ _ _ hb h3, hl], hr, hu⟩

theorem setF_rep {env : Env} {ρ : PMap} {Z : Zone} {h : Nat → AVal → Bool} (hh : ∀ t v cs, h t v = true → RepC env ρ Z v cs → cs.length = env.sz t) :
    ∀ (fs : List Nat) (i u : Nat) (v x v' : AVal) (cs xs : List Value), hasL h fs v = true → RepC env ρ Z v cs → nth fs i = some u → v.setF i x = some v' →
      h u x = true → RepC env ρ Z x xs →
      ∃ c1 c2 c3, cs = c1 ++ c2 ++ c3 ∧ c1.length = sumSz env (fs.take i) ∧ c2.length = xs.length ∧ RepC env ρ Z v' (c1 ++ xs ++ c3) ∧ hasL h fs v' = true := by
  intro fs
  induction fs with
  | nil => intro i u v x v' cs xs _ _ hn; simp [nth] at hn
  | cons t ts ih =>
    intro i u v x v' cs xs h1 h2 hn hg hu hx
    cases v <;> simp [hasL] at h1
    rename_i a b
    simp only [RepC] at h2
    obtain ⟨c1, c2, rfl, h3, h4⟩ := h2
    cases hb : h t a <;> simp [hb] at h1
    cases i with
    | zero =>
      simp [nth] at hn; simp [AVal.setF] at hg
      subst hn; subst hg
      refine ⟨[], c1, c2, by simp, by simp [sumSz], by rw [hh _ _ _ hb h3, hh _ _ _ hu hx], ?_, by simp [hasL, hu, h1]⟩
      simp only [RepC, List.nil_append]
      exact ⟨xs, c2, rfl, hx, h4⟩
    | succ i =>
      simp [nth] at hn
      cases hs : b.setF i x with
      | none => simp [AVal.setF, hs] at hg
      | some b' =>
        simp [AVal.setF, hs] at hg
        subst hg
        obtain ⟨d1, d2, d3, e, hl, hl2, hr, ht⟩ := ih i u b x b' c2 xs h1 h4 hn hs hu hx
        refine ⟨c1 ++ d1, d2, d3, by simp [e], by simp [sumSz, hh _ _ _ hb h3, hl], hl2, ?_, by simp [hasL, hb, ht]⟩
        simp only [RepC]
        exact ⟨c1, d1 ++ xs ++ d3, by simp, h3, hr⟩

theorem nth_replicate {n e i : Nat} (h : i < n) : nth (List.replicate n e) i = some e := by
  induction n generalizing i with
  | zero => omega
  | succ n ih =>
    cases i with
    | zero => rfl
    | succ i => simp [List.replicate_succ, nth, ih (by omega : i < n)]

theorem take_replicate_sz (env : Env) {n e i : Nat} (h : i ≤ n) : sumSz env ((List.replicate n e).take i) = i * env.sz e := by
  rw [List.take_replicate, Nat.min_eq_left h, sumSz_replicate]

theorem getF_lt {h : Nat → AVal → Bool} : ∀ {fs : List Nat} {v x : AVal} {i : Nat}, hasL h fs v = true → v.getF i = some x → i < fs.length := by
  intro fs
  induction fs with
  | nil => intro v x i h1 hg; cases v <;> simp [hasL] at h1; simp [AVal.getF] at hg
  | cons t ts ih =>
    intro v x i h1 hg
    cases v <;> simp [hasL] at h1
    rename_i a b
    cases hb : h t a <;> simp [hb] at h1
    cases i with
    | zero => simp
    | succ i => simp [AVal.getF] at hg; have := ih h1 hg; simp; omega

theorem map_split {α β : Type} (f : α → β) (l : List α) (n : Nat) (hn : n < l.length) : l.map f = (l.take n).map f ++ [f l[n]] ++ (l.drop (n + 1)).map f := by
  rw [← List.map_singleton (f := f), ← List.map_append, ← List.map_append]
  congr 1
  rw [List.append_assoc, List.singleton_append, List.getElem_cons_drop, List.take_append_drop]

theorem app3_inj {α : Type} {a b c a' b' c' : List α} (h : a ++ b ++ c = a' ++ b' ++ c') (h1 : a.length = a'.length) (h2 : b.length = b'.length) : a = a' ∧ b = b' ∧ c = c' := by
  rw [List.append_assoc, List.append_assoc] at h
  obtain ⟨e1, e2⟩ := List.append_inj h h1
  obtain ⟨e3, e4⟩ := List.append_inj e2 h2
  exact ⟨e1, e3, e4⟩

theorem set_split {α β : Type} (f : α → β) (l : List α) (n : Nat) (x : α) (hn : n < l.length) : (l.set n x).map f = (l.take n).map f ++ [f x] ++ (l.drop (n + 1)).map f := by
  rw [List.set_eq_take_append_cons_drop, if_pos hn]
  simp

/-! ### the part at a path -/
theorem getP_i {v : AVal} (h : ∀ k n l, v ≠ .arr k n l) (n : Nat) (p : List Step) : AVal.getP (.i n :: p) v = match v.getF n with
    | some u => AVal.getP p u
    | none => none := by
  cases v <;> first | rfl | exact absurd rfl (h _ _ _)

theorem setP_i {v : AVal} (h : ∀ k n l, v ≠ .arr k n l) (n : Nat) (p : List Step) (x : AVal) : AVal.setP (.i n :: p) v x = match v.getF n with
    | some u => match AVal.setP p u x with
      | some u' => v.setF n u'
      | none => none
    | none => none := by
  cases v <;> first | rfl | exact absurd rfl (h _ _ _)

theorem hasL_mono {h h' : Nat → AVal → Bool} (hh : ∀ t v, h t v = true → h' t v = true) : ∀ (fs : List Nat) (v : AVal), hasL h fs v = true → hasL h' fs v = true := by
  intro fs
  induction fs with
  | nil => intro v h1; cases v <;> simp [hasL] at h1 ⊢
  | cons t ts ih =>
    intro v h1
    cases v <;> simp [hasL] at h1 ⊢
    rename_i a b
    cases hb : h t a <;> simp [hb] at h1
    simp [hh _ _ hb, ih _ h1]

theorem hasTy_succ (env : Env) : ∀ (d t : Nat) (v : AVal), hasTy env d t v = true → hasTy env (d + 1) t v = true := by
  intro d
  induction d with
  | zero => intro t v h; simp [hasTy] at h
  | succ d ih =>
    intro t v h
    unfold hasTy at h ⊢
    cases htd : env.td t with
    | none => simp [htd] at h
    | some td =>
      cases td with
      | struct fs => simp only [htd] at h ⊢; exact hasL_mono ih fs v (by simpa using h)
      | arr n e =>
        simp only [htd] at h ⊢
        cases hte : env.td e with
        | none => simp [hte] at h
        | some te =>
          cases te with
          | int k => cases v <;> simp only [hte] at h ⊢ <;> first | exact h | cases h
          | _ => simp only [hte] at h ⊢; exact hasL_mono ih _ v h
      | _ => cases v <;> simp only [htd] at h ⊢ <;> first | exact h | cases h

theorem hasTy_mono {env : Env} {d d' t : Nat} {v : AVal} (hd : d ≤ d') (h : hasTy env d t v = true) : hasTy env d' t v = true := by
  induction hd with
  | refl => exact h
  | step _ ih => exact hasTy_succ env _ _ _ ih

theorem getP_rep {env : Env} {ρ : PMap} {Z : Zone} (hs : SzOk env) : ∀ (p : List Step) (t u : Nat) (v x : AVal) (cs : List Value),
    HT env t v → RepC env ρ Z v cs → typeP env p t = some u → validP env p t → AVal.getP p v = some x →
      ∃ c1 c2 c3, cs = c1 ++ c2 ++ c3 ∧ c1.length = offP env p t ∧ RepC env ρ Z x c2 ∧ HT env u x := by
  intro p
  induction p with
  | nil =>
    intro t u v x cs h hr ht _ hg
    simp [typeP] at ht; simp [AVal.getP] at hg
    subst ht; subst hg
    exact ⟨[], cs, [], by simp, by simp [offP], hr, h⟩
  | cons s p ih =>
    intro t u v x cs h hr ht hv hg
    obtain ⟨d, h⟩ := h
    cases d with
    | zero => simp [hasTy] at h
    | succ d =>
    cases s with
    | f i =>
      cases htd : env.td t with
      | none => simp [typeP, htd] at ht
      | some td =>
        cases td <;> simp [typeP, htd] at ht
        rename_i fs
        cases hn : nth fs i with
        | none => simp [hn] at ht
        | some w =>
          simp [hn] at ht
          simp [validP, htd, hn] at hv
          cases hgf : v.getF i with
          | none => simp [AVal.getP, hgf] at hg
          | some y =>
            simp [AVal.getP, hgf] at hg
            have h' : hasL (hasTy env d) fs v = true := by unfold hasTy at h; simpa [htd] using h
            obtain ⟨c1, c2, c3, e, hl, hy, hty⟩ := getF_rep (fun t v cs => hasTy_len hs d t v cs) fs i w v y cs h' hr hn hgf
            obtain ⟨d1, d2, d3, e2, hl2, hx, htx⟩ := ih w u y x c2 ⟨d, hty⟩ hy ht hv hg
            exact ⟨c1 ++ d1, d2, d3 ++ c3, by simp [e, e2], by simp [offP, htd, hn, hl, hl2], hx, htx⟩
    | i n =>
      cases htd : env.td t with
      | none => simp [typeP, htd] at ht
      | some td =>
        cases td <;> simp [typeP, htd] at ht
        rename_i m e
        simp [validP, htd] at hv
        unfold hasTy at h
        simp only [htd] at h
        cases hte : env.td e with
        | none => simp [hte] at h
        | some te =>
          by_cases hint : ∃ k, te = .int k
          · obtain ⟨k, rfl⟩ := hint
            have hsze := hs e _ hte
            cases v <;> simp [hte] at h
            rename_i k' n' l
            cases hsm : IntKind.same k k' <;> simp [hsm] at h
            have hkk := same_eq hsm
            subst hkk; subst h
            cases p with
            | cons s p => simp [AVal.getP] at hg
            | nil =>
              simp [AVal.getP] at hg
              simp [typeP] at ht
              subst ht; subst hg
              simp only [RepC] at hr
              obtain ⟨hl, rfl⟩ := hr
              have hn : n < l.length := by omega
              refine ⟨(l.take n).map fun x => .int k (toI k x), [.int k (toI k l[n])], (l.drop (n + 1)).map fun x => .int k (toI k x), map_split _ l n hn, ?_, ?_, ⟨1, ?_⟩⟩
              · simp [offP, htd, hsze, szOf, Nat.min_eq_left (Nat.le_of_lt hn)]
              · simp [RepC, List.getD_eq_getElem?_getD, hn]
              · simp only [hasTy, hte]; cases k <;> rfl
          · have h' : hasL (hasTy env d) (List.replicate m e) v = true := by
              cases te with
              | int k => exact absurd ⟨_, rfl⟩ hint
              | _ => simp only [hte] at h; exact h
            have hna : ∀ k n' l, v ≠ .arr k n' l := by
              rintro k n' l rfl
              cases m <;> simp [List.replicate_succ, hasL] at h'
            rw [getP_i hna] at hg
            cases hgf : v.getF n with
            | none => simp [hgf] at hg
            | some y =>
              have hg' : AVal.getP p y = some x := by simpa [hgf] using hg
              obtain ⟨c1, c2, c3, e1, hl, hy, hty⟩ := getF_rep (fun t v cs => hasTy_len hs d t v cs) _ n e v y cs h' hr (nth_replicate hv.1) hgf
              obtain ⟨d1, d2, d3, e2, hl2, hx, htx⟩ := ih e u y x c2 ⟨d, hty⟩ hy ht hv.2 hg'
              exact ⟨c1 ++ d1, d2, d3 ++ c3, by simp [e1, e2], by rw [List.length_append, hl, hl2, take_replicate_sz env (Nat.le_of_lt hv.1)]; simp [offP, htd], hx, htx⟩
theorem setP_rep {env : Env} {ρ : PMap} {Z : Zone} (hs : SzOk env) : ∀ (p : List Step) (t u : Nat) (v x v' : AVal) (cs xs : List Value),
    HT env t v → RepC env ρ Z v cs → typeP env p t = some u → validP env p t → AVal.setP p v x = some v' → HT env u x → RepC env ρ Z x xs →
      ∃ c1 c2 c3, cs = c1 ++ c2 ++ c3 ∧ c1.length = offP env p t ∧ c2.length = xs.length ∧ RepC env ρ Z v' (c1 ++ xs ++ c3) ∧ HT env t v' := by
  intro p
  induction p with
  | nil =>
    intro t u v x v' cs xs h hr ht _ hg hx hxr
    simp [typeP] at ht; simp [AVal.setP] at hg
    subst ht; subst hg
    exact ⟨[], cs, [], by simp, by simp [offP], by rw [h.len hs hr, hx.len hs hxr], by simpa using hxr, hx⟩
  | cons s p ih =>
    intro t u v x v' cs xs h hr ht hv hg hx hxr
    obtain ⟨d, h⟩ := h
    cases d with
    | zero => simp [hasTy] at h
    | succ d =>
    cases s with
    | f i =>
      cases htd : env.td t with
      | none => simp [typeP, htd] at ht
      | some td =>
        cases td <;> simp [typeP, htd] at ht
        rename_i fs
        cases hn : nth fs i with
        | none => simp [hn] at ht
        | some w =>
          simp [hn] at ht
          simp [validP, htd, hn] at hv
          cases hgf : v.getF i with
          | none => simp [AVal.setP, hgf] at hg
          | some y =>
            cases hsy : AVal.setP p y x with
            | none => simp [AVal.setP, hgf, hsy] at hg
            | some y' =>
              simp [AVal.setP, hgf, hsy] at hg
              have h' : hasL (hasTy env d) fs v = true := by unfold hasTy at h; simpa [htd] using h
              obtain ⟨c1, c2, c3, e, hl, hy, hty⟩ := getF_rep (fun t v cs => hasTy_len hs d t v cs) fs i w v y cs h' hr hn hgf
              obtain ⟨d1, d2, d3, e2, hl2, hl3, hx2, d', htx⟩ := ih w u y x y' c2 xs ⟨d, hty⟩ hy ht hv hsy hx hxr
              have h2 : hasL (hasTy env (max d d')) fs v = true := hasL_mono (fun t v h => hasTy_mono (Nat.le_max_left _ _) h) fs v h'
              obtain ⟨e1, e2', e3, e4, f1, f2, f3, f4⟩ := setF_rep (ρ := ρ) (Z := Z) (fun t v cs => hasTy_len hs _ t v cs) fs i w v y' v' cs (d1 ++ xs ++ d3) h2 hr hn hg (hasTy_mono (Nat.le_max_right _ _) htx) hx2
              obtain ⟨g1, -, g2⟩ := app3_inj (e4.symm.trans e) (by rw [f1, hl]) (by rw [f2, e2]; simp [hl3])
              subst g1; subst g2
              refine ⟨e1 ++ d1, d2, d3 ++ e3, by simp [e, e2], by simp [offP, htd, hn, hl, hl2], hl3, by simpa using f3, ⟨max d d' + 1, ?_⟩⟩
              unfold hasTy; simpa [htd] using f4
    | i n =>
      cases htd : env.td t with
      | none => simp [typeP, htd] at ht
      | some td =>
        cases td <;> simp [typeP, htd] at ht
        rename_i m e
        simp [validP, htd] at hv
        have h0 := h
        unfold hasTy at h
        simp only [htd] at h
        cases hte : env.td e with
        | none => simp [hte] at h
        | some te =>
          by_cases hint : ∃ k, te = .int k
          · obtain ⟨k, rfl⟩ := hint
            have hsze := hs e _ hte
            cases v <;> simp [hte] at h
            rename_i k' n' l
            cases hsm : IntKind.same k k' <;> simp [hsm] at h
            have hkk := same_eq hsm
            subst hkk; subst h
            cases p with
            | cons s p => simp [AVal.setP] at hg
            | nil =>
              cases x <;> simp [AVal.setP] at hg
              rename_i k2 y
              cases hc : castT k k2 y with
              | none => simp [hc] at hg
              | some y' =>
                simp [hc] at hg
                obtain ⟨rfl, rfl⟩ := castT_some hc
                simp [typeP] at ht
                subst ht; subst hg
                simp only [RepC] at hr hxr
                obtain ⟨hl, rfl⟩ := hr
                have hn : n < l.length := by omega
                refine ⟨(l.take n).map fun x => .int k2 (toI k2 x), [.int k2 (toI k2 l[n])], (l.drop (n + 1)).map fun x => .int k2 (toI k2 x), map_split _ l n hn, ?_, by simp [hxr], ?_, ⟨d + 1, ?_⟩⟩
                · simp [offP, htd, hsze, szOf, Nat.min_eq_left (Nat.le_of_lt hn)]
                · simp only [RepC]
                  exact ⟨by simp [hl], by rw [hxr]; exact (set_split _ l n _ hn).symm⟩
                · unfold hasTy at h0 ⊢; simpa [htd, hte] using h0
          · have h' : hasL (hasTy env d) (List.replicate m e) v = true := by
              cases te with
              | int k => exact absurd ⟨_, rfl⟩ hint
              | _ => simp only [hte] at h; exact h
            have hna : ∀ k n' l, v ≠ .arr k n' l := by
              rintro k n' l rfl
              cases m <;> simp [List.replicate_succ, hasL] at h'
            rw [setP_i hna] at hg
            cases hgf : v.getF n with
            | none => simp [hgf] at hg
            | some y =>
              cases hsy : AVal.setP p y x with
              | none => simp [hgf, hsy] at hg
              | some y' =>
                simp [hgf, hsy] at hg
                have hnn := nth_replicate (e := e) hv.1
                obtain ⟨c1, c2, c3, e', hl, hy, hty⟩ := getF_rep (fun t v cs => hasTy_len hs d t v cs) _ n e v y cs h' hr hnn hgf
                obtain ⟨d1, d2, d3, e2, hl2, hl3, hx2, d', htx⟩ := ih e u y x y' c2 xs ⟨d, hty⟩ hy ht hv.2 hsy hx hxr
                have h2 : hasL (hasTy env (max d d')) (List.replicate m e) v = true := hasL_mono (fun t v h => hasTy_mono (Nat.le_max_left _ _) h) _ v h'
                obtain ⟨e1, e2', e3, e4, f1, f2, f3, f4⟩ := setF_rep (ρ := ρ) (Z := Z) (fun t v cs => hasTy_len hs _ t v cs) _ n e v y' v' cs (d1 ++ xs ++ d3) h2 hr hnn hg (hasTy_mono (Nat.le_max_right _ _) htx) hx2
                obtain ⟨g1, -, g2⟩ := app3_inj (e4.symm.trans e') (by rw [f1, hl]) (by rw [f2, e2]; simp [hl3])
                subst g1; subst g2
                refine ⟨e1 ++ d1, d2, d3 ++ e3, by simp [e', e2], by rw [List.length_append, hl, hl2, take_replicate_sz env (Nat.le_of_lt hv.1)]; simp [offP, htd], hl3, by simpa using f3, ⟨max d d' + 1, ?_⟩⟩
                unfold hasTy
                simp only [htd]
                cases te with
                | int k => exact absurd ⟨_, rfl⟩ hint
                | _ => simp only [hte]; exact f4
end Go.Abs
