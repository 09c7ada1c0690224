/- Keys of maps: plain values. Records with slices, read back from values. The program's environment: types, keys of maps, methods, package-level variables; that it fits; what the library's bare functions answer. -/
import Derived.Test.YtadiphoihflmiaaGreatDoorZaq
import Derived.Test.YtadiphoihflmiaaGreatDoorZar
import Derived.KernelRfl
import Derived.Stop.Asserts
set_option linter.all false
namespace Go.Abs

/-- A value without pointers, in the look of its form. -/
def AVal.plain : AVal → Bool
  | .int _ _ => true
  | .bool _ => true
  | .str _ => true
  | .arr _ _ _ => true
  | .unit => true
  | .pair a b => andB (plain a) (plain b)
  | _ => false

theorem plain_rep {env env' : Env} {ρ ρ' : PMap} {Z Z' : Zone} : ∀ {v : AVal} {cs : List Value}, v.plain = true → RepC env ρ Z v cs → RepC env' ρ' Z' v cs := by
  intro v
  induction v with
  | pair a b iha ihb =>
    intro cs hp h
    obtain ⟨p1, p2⟩ := andB_iff.1 hp
    simp only [RepC] at h ⊢
    obtain ⟨c1, c2, rfl, h1, h2⟩ := h
    exact ⟨c1, c2, rfl, iha p1 h1, ihb p2 h2⟩
  | int | bool | str | arr | unit => intro cs _ h; simpa only [RepC] using h
  | _ => intro cs hp; simp [AVal.plain] at hp

theorem plain_repV {env env' : Env} {ρ ρ' : PMap} {Z Z' : Zone} {v : AVal} {x : Value} (hp : v.plain = true) (h : RepV env ρ Z v x) : RepV env' ρ' Z' v x := by
  unfold RepV at *
  cases ha : v.isAgg with
  | true => rw [ha] at h; obtain ⟨az, e, h⟩ := h; exact ⟨az, e, plain_rep hp h⟩
  | false => rw [ha] at h; exact plain_rep hp h

theorem plain_uniq {env : Env} {ρ : PMap} {Z : Zone} : ∀ {v : AVal} {cs ds : List Value}, v.plain = true → RepC env ρ Z v cs → RepC env ρ Z v ds → cs = ds := by
  intro v
  induction v with
  | pair a b iha ihb =>
    intro cs ds hp h h'
    obtain ⟨p1, p2⟩ := andB_iff.1 hp
    simp only [RepC] at h h'
    obtain ⟨c1, c2, rfl, h1, h2⟩ := h
    obtain ⟨d1, d2, rfl, g1, g2⟩ := h'
    rw [iha p1 h1 g1, ihb p2 h2 g2]
  | int | bool | str | unit => intro cs ds _ h h'; simp only [RepC] at h h'; rw [h, h']
  | arr k n l => intro cs ds _ h h'; simp only [RepC] at h h'; rw [h.2, h'.2]
  | _ => intro cs ds hp; simp [AVal.plain] at hp

theorem plain_uniqV {env : Env} {ρ : PMap} {Z : Zone} {v : AVal} {x y : Value} (hp : v.plain = true) (h : RepV env ρ Z v x) (h' : RepV env ρ Z v y) : x = y := by
  unfold RepV at *
  cases ha : v.isAgg with
  | true =>
    rw [ha] at h h'
    obtain ⟨az, e, h⟩ := h
    obtain ⟨bs, e', h'⟩ := h'
    rw [e, e', Array.ext' (plain_uniq hp h h')]
  | false =>
    rw [ha] at h h'
    have := plain_uniq hp h h'
    simpa using this

/-- The cells of plain values are numbers, truths and strings. -/
def easy : Value → Bool
  | .int _ _ => true
  | .bool _ => true
  | .string _ => true
  | _ => false

theorem plain_easy {env : Env} {ρ : PMap} {Z : Zone} : ∀ {v : AVal} {cs : List Value}, v.plain = true → RepC env ρ Z v cs → ∀ c, c ∈ cs → easy c = true := by
  intro v
  induction v with
  | pair a b iha ihb =>
    intro cs hp h c hc
    obtain ⟨p1, p2⟩ := andB_iff.1 hp
    simp only [RepC] at h
    obtain ⟨c1, c2, rfl, h1, h2⟩ := h
    rw [List.mem_append] at hc
    exact hc.elim (iha p1 h1 c) (ihb p2 h2 c)
  | int | bool | str => intro cs _ h c hc; simp only [RepC] at h; subst h; simp at hc; subst hc; rfl
  | unit => intro cs _ h c hc; simp only [RepC] at h; subst h; cases hc
  | arr k n l =>
    intro cs _ h c hc
    simp only [RepC] at h
    obtain ⟨_, rfl⟩ := h
    simp at hc
    obtain ⟨x, _, rfl⟩ := hc
    rfl
  | _ => intro cs hp; simp [AVal.plain] at hp

theorem easy_bits {v : Value} {n : Nat} (h : easy v = true) : Instr.sameBits n v v = true := by
  have hs : ∀ s : ByteArray, (s == s) = true := fun s => by
    cases s with
    | mk d => exact (beq_self_eq_true d : (d == d) = true)
  cases v <;> simp [easy] at h <;> (cases n <;> simp [Instr.sameBits, hs])

theorem plain_bits {env : Env} {ρ : PMap} {Z : Zone} {v : AVal} {x : Value} (hp : v.plain = true) (h : RepV env ρ Z v x) : Instr.sameBits 10000 x x = true := by
  unfold RepV at h
  cases ha : v.isAgg with
  | true =>
    rw [ha] at h
    obtain ⟨az, rfl, h⟩ := h
    have hl : ∀ (n : Nat), Instr.sameBits (n + 1) (.agg az) (.agg az) = true := fun n => by
      simp only [Instr.sameBits, beq_self_eq_true, Bool.true_and, List.all_eq_true]
      rintro ⟨p, q⟩ hpq
      have e : ∀ (l : List Value) (p q : Value), (p, q) ∈ l.zip l → p = q ∧ p ∈ l := by
        intro l
        induction l with
        | nil => intro p q h; simp at h
        | cons z l ih =>
          intro p q h
          simp only [List.zip_cons_cons, List.mem_cons, Prod.mk.injEq] at h
          rcases h with ⟨rfl, rfl⟩ | h
          · simp
          · have := ih p q h; exact ⟨this.1, by simp [this.2]⟩
      obtain ⟨rfl, hm⟩ := e _ _ _ hpq
      exact easy_bits (plain_easy hp h _ hm)
    exact hl 9999
  | false =>
    rw [ha] at h
    exact easy_bits (plain_easy hp h x (by simp))

section
variable {P : Program} {env : Env} {ρ : PMap} {Z : Zone}

theorem forIn_ok {α : Type} {f : α → PUnit → Sem (ForInStep PUnit)} {w : World} : ∀ {l : List α}, (∀ a, a ∈ l → (f a ⟨⟩).run P w = .ok (.yield ⟨⟩) w) → (forIn l PUnit.unit f).run P w = .ok ⟨⟩ w
  | [], _ => rfl
  | a :: l, h => by
    simp only [List.forIn_cons, Sem.run_bind, h a (by simp), Result.andThen_ok]
    exact forIn_ok fun b hb => h b (by simp [hb])

def allT (f : Nat → Bool) : List Nat → Bool
  | [] => true
  | t :: ts => andB (f t) (allT f ts)

theorem allT_spec {f : Nat → Bool} : ∀ {l : List Nat}, allT f l = true → ∀ t, t ∈ l → f t = true
  | [], _, t, h => by cases h
  | u :: l, hh, t, h => by
    obtain ⟨h1, h2⟩ := andB_iff.1 hh
    rw [List.mem_cons] at h
    rcases h with rfl | h
    · exact h1
    · exact allT_spec h2 t h

/-- A type whose values may be keys, in the look of its form. -/
def keyB (env : Env) : Nat → Nat → Bool
  | 0, _ => false
  | d + 1, t => match env.td t with
    | some .bool => true
    | some (.int _) => true
    | some .str => true
    | some (.arr _ e) => match env.td e with
      | some (.int _) => true
      | _ => false
    | some (.struct fs) => allT (keyB env d) fs
    | _ => false

theorem getElem_part {cs : List Value} {i : Nat} {c : Value} (he : EnvOk P env) {e : Nat} {k : IntKind} (hte : env.td e = some (.int k)) (h : cs[i]? = some c) (w : World) : (part e cs.toArray (i * env.sz e)).run P w = .ok c w := by
  have h1 : env.sz e = 1 := by rw [he.size e _ hte]; rfl
  unfold part
  simp [run_isAgg he hte, TD.agg, h1, h]

theorem checkKey_plain (he : EnvOk P env) (w : World) (em : Bool) : ∀ (d t : Nat) (v : AVal) (D : Nat) (x : Value), hasTy env d t v = true → keyB env d t = true → d < D → RepV env ρ Z v x → (Instr.checkKey em D t x).run P w = .ok () w := by
  intro d
  induction d with
  | zero => intro t v D x h; simp [hasTy] at h
  | succ d ih =>
    intro t v D x h hk hD hx
    obtain ⟨D, rfl⟩ : ∃ D', D = D' + 1 := ⟨D - 1, by omega⟩
    unfold hasTy at h
    cases htd : env.td t with
    | none => simp [htd] at h
    | some td =>
      have hu := he.und t td htd
      cases td with
      | bool =>
        cases v <;> simp [htd] at h
        rw [repV_bool] at hx; subst hx
        simp only [UndOk] at hu
        simp [Instr.checkKey, run_underlying' hu]
      | int k =>
        cases v <;> simp [htd] at h
        rw [repV_int] at hx; subst hx
        simp only [UndOk] at hu
        simp [Instr.checkKey, run_underlying' hu]
      | str =>
        cases v <;> simp [htd] at h
        rw [repV_str] at hx; subst hx
        simp only [UndOk] at hu
        simp [Instr.checkKey, run_underlying' hu]
      | arr n el =>
        simp only [UndOk] at hu
        have hte : ∃ k, env.td el = some (.int k) := by
          simp only [keyB, htd] at hk
          cases hte : env.td el with
          | none => simp [hte] at hk
          | some te => cases te <;> simp [hte] at hk; exact ⟨_, rfl⟩
        obtain ⟨k, hte⟩ := hte
        have hue := he.und el _ hte
        simp only [UndOk] at hue
        simp only [htd, hte] at h
        cases v <;> simp at h
        rename_i k' n' l
        cases hs : IntKind.same k k' <;> simp [hs] at h
        subst h
        obtain ⟨hl, rfl⟩ := repV_arr.1 hx
        unfold Instr.checkKey
        simp only [Sem.run_bind, run_underlying' hu, Result.andThen_ok, Std.Legacy.Range.forIn_eq_forIn_range', Std.Legacy.Range.size, Nat.sub_zero, Nat.add_one_sub_one, Nat.div_one]
        refine (congrArg (fun r => Result.andThen r _) (forIn_ok (P := P) (w := w) fun i hi => ?_)).trans ?_
        · rw [List.mem_range'] at hi
          obtain ⟨j, hj, rfl⟩ := hi
          have hlt : 0 + 1 * j < l.length := by omega
          have hget : (l.map fun x => Value.int k' (toI k' x))[0 + 1 * j]? = some (.int k' (toI k' l[0 + 1 * j])) := by rw [List.getElem?_map, List.getElem?_eq_getElem hlt]; rfl
          simp only [Sem.run_bind, run_sizeOf he hte, Result.andThen_ok, getElem_part he hte hget w]
          obtain ⟨D, rfl⟩ : ∃ D', D = D' + 1 := ⟨D - 1, by omega⟩
          simp [Instr.checkKey, run_underlying' hue]
        · rfl
      | struct fs =>
        have hL : hasL (hasTy env d) fs v = true := by simpa [htd] using h
        obtain ⟨fields, hu, hfs, hoff⟩ := hu
        have hag := hasL_agg hL
        unfold RepV at hx
        rw [hag] at hx
        obtain ⟨az, rfl, hx⟩ := hx
        have hall : allT (keyB env d) fs = true := by simpa [keyB, htd] using hk
        unfold Instr.checkKey
        simp only [Sem.run_bind, run_underlying' hu, Result.andThen_ok]
        rw [← Array.forIn_toList]
        refine (congrArg (fun r => Result.andThen r _) (forIn_ok (P := P) (w := w) fun f hf => ?_)).trans ?_
        · obtain ⟨i, hi⟩ := List.mem_iff_getElem?.1 hf
          have hi' : fields[i]? = some f := by simpa using hi
          have ht : nth fs i = some f.type := by rw [nth_get, ← hfs, List.getElem?_map, hi]; rfl
          have hmem : f.type ∈ fs := by rw [← hfs]; exact List.mem_map.2 ⟨f, hf, rfl⟩
          obtain ⟨y, hy⟩ : ∃ y, v.getF i = some y := by
            have : ∀ (fs : List Nat) (v : AVal) (i u : Nat), hasL (hasTy env d) fs v = true → nth fs i = some u → ∃ y, v.getF i = some y := by
              intro fs
              induction fs with
              | nil => intro v i u _ h; simp [nth] at h
              | cons t ts ihf =>
                intro v i u h1 h2
                cases v <;> simp [hasL] at h1
                rename_i a b
                cases hb : hasTy env d t a <;> simp [hb] at h1
                cases i with
                | zero => exact ⟨a, rfl⟩
                | succ i => simp [nth] at h2; exact ihf b i u h1 h2
            exact this fs v i _ hL ht
          obtain ⟨c1, c2, c3, e1, e2, e3, e4⟩ := getF_rep (hasTy_len he.size d) fs i _ v y _ hL hx ht hy
          obtain ⟨z, hz, hrz⟩ := run_part (P := P) he (o := f.offset) ⟨d, e4⟩ e3 e1 (by rw [e2, hoff i f hi']) w
          have := ih f.type y D z e4 (allT_spec hall _ hmem) (by omega) hrz
          have hz' : (part f.type az f.offset).run P w = .ok z w := by simpa using hz
          by_cases hn : f.name = "_"
          · simp [hn]
          · simp [hn, hz', this]
        · rfl
      | _ => simp [keyB, htd] at hk

/-- A codec's values as keys: by three facts that evaluation shows. -/
theorem keyOk_of {env' : Env} (he : EnvOk P env') (hn : ∀ i, env'.gv i = none) {env : Env} {t : Nat} {c : Codec} {f : c.α → c.α → Bool} (h1 : ∀ a b, eqV env' 8 t (c.enc a) (c.enc b) = some (f a b)) (h2 : ∀ a, hasTy env' 8 t (c.enc a) = true)
    (h3 : ∀ a b, f a b = true → c.enc a = c.enc b) (h4 : ∀ a, (c.enc a).plain = true) (h5 : keyB env' 8 t = true) : KeyOk P env t c f := by
  intro ρ Z a b x y w hx hy
  let Z0 : Zone := ⟨fun _ _ => none, fun id => (id, 0)⟩
  have hG : GOk env' Z0 w := ⟨fun id t v h => absurd ((hn id).symm.trans h) (by simp), fun _ _ => rfl, fun i j h => absurd (hn i) h, fun id h => absurd (hn id) h⟩
  have hx' : RepV env' ρ Z0 (c.enc a) x := plain_repV (h4 a) hx
  have hy' : RepV env' ρ Z0 (c.enc b) y := plain_repV (h4 b) hy
  refine ⟨?_, fun hf => ?_, fun e => ?_⟩
  · exact eqV_run he w hG 8 t _ _ _ (h1 a b) ⟨8, h2 a⟩ ⟨8, h2 b⟩ 10000 (by omega) x y hx' hy'
  · rw [← h3 a b hf] at hy'
    have := plain_uniqV (h4 a) hx' hy'
    subst this
    exact ⟨rfl, plain_bits (h4 a) hx'⟩
  · exact checkKey_plain he w e 8 t _ 10000 x (h2 a) h5 (by omega) hx'
end
end Go.Abs

namespace Go.Abs

/-! ### tuples, part by part -/
theorem hasL_le {h h' : Nat → AVal → Bool} : ∀ {fs : List Nat} {l l' : List AVal}, LeL l l' → (∀ t v v', AVal.Le v v' → h t v = true → h t v' = true) → hasL h fs (AVal.ofList l) = true → hasL h fs (AVal.ofList l') = true
  | [], [], [], _, _, hl => hl
  | _, [], _ :: _, hle, _, _ => hle.elim
  | _, _ :: _, [], hle, _, _ => hle.elim
  | [], _ :: _, _ :: _, _, _, hl => by simp [AVal.ofList, hasL] at hl
  | _ :: _, [], [], _, _, hl => by simp [AVal.ofList, hasL] at hl
  | t :: ts, v :: vs, w :: ws, hle, hh, hl => by
    simp only [AVal.ofList, hasL] at hl ⊢
    cases hb : h t v with
    | false => rw [hb] at hl; cases hl
    | true =>
      rw [hb] at hl
      rw [hh t v w hle.1 hb]
      exact hasL_le (h' := h') hle.2 hh hl

theorem AVal.Le.ofList {l l' : List AVal} (h : LeL l l') : AVal.Le (AVal.ofList l) (AVal.ofList l') := by
  refine ⟨?_, ?_, ?_, ?_⟩
  · induction l generalizing l' with
    | nil =>
      cases l' with
      | nil => exact fun _ h => h
      | cons => exact h.elim
    | cons v vs ih =>
      cases l' with
      | nil => exact h.elim
      | cons w ws =>
        intro k hk
        simp only [AVal.ofList, AVal.keys, List.mem_append] at hk ⊢
        exact hk.imp (h.1.keys k) (ih h.2 k)
  · cases l <;> cases l' <;> first | rfl | exact h.elim
  · intro env ρ Z
    induction l generalizing l' with
    | nil =>
      cases l' with
      | nil => exact fun h => h
      | cons => exact h.elim
    | cons v vs ih =>
      cases l' with
      | nil => exact h.elim
      | cons w ws =>
        intro cs hr
        simp only [AVal.ofList, RepC] at hr ⊢
        obtain ⟨c1, c2, rfl, h1, h2⟩ := hr
        exact ⟨c1, c2, rfl, h.1.rep h1, ih h.2 h2⟩
  · intro env d t hr
    cases d with
    | zero => simp [hasTy] at hr
    | succ d =>
      have hle : ∀ t v v', AVal.Le v v' → hasTy env d t v = true → hasTy env d t v' = true := fun t v v' hl => hl.ty
      cases htd : env.td t with
      | none => cases l <;> simp [hasTy, htd, AVal.ofList] at hr
      | some td =>
        cases td with
        | struct fs =>
          have h1 : hasTy env (d + 1) t (AVal.ofList l) = hasL (hasTy env d) fs (AVal.ofList l) := by cases l <;> simp [hasTy, htd, AVal.ofList]
          have h2 : hasTy env (d + 1) t (AVal.ofList l') = hasL (hasTy env d) fs (AVal.ofList l') := by cases l' <;> simp [hasTy, htd, AVal.ofList]
          rw [h1] at hr
          rw [h2]
          exact hasL_le (h' := hasTy env d) h hle hr
        | arr n e =>
          cases hte : env.td e with
          | none => cases l <;> simp [hasTy, htd, hte, AVal.ofList] at hr
          | some te =>
            cases te with
            | int k => cases l <;> simp [hasTy, htd, hte, AVal.ofList] at hr
            | _ =>
              have h1 : hasTy env (d + 1) t (AVal.ofList l) = hasL (hasTy env d) (List.replicate n e) (AVal.ofList l) := by cases l <;> simp [hasTy, htd, hte, AVal.ofList]
              have h2 : hasTy env (d + 1) t (AVal.ofList l') = hasL (hasTy env d) (List.replicate n e) (AVal.ofList l') := by cases l' <;> simp [hasTy, htd, hte, AVal.ofList]
              rw [h1] at hr
              rw [h2]
              exact hasL_le (h' := hasTy env d) h hle hr
        | _ => cases l <;> simp [hasTy, htd, AVal.ofList] at hr

/-! ### reading back -/
def unL : AVal → Option (List AVal)
  | .unit => some []
  | .pair a b => match unL b with
    | some l => some (a :: l)
    | none => none
  | _ => none
theorem unL_eq : ∀ {v : AVal} {l : List AVal}, unL v = some l → v = AVal.ofList l := by
  intro v
  induction v with
  | unit => intro l h; cases h; rfl
  | pair a b _ ihb =>
    intro l h
    simp only [unL] at h
    cases hb : unL b with
    | none => simp [hb] at h
    | some m => simp [hb] at h; subst h; rw [ihb hb]; rfl
  | _ => intro l h; simp [unL] at h

def decI : AVal → Option Int
  | .int .i64 n => some n
  | _ => none
def decB : AVal → Option Bool
  | .bool b => some b
  | _ => none
def decArr (n : Nat) : AVal → Option (List UInt8)
  | .arr .u8 m l => match Nat.beq m n with
    | true => some l
    | false => none
  | _ => none
def decU : AVal → Option (List UInt8)
  | .vw .u8 l => some l
  | .nilsl => some []
  | _ => none
def decIs : AVal → Option (List Int)
  | .vw .i64 l => some l
  | .nilsl => some []
  | _ => none
def decComms : AVal → Option (List CommD)
  | .vr .comm e _ _ l => match Nat.beq e 88 with
    | true => some l
    | false => none
  | .nilsl => some []
  | _ => none

theorem decI_le {v : AVal} {n : Int} (h : decI v = some n) : AVal.Le v (.int .i64 n) := AVal.Le.of_eq (by unfold decI at h; split at h <;> cases h; rfl)
theorem decB_le {v : AVal} {b : Bool} (h : decB v = some b) : AVal.Le v (.bool b) := AVal.Le.of_eq (by unfold decB at h; split at h <;> cases h; rfl)
theorem decArr_le {n : Nat} {v : AVal} {l : List UInt8} (h : decArr n v = some l) : AVal.Le v (.arr .u8 n l) := AVal.Le.of_eq (by
  unfold decArr at h
  split at h
  · split at h <;> cases h
    rename_i hm; have := beq_eq hm; subst this; rfl
  · cases h)

theorem nilsl_ty {v : AVal} (hv : ∀ (env : Env) d t e, env.td t = some (.slice e) → hasTy env (d + 1) t v = true) {env : Env} {d t : Nat} (h : hasTy env d t .nilsl = true) : hasTy env d t v = true := by
  cases d with
  | zero => simp [hasTy] at h
  | succ d =>
    cases htd : env.td t with
    | none => simp [hasTy, htd] at h
    | some td =>
      cases td with
      | slice e => exact hv env d t e htd
      | struct fs => cases fs <;> simp [hasTy, htd, hasL] at h
      | arr n e =>
        cases hte : env.td e with
        | none => simp [hasTy, htd, hte] at h
        | some te => cases te <;> cases n <;> simp [hasTy, htd, hte, hasL, List.replicate] at h
      | _ => simp [hasTy, htd] at h

theorem nilsl_vw (k : IntKind) : AVal.Le .nilsl (.vw k []) := ⟨fun _ h => by simp [AVal.keys] at h, rfl, fun h => by
  simp only [RepC] at h ⊢
  exact ⟨none, 0, h, Nat.le_refl _, fun h => (h rfl).elim⟩, nilsl_ty fun env d t e ht => by simp [hasTy, ht]⟩
theorem nilsl_vr (tg : VT) (e : Nat) (d : tg.ty) : AVal.Le .nilsl (.vr tg e (encT tg) d []) := ⟨fun _ h => by simp [AVal.keys] at h, rfl, fun h => by
  simp only [RepC] at h ⊢
  exact ⟨trivial, none, 0, h, Nat.le_refl _, fun h => (h rfl).elim⟩, nilsl_ty fun env d t e ht => by simp [hasTy, ht]⟩

theorem decU_le {v : AVal} {l : List UInt8} (h : decU v = some l) : AVal.Le v (.vw .u8 l) := by
  unfold decU at h
  split at h <;> cases h
  · exact AVal.Le.refl _
  · exact nilsl_vw _
theorem decIs_le {v : AVal} {l : List Int} (h : decIs v = some l) : AVal.Le v (.vw .i64 l) := by
  unfold decIs at h
  split at h <;> cases h
  · exact AVal.Le.refl _
  · exact nilsl_vw _
theorem decComms_le {v : AVal} {l : List CommD} (h : decComms v = some l) : AVal.Le v (.vr .comm 88 commE comm0 l) := by
  unfold decComms at h
  split at h
  · split at h <;> cases h
    rename_i hm
    have := beq_eq hm; subst this
    refine ⟨fun _ h => by simp [AVal.keys] at h, rfl, fun h => ?_, fun {env d t} h => ?_⟩
    · simp only [RepC] at h ⊢
      obtain ⟨rfl, h⟩ := h
      exact ⟨rfl, h⟩
    · cases d with
      | zero => simp [hasTy] at h
      | succ d =>
        cases htd : env.td t with
        | none => simp [hasTy, htd] at h
        | some td => cases td <;> simp_all [hasTy, hasL] <;> (repeat' split at h) <;> simp_all [hasL]
  · cases h; exact nilsl_vr .comm 88 comm0
  · cases h

def decComm (v : AVal) : Option CommD := match unL v with
  | some [a, b, c] => (decI a).bind fun a => (decArr 32 b).bind fun b => (decArr 32 c).bind fun c => some ⟨a, b, c⟩
  | _ => none
theorem decComm_le {v : AVal} {c : CommD} (h : decComm v = some c) : AVal.Le v (commE c) := by
  unfold decComm at h
  split at h
  · rename_i a b c hu
    rw [unL_eq hu]
    simp only [Option.bind_eq_some_iff] at h
    obtain ⟨a', h1, b', h2, c', h3, h⟩ := h
    cases h
    exact AVal.Le.ofList (l' := [_, _, _]) ⟨decI_le h1, decArr_le h2, decArr_le h3, trivial⟩
  · cases h

def decSeen (v : AVal) : Option SeenD := match unL v with
  | some [k, ev, id, ses, pk, pr, ls, tx, sh, sg, cd, is] => match unL pk with
    | some [s, d, b] => (decI k).bind fun k => (decI ev).bind fun ev => (decI id).bind fun id => (decArr 32 ses).bind fun ses =>
      (decI s).bind fun s => (decI d).bind fun d => (decU b).bind fun b => (decComm pr).bind fun pr => (decComms ls).bind fun ls =>
      (decU tx).bind fun tx => (decArr 32 sh).bind fun sh => (decArr 64 sg).bind fun sg => (decI cd).bind fun cd => (decIs is).bind fun is =>
      some ⟨k, ev, id, ses, s, d, b, pr, ls, tx, sh, sg, cd, is⟩
    | _ => none
  | _ => none
theorem decSeen_le {v : AVal} {s : SeenD} (h : decSeen v = some s) : AVal.Le v (seenE s) := by
  unfold decSeen at h
  split at h
  · rename_i hu
    split at h
    · rename_i hp
      rw [unL_eq hu, unL_eq hp]
      simp only [Option.bind_eq_some_iff] at h
      obtain ⟨_, h1, _, h2, _, h3, _, h4, _, h5, _, h6, _, h7, _, h8, _, h9, _, h10, _, h11, _, h12, _, h13, _, h14, h⟩ := h
      cases h
      exact AVal.Le.ofList (l' := [_, _, _, _, AVal.ofList [_, _, _], _, _, _, _, _, _, _]) ⟨decI_le h1, decI_le h2, decI_le h3, decArr_le h4,
        AVal.Le.ofList (l' := [_, _, _]) ⟨decI_le h5, decI_le h6, decU_le h7, trivial⟩, decComm_le h8, decComms_le h9, decU_le h10, decArr_le h11, decArr_le h12, decI_le h13, decIs_le h14, trivial⟩
    · cases h
  · cases h

def decAcct (v : AVal) : Option AcctD := match unL v with
  | some [ses, is, tx, dn, sg, fl, cd, cu, sh] => (decArr 32 ses).bind fun ses => (decIs is).bind fun is => (decU tx).bind fun tx => (decB dn).bind fun dn =>
    (decArr 64 sg).bind fun sg => (decB fl).bind fun fl => (decI cd).bind fun cd => (decIs cu).bind fun cu => (decIs sh).bind fun sh =>
    some ⟨ses, is, tx, dn, sg, fl, cd, cu, sh⟩
  | _ => none
theorem decAcct_le {v : AVal} {s : AcctD} (h : decAcct v = some s) : AVal.Le v (acctE s) := by
  unfold decAcct at h
  split at h
  · rename_i hu
    rw [unL_eq hu]
    simp only [Option.bind_eq_some_iff] at h
    obtain ⟨_, h1, _, h2, _, h3, _, h4, _, h5, _, h6, _, h7, _, h8, _, h9, h⟩ := h
    cases h
    exact AVal.Le.ofList (l' := [_, _, _, _, _, _, _, _, _]) ⟨decArr_le h1, decIs_le h2, decU_le h3, decB_le h4, decArr_le h5, decB_le h6, decI_le h7, decIs_le h8, decIs_le h9, trivial⟩
  · cases h

/-! ### the codecs -/
def commC : Codec where
  α := CommD
  enc := commE
  dec := decComm
  dflt := comm0
  eq := none
  vt := some ⟨.comm, id, id⟩
def seenC : Codec where
  α := SeenD
  enc := seenE
  dec := decSeen
  dflt := ⟨0, 0, 0, hash0, 0, 0, [], comm0, [], [], hash0, List.replicate 64 (zeroT .u8), 0, []⟩
  eq := none
  vt := some ⟨.seen, id, id⟩
def acctC : Codec where
  α := AcctD
  enc := acctE
  dec := decAcct
  dflt := ⟨hash0, [], [], false, List.replicate 64 (zeroT .u8), false, 0, [], []⟩
  eq := none
  vt := some ⟨.acct, id, id⟩
end Go.Abs

set_option maxRecDepth 1000000
namespace Go.Abs
open Go.Proofs

/-! ### keys -/
def intC : Codec where
  α := Int
  enc n := .int .i64 n
  dec v := match v with
    | .int .i64 n => some n
    | _ => none
  dflt := 0
  eq := some fun a b => eqT .i64 a b

def hashC : Codec where
  α := List UInt8
  enc l := .arr .u8 32 l
  dec v := match v with
    | .arr .u8 n l => match Nat.beq n 32 with
      | true => some l
      | false => none
    | _ => none
  dflt := List.replicate 32 (zeroT .u8)
  eq := some fun a b => eqL .u8 a b
  vt := some ⟨.hash, id, id⟩

def sentC : Codec where
  α := Int × Int × List UInt8
  enc p := .pair (.int .i64 p.1) (.pair (.int .i64 p.2.1) (.pair (.str p.2.2) .unit))
  dec v := match v with
    | .pair (.int .i64 a) (.pair (.int .i64 b) (.pair (.str s) .unit)) => some (a, b, s)
    | _ => none
  dflt := (0, 0, [])
  eq := some fun p q => andB (eqT .i64 p.1 q.1) (andB (eqT .i64 p.2.1 q.2.1) (andB (p.2.2 == q.2.2) true))

def madeC : Codec where
  α := Int × Int × List UInt8 × List UInt8
  enc p := .pair (.int .i64 p.1) (.pair (.pair (.int .i64 p.2.1) (.pair (.arr .u8 32 p.2.2.1) (.pair (.arr .u8 32 p.2.2.2) .unit))) .unit)
  dec v := match v with
    | .pair (.int .i64 a) (.pair (.pair (.int .i64 b) (.pair (.arr .u8 m l) (.pair (.arr .u8 n k) .unit))) .unit) => match Nat.beq m 32, Nat.beq n 32 with
      | true, true => some (a, b, l, k)
      | _, _ => none
    | _ => none
  dflt := (0, 0, List.replicate 32 (zeroT .u8), List.replicate 32 (zeroT .u8))
  eq := some fun p q => andB (eqT .i64 p.1 q.1) (andB (andB (eqT .i64 p.2.1 q.2.1) (andB (eqL .u8 p.2.2.1 q.2.2.1) (andB (eqL .u8 p.2.2.2 q.2.2.2) true))) true)

def storeC : Codec where
  α := List UInt8 × List UInt8
  enc p := .pair (.arr .u8 32 p.1) (.pair (.arr .u8 32 p.2) .unit)
  dec v := match v with
    | .pair (.arr .u8 m l) (.pair (.arr .u8 n k) .unit) => match Nat.beq m 32, Nat.beq n 32 with
      | true, true => some (l, k)
      | _, _ => none
    | _ => none
  dflt := (List.replicate 32 (zeroT .u8), List.replicate 32 (zeroT .u8))
  eq := some fun p q => andB (eqL .u8 p.1 q.1) (andB (eqL .u8 p.2 q.2) true)

def codecOf (t : Nat) : Option Codec := match Nat.beq t 3 with
  | true => some intC
  | false => match Nat.beq t 76 with
    | true => some hashC
    | false => match Nat.beq t 235 with
      | true => some sentC
      | false => match Nat.beq t 261 with
        | true => some madeC
        | false => match Nat.beq t 411 with
          | true => some storeC
          | false => match Nat.beq t 88 with
            | true => some commC
            | false => match Nat.beq t 92 with
              | true => some seenC
              | false => match Nat.beq t 81 with
                | true => some acctC
                | false => none

theorem codecOf_inv {t : Nat} {c : Codec} (h : codecOf t = some c) : (t = 3 ∧ c = intC) ∨ (t = 76 ∧ c = hashC) ∨ (t = 235 ∧ c = sentC) ∨ (t = 261 ∧ c = madeC) ∨ (t = 411 ∧ c = storeC) ∨ (t = 88 ∧ c = commC) ∨ (t = 92 ∧ c = seenC) ∨ (t = 81 ∧ c = acctC) := by
  unfold codecOf at h
  cases h1 : Nat.beq t 3 with
  | true => rw [h1] at h; cases h; exact .inl ⟨beq_eq h1, rfl⟩
  | false =>
  rw [h1] at h
  cases h2 : Nat.beq t 76 with
  | true => rw [h2] at h; cases h; exact .inr (.inl ⟨beq_eq h2, rfl⟩)
  | false =>
  rw [h2] at h
  cases h3 : Nat.beq t 235 with
  | true => rw [h3] at h; cases h; exact .inr (.inr (.inl ⟨beq_eq h3, rfl⟩))
  | false =>
  rw [h3] at h
  cases h4 : Nat.beq t 261 with
  | true => rw [h4] at h; cases h; exact .inr (.inr (.inr (.inl ⟨beq_eq h4, rfl⟩)))
  | false =>
  rw [h4] at h
  cases h5 : Nat.beq t 411 with
  | true => rw [h5] at h; cases h; exact .inr (.inr (.inr (.inr (.inl ⟨beq_eq h5, rfl⟩))))
  | false =>
  rw [h5] at h
  cases h6 : Nat.beq t 88 with
  | true => rw [h6] at h; cases h; exact .inr (.inr (.inr (.inr (.inr (.inl ⟨beq_eq h6, rfl⟩)))))
  | false =>
  rw [h6] at h
  cases h7 : Nat.beq t 92 with
  | true => rw [h7] at h; cases h; exact .inr (.inr (.inr (.inr (.inr (.inr (.inl ⟨beq_eq h7, rfl⟩))))))
  | false =>
  rw [h7] at h
  cases h8 : Nat.beq t 81 with
  | true => rw [h8] at h; cases h; exact .inr (.inr (.inr (.inr (.inr (.inr (.inr ⟨beq_eq h8, rfl⟩))))))
  | false => rw [h8] at h; cases h

/-! ### package-level variables -/
/-- The sentinels' texts, by the number of their variable. -/
def texts : List (List UInt8) := [
  [97, 32, 115, 101, 115, 115, 105, 111, 110, 32, 116, 104, 97, 116, 32, 101, 110, 100, 101, 100, 32, 116, 119, 105, 99, 101],
  [114, 111, 119, 115, 32, 116, 104, 97, 116, 32, 109, 97, 121, 32, 110, 111, 116, 32, 98, 101],
  [97, 32, 115, 101, 115, 115, 105, 111, 110, 32, 116, 104, 97, 116, 32, 119, 97, 115, 32, 98, 101, 103, 117, 110, 32, 116, 119, 105, 99, 101],
  [97, 32, 112, 97, 105, 114, 32, 116, 104, 97, 116, 32, 119, 97, 115, 32, 109, 97, 100, 101, 32, 116, 119, 105, 99, 101],
  [97, 32, 115, 104, 97, 114, 101, 32, 102, 111, 114, 32, 97, 32, 112, 97, 105, 114, 32, 116, 104, 97, 116, 32, 119, 97, 115, 32, 110, 111, 116, 32, 109, 97, 100, 101],
  [116, 119, 111, 32, 115, 104, 97, 114, 101, 115, 32, 102, 111, 114, 32, 111, 110, 101, 32, 112, 97, 105, 114],
  [97, 32, 115, 104, 97, 114, 101, 32, 102, 111, 114, 32, 97, 32, 112, 97, 99, 107, 97, 103, 101, 32, 116, 104, 97, 116, 32, 109, 97, 121, 32, 110, 111, 116, 32, 98, 101],
  [97, 32, 115, 104, 97, 114, 101, 32, 116, 104, 97, 116, 32, 100, 111, 101, 115, 32, 110, 111, 116, 32, 104, 111, 108, 100],
  [97, 110, 32, 101, 110, 100, 32, 111, 102, 32, 97, 32, 115, 101, 115, 115, 105, 111, 110, 32, 116, 104, 97, 116, 32, 119, 97, 115, 32, 110, 111, 116, 32, 98, 101, 103, 117, 110],
  [97, 32, 115, 105, 103, 110, 97, 116, 117, 114, 101, 32, 116, 104, 97, 116, 32, 100, 111, 101, 115, 32, 110, 111, 116, 32, 104, 111, 108, 100],
  [97, 32, 99, 117, 108, 112, 114, 105, 116, 32, 116, 104, 97, 116, 32, 105, 115, 32, 110, 111, 116, 32, 99, 111, 114, 114, 117, 112, 116, 101, 100],
  [98, 97, 100, 32, 115, 104, 97, 114, 101, 115, 32, 97, 110, 100, 32, 110, 111, 32, 99, 117, 108, 112, 114, 105, 116],
  [115, 111, 109, 101, 116, 104, 105, 110, 103, 32, 100, 111, 110, 101, 32, 98, 121, 32, 111, 110, 101, 32, 116, 104, 97, 116, 32, 105, 115, 32, 100, 111, 119, 110, 44, 32, 111, 114, 32, 97, 32, 108, 105, 102, 101, 32, 116, 104, 97, 116, 32, 99, 97, 110, 110, 111, 116, 32, 98, 101],
  [97, 32, 112, 97, 99, 107, 101, 116, 32, 116, 104, 97, 116, 32, 110, 111, 98, 111, 100, 121, 32, 115, 101, 110, 116]]

def textN : List (List UInt8) → Nat → List UInt8
  | [], _ => []
  | s :: _, 0 => s
  | _ :: r, n + 1 => textN r n

/-- Is errors.errorType (the variable 14) among the laid ones? -/
def withET : Bool := false
/-- The variables 0 to 13 hold an error each; what it points to bears the number 1000 more. -/
def gvOf (id : Nat) : Option (Nat × AVal) := match Nat.blt id 14 with
  | true => some (96, .iface 455 (.gp (1000 + id)))
  | false => match andB (Nat.ble 1000 id) (Nat.blt id 1014) with
    | true => some (479, .pair (.str (textN texts (id - 1000))) .unit)
    | false => match andB withET (Nat.beq id 14) with
      | true => some (128, .iface 211 (.pair (.th 96) .unit))
      | false => none

def methOf (t : Nat) (n : String) : Option Nat := match Nat.beq t 94 with
  | true => match decide (n = "Error") with
    | true => some 23
    | false => match decide (n = "Unwrap") with
      | true => some 24
      | false => none
  | false => match Nat.beq t 455 with
    | true => match decide (n = "Error") with
      | true => some 311
      | false => none
    | false => match Nat.beq t 211 with
      | true => match decide (n = "Comparable") with
        | true => some 292
        | false => none
      | false => none

/-- Has a type of errors the methods that errors.Is asks for? -/
def implOf (u t : Nat) : Option Bool := match Nat.beq u 94 with
  | true => match Nat.beq t 213 with
    | true => some false
    | false => match Nat.beq t 216 with
      | true => some true
      | false => match Nat.beq t 217 with
        | true => some false
        | false => none
  | false => match Nat.beq u 455 with
    | true => match Nat.beq t 213 with
      | true => some false
      | false => match Nat.beq t 216 with
        | true => some false
        | false => match Nat.beq t 217 with
          | true => some false
          | false => none
    | false => none

noncomputable def env : Env where
  td n := (typeTree.get n).map (·.td)
  sz t := match typeTree.get t with | some i => i.sz | none => 0
  bytes t := match typeTree.get t with | some i => i.bytes | none => 0
  codec := codecOf
  eq n := ((typeTree.get n).map (·.eq)).getD false
  meth := methOf
  gv := gvOf
  ng := 18
  impl := implOf

/-- The types alone. -/
noncomputable def envT : Env where
  td n := (typeTree.get n).map (·.td)
  sz t := match typeTree.get t with | some i => i.sz | none => 0
  bytes t := match typeTree.get t with | some i => i.bytes | none => 0
  codec _ := none
  eq n := ((typeTree.get n).map (·.eq)).getD false
  meth _ _ := none
  gv _ := none
  ng := 18
  impl _ _ := none

theorem typesBelow : keysBelow 497 typeTree.entries = true := by kernel_rfl
theorem envT_chk : allB (envB Tryz.prog envT) 497 = true := by kernel_rfl
theorem env_chk : allB (envB Tryz.prog env) 497 = true := by kernel_rfl
theorem fns_same : fnTree.entries.map (fun p => Tryz.prog.funcs[p.1]?) = fnTree.entries.map fun p => some p.2 := by kernel_rfl
theorem fns_body : allE hasBodyB fnTree.entries = true := by kernel_rfl
theorem mixed : Tryz.prog.follows .mixedOrders = true := by kernel_rfl

theorem envT_ok : EnvOk Tryz.prog envT :=
  EnvBase.ok ⟨chk_of (t := typeTree) (fun _ => rfl) (fun _ => rfl) typesBelow envT_chk, by kernel_rfl, (fun _ _ _ h => by cases h), (fun _ _ _ h => by cases h), (fun _ _ _ h => by cases h)⟩ (fun _ _ h => by cases h) (fun _ _ _ h => by cases h)

theorem m1 (x : Value) (w : World) : (method (Tryz.prog.types.size + Made.depth) 94 x "Error").run Tryz.prog w = .ok (23, x) w := by kernel_rfl
theorem m2 (x : Value) (w : World) : (method (Tryz.prog.types.size + Made.depth) 94 x "Unwrap").run Tryz.prog w = .ok (24, x) w := by kernel_rfl
theorem m3 (x : Value) (w : World) : (method (Tryz.prog.types.size + Made.depth) 455 x "Error").run Tryz.prog w = .ok (311, x) w := by kernel_rfl
theorem m4 (x : Value) (w : World) : (method (Tryz.prog.types.size + Made.depth) 211 x "Comparable").run Tryz.prog w = .ok (292, x) w := by kernel_rfl

theorem methOf_ok {t : Nat} {n : String} {f : Nat} (h : methOf t n = some f) (x : Value) (w : World) : (method (Tryz.prog.types.size + Made.depth) t x n).run Tryz.prog w = .ok (f, x) w := by
  unfold methOf at h
  cases h1 : Nat.beq t 94 with
  | true =>
    rw [h1] at h
    have := beq_eq h1; subst this
    by_cases e1 : n = "Error"
    · subst e1; simp at h; subst h; exact m1 x w
    · by_cases e2 : n = "Unwrap"
      · subst e2; simp at h; subst h; exact m2 x w
      · simp [e1, e2] at h
  | false =>
    rw [h1] at h
    cases h2 : Nat.beq t 455 with
    | true =>
      rw [h2] at h
      have := beq_eq h2; subst this
      by_cases e1 : n = "Error"
      · subst e1; simp at h; subst h; exact m3 x w
      · simp [e1] at h
    | false =>
      rw [h2] at h
      cases h3 : Nat.beq t 211 with
      | true =>
        rw [h3] at h
        have := beq_eq h3; subst this
        by_cases e1 : n = "Comparable"
        · subst e1; simp at h; subst h; exact m4 x w
        · simp [e1] at h
      | false => rw [h3] at h; simp at h

theorem i1 (s : Nat) (x : Value) (w : World) : (Instr.typeAssert (.iface 94 x) s 213 true).run Tryz.prog w = .ok (.tuple #[.nilIface, .bool false]) w := run_typeAssert_lacksB Tryz.underlying213 (by kernel_rfl) (by kernel_rfl) x s w
theorem i2 (s : Nat) (x : Value) (w : World) : (Instr.typeAssert (.iface 94 x) s 216 true).run Tryz.prog w = .ok (.tuple #[.iface 94 x, .bool true]) w := run_typeAssert_hasB Tryz.underlying216 (by kernel_rfl) x s w
theorem i3 (s : Nat) (x : Value) (w : World) : (Instr.typeAssert (.iface 94 x) s 217 true).run Tryz.prog w = .ok (.tuple #[.nilIface, .bool false]) w := run_typeAssert_lacksB Tryz.underlying217 (by kernel_rfl) (by kernel_rfl) x s w
theorem i4 (s : Nat) (x : Value) (w : World) : (Instr.typeAssert (.iface 455 x) s 213 true).run Tryz.prog w = .ok (.tuple #[.nilIface, .bool false]) w := run_typeAssert_lacksB Tryz.underlying213 (by kernel_rfl) (by kernel_rfl) x s w
theorem i5 (s : Nat) (x : Value) (w : World) : (Instr.typeAssert (.iface 455 x) s 216 true).run Tryz.prog w = .ok (.tuple #[.nilIface, .bool false]) w := run_typeAssert_lacksB Tryz.underlying216 (by kernel_rfl) (by kernel_rfl) x s w
theorem i6 (s : Nat) (x : Value) (w : World) : (Instr.typeAssert (.iface 455 x) s 217 true).run Tryz.prog w = .ok (.tuple #[.nilIface, .bool false]) w := run_typeAssert_lacksB Tryz.underlying217 (by kernel_rfl) (by kernel_rfl) x s w

theorem implOf_ok {u t : Nat} {r : Bool} (h : implOf u t = some r) (s : Nat) (x : Value) (w : World) : (Instr.typeAssert (.iface u x) s t true).run Tryz.prog w = .ok (.tuple #[if r = true then .iface u x else .nilIface, .bool r]) w := by
  unfold implOf at h
  cases h1 : Nat.beq u 94 with
  | true =>
    rw [h1] at h
    have := beq_eq h1; subst this
    cases h2 : Nat.beq t 213 with
    | true => rw [h2] at h; have := beq_eq h2; subst this; cases h; exact i1 s x w
    | false =>
    rw [h2] at h
    cases h3 : Nat.beq t 216 with
    | true => rw [h3] at h; have := beq_eq h3; subst this; cases h; exact i2 s x w
    | false =>
    rw [h3] at h
    cases h4 : Nat.beq t 217 with
    | true => rw [h4] at h; have := beq_eq h4; subst this; cases h; exact i3 s x w
    | false => rw [h4] at h; cases h
  | false =>
    rw [h1] at h
    cases h1' : Nat.beq u 455 with
    | false => rw [h1'] at h; cases h
    | true =>
    rw [h1'] at h
    have := beq_eq h1'; subst this
    cases h2 : Nat.beq t 213 with
    | true => rw [h2] at h; have := beq_eq h2; subst this; cases h; exact i4 s x w
    | false =>
    rw [h2] at h
    cases h3 : Nat.beq t 216 with
    | true => rw [h3] at h; have := beq_eq h3; subst this; cases h; exact i5 s x w
    | false =>
    rw [h3] at h
    cases h4 : Nat.beq t 217 with
    | true => rw [h4] at h; have := beq_eq h4; subst this; cases h; exact i6 s x w
    | false => rw [h4] at h; cases h

theorem eqT_i64 {a b : Int} (h : eqT .i64 a b = true) : a = b := by simpa [eqT, toI] using h

theorem eqL_u8 : ∀ {a b : List UInt8}, eqL .u8 a b = true → a = b
  | [], [], _ => rfl
  | x :: a, y :: b, h => by
    simp only [eqL, Bool.and_eq_true] at h
    have : x = y := by
      have := h.1
      simp only [eqT, toI, beq_iff_eq] at this
      exact UInt8.toNat_inj.1 (by omega)
    rw [this, eqL_u8 h.2]
  | [], _ :: _, h => by simp [eqL] at h
  | _ :: _, [], h => by simp [eqL] at h

theorem env_key (t : Nat) (c : Codec) (f : c.α → c.α → Bool) (h : codecOf t = some c) (hf : c.eq = some f) : KeyOk Tryz.prog env t c f := by
  rcases codecOf_inv h with ⟨rfl, rfl⟩ | ⟨rfl, rfl⟩ | ⟨rfl, rfl⟩ | ⟨rfl, rfl⟩ | ⟨rfl, rfl⟩ | ⟨rfl, rfl⟩ | ⟨rfl, rfl⟩ | ⟨rfl, rfl⟩ <;> cases hf
  · exact keyOk_of (c := intC) envT_ok (fun _ => rfl) (fun a b => by kernel_rfl) (fun a => by kernel_rfl) (fun a b h => by rw [eqT_i64 h]) (fun _ => rfl) (by kernel_rfl)
  · exact keyOk_of (c := hashC) envT_ok (fun _ => rfl) (fun a b => by kernel_rfl) (fun a => by kernel_rfl) (fun a b h => by rw [eqL_u8 h]) (fun _ => rfl) (by kernel_rfl)
  · refine keyOk_of (c := sentC) envT_ok (fun _ => rfl) (fun a b => by kernel_rfl) (fun a => by kernel_rfl) (fun a b h => ?_) (fun _ => rfl) (by kernel_rfl)
    obtain ⟨a1, a2, a3⟩ := a
    obtain ⟨b1, b2, b3⟩ := b
    simp only [andB_iff] at h
    obtain ⟨h1, h2, h3, _⟩ := h
    rw [eqT_i64 h1, eqT_i64 h2, eq_of_beq h3]
  · refine keyOk_of (c := madeC) envT_ok (fun _ => rfl) (fun a b => by kernel_rfl) (fun a => by kernel_rfl) (fun a b h => ?_) (fun _ => rfl) (by kernel_rfl)
    obtain ⟨a1, a2, a3, a4⟩ := a
    obtain ⟨b1, b2, b3, b4⟩ := b
    simp only [andB_iff] at h
    obtain ⟨h1, ⟨h2, h3, h4, _⟩, _⟩ := h
    rw [eqT_i64 h1, eqT_i64 h2, eqL_u8 h3, eqL_u8 h4]
  · refine keyOk_of (c := storeC) envT_ok (fun _ => rfl) (fun a b => by kernel_rfl) (fun a => by kernel_rfl) (fun a b h => ?_) (fun _ => rfl) (by kernel_rfl)
    obtain ⟨a1, a2⟩ := a
    obtain ⟨b1, b2⟩ := b
    simp only [andB_iff] at h
    obtain ⟨h1, h2, _⟩ := h
    rw [eqL_u8 h1, eqL_u8 h2]

theorem env_cod (t : Nat) (c : Codec) (h : codecOf t = some c) : CodOk env t c := by
  rcases codecOf_inv h with ⟨rfl, rfl⟩ | ⟨rfl, rfl⟩ | ⟨rfl, rfl⟩ | ⟨rfl, rfl⟩ | ⟨rfl, rfl⟩ | ⟨rfl, rfl⟩ | ⟨rfl, rfl⟩ | ⟨rfl, rfl⟩
  · exact ⟨fun v a h => AVal.Le.of_eq (by dsimp only [intC] at h; split at h <;> cases h <;> rfl), fun _ => rfl, by kernel_rfl, ⟨_, by kernel_rfl, AVal.Le.refl _⟩, fun _ h => (by cases h), fun _ h => (by cases h)⟩
  · refine ⟨fun v a h => AVal.Le.of_eq ?_, fun _ => rfl, by kernel_rfl, ⟨_, by kernel_rfl, AVal.Le.refl _⟩, fun _ h => (by cases h; exact ⟨fun _ => rfl, fun _ => rfl⟩), fun _ h x => (by cases h; kernel_rfl)⟩
    dsimp only [hashC] at h; split at h
    · split at h <;> cases h; rename_i hn; have := beq_eq hn; subst this; rfl
    · cases h
  · exact ⟨fun v a h => AVal.Le.of_eq (by dsimp only [sentC] at h; split at h <;> cases h <;> rfl), fun _ => rfl, by kernel_rfl, ⟨_, by kernel_rfl, AVal.Le.refl _⟩, fun _ h => (by cases h), fun _ h => (by cases h)⟩
  · refine ⟨fun v a h => AVal.Le.of_eq ?_, fun _ => rfl, by kernel_rfl, ⟨_, by kernel_rfl, AVal.Le.refl _⟩, fun _ h => (by cases h), fun _ h => (by cases h)⟩
    dsimp only [madeC] at h; split at h
    · split at h <;> cases h; rename_i hm hn; have := beq_eq hn; subst this; have := beq_eq hm; subst this; rfl
    · cases h
  · refine ⟨fun v a h => AVal.Le.of_eq ?_, fun _ => rfl, by kernel_rfl, ⟨_, by kernel_rfl, AVal.Le.refl _⟩, fun _ h => (by cases h), fun _ h => (by cases h)⟩
    dsimp only [storeC] at h; split at h
    · split at h <;> cases h; rename_i hm hn; have := beq_eq hn; subst this; have := beq_eq hm; subst this; rfl
    · cases h
  · exact ⟨fun v a h => decComm_le h, fun _ => rfl, by kernel_rfl, ⟨(zeroV env 8 88).getD .unit, by kernel_rfl, decComm_le (by kernel_rfl)⟩, fun _ h => (by cases h; exact ⟨fun _ => rfl, fun _ => rfl⟩), fun _ h x => (by cases h; kernel_rfl)⟩
  · exact ⟨fun v a h => decSeen_le h, fun _ => rfl, by kernel_rfl, ⟨(zeroV env 8 92).getD .unit, by kernel_rfl, decSeen_le (by kernel_rfl)⟩, fun _ h => (by cases h; exact ⟨fun _ => rfl, fun _ => rfl⟩), fun _ h x => (by cases h; kernel_rfl)⟩
  · exact ⟨fun v a h => decAcct_le h, fun _ => rfl, by kernel_rfl, ⟨(zeroV env 8 81).getD .unit, by kernel_rfl, decAcct_le (by kernel_rfl)⟩, fun _ h => (by cases h; exact ⟨fun _ => rfl, fun _ => rfl⟩), fun _ h x => (by cases h; kernel_rfl)⟩

theorem gvOf_ty {id t : Nat} {v : AVal} (h : gvOf id = some (t, v)) : hasTy env 8 t v = true := by
  unfold gvOf at h
  cases h1 : Nat.blt id 14 with
  | true => rw [h1] at h; cases h; kernel_rfl
  | false =>
    rw [h1] at h
    cases h2 : andB (Nat.ble 1000 id) (Nat.blt id 1014) with
    | true => rw [h2] at h; cases h; kernel_rfl
    | false =>
      rw [h2] at h
      cases h3 : andB withET (Nat.beq id 14) with
      | true => rw [h3] at h; cases h; kernel_rfl
      | false => rw [h3] at h; cases h

theorem env_ok : EnvOk Tryz.prog env :=
  EnvBase.ok ⟨chk_of (t := typeTree) (fun _ => rfl) (fun _ => rfl) typesBelow env_chk, by kernel_rfl, fun _ _ _ h => gvOf_ty h, fun _ _ _ h => implOf_ok h, fun _ _ _ h => methOf_ok h⟩ env_cod env_key

theorem fnsOf_ok (f : Nat) (fn : Func) (body : Code) (h : fnsOf f = some (fn, body)) : Tryz.prog.funcs[f]? = some fn ∧ fn.body = some body ∧ ∀ args w, (callFunc f args).run Tryz.prog w = .ok (.enter f args) w := by
  unfold fnsOf at h
  cases hg : fnTree.get f with
  | none => rw [hg] at h; cases h
  | some g =>
    rw [hg] at h
    cases h
    exact fns_of fns_same fns_body hg
end Go.Abs
