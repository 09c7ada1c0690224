/- Operations: maps. A block that is only read from now on; copies of numbers that are only read. -/
import Derived.Test.YtadiphoihflmiaaGreatDoorZak
import Derived.MapKept
set_option linter.all false
namespace Go.Abs
universe v
section
variable {P : Program} {env : Env} {C : Tab} {ρ : PMap} {Z : Zone} {u : Nat → Bool} {base : Nat} {tmps : List (Option AVal)} {H : Heap} {a : Act} {w : World} {K : Eff → Prop} {KP : AVal → List (Nat × Option Blk) → Prop}

theorem getObj_map {w : World} {r : Nat} {es : Array MapEntry} {c : Nat} (hb : w.heap[r]? = some (.map es c)) : (getObj r).run P w = .ok (.map es c) w := by simp [getObj, Sem.run, hb]

theorem sameNow_run {kt : Nat} {d : TypeDesc} (hd : P.underlying kt = some d) {x y : Value} {b : Bool} (h : Instr.sameNow d x y = some b) (w : World) : (Op.equal kt x y).run P w = .ok b w := by
  show (Op.equalIn (9999 + 1) kt x y).run P w = .ok b w
  unfold Instr.sameNow at h
  split at h
  · split at h
    · rename_i hk; cases h; subst hk; rw [run_equalIn_int w 9999 kt _ _ _ _ hd]
    · cases h
  · cases h
    rename_i a' b'
    generalize 9999 = D
    simp [Op.equalIn, run_underlying' hd]
  · cases h
    rw [run_equalIn_bool' w 9999 kt _ _ hd]
  · cases h

variable {kt vt : Nat} {kc : Codec} {f : kc.α → kc.α → Bool} {β : Type v} {V : β → AVal}

def entsOf (kc : Codec) (V : β → AVal) (l : List (kc.α × β)) : List (AVal × AVal) := l.map fun p => (kc.enc p.1, V p.2)

def foundAt (f : kc.α → kc.α → Bool) (x : kc.α) (l : List (kc.α × β)) (es : List MapEntry) (i : Nat) : Option (Nat × Value) := match hasM f x l with
  | true => (es[idxM f x l]?).map fun e => (i + idxM f x l, e.val)
  | false => none

theorem findAsking_run (hk : KeyOk P env kt kc f) {x : kc.α} {X : Value} (hX : RepV env ρ Z (kc.enc x) X) (w : World) : ∀ (l : List (kc.α × β)) (n : Nat) (es : List MapEntry) (i : Nat), RepMs env ρ Z kt vt n (entsOf kc V l) es →
    (Instr.findAsking kt X es i).run P w = .ok (foundAt f x l es i) w
  | [], n, es, i, h => by
    simp only [entsOf, List.map_nil, RepMs] at h
    subst h
    rfl
  | (b, y) :: l, n, es, i, h => by
    obtain ⟨e, es', rfl, h1, h2, h3, h4, h5, h6⟩ := h
    obtain ⟨q1, -, -⟩ := hk ρ Z x b X e.key w hX h3
    have ih := findAsking_run hk hX w l (n + 1) es' (i + 1) h6
    simp only [Instr.findAsking, Sem.run_bind, q1, Result.andThen_ok]
    cases hf : f x b with
    | true => simp [foundAt, hasM, idxM, hf]
    | false =>
      simp only [Bool.false_eq_true, if_false, ih]
      congr 1
      simp only [foundAt, hasM, idxM, hf]
      cases hasM f x l
      · rfl
      · simp only [List.getElem?_cons_succ]
        congr 1
        funext e
        rw [show i + 1 + idxM f x l = i + (idxM f x l + 1) by omega]

theorem findNow_asking {d : TypeDesc} (hd : P.underlying kt = some d) (X : Value) (w : World) : ∀ (es : List MapEntry) (i : Nat) (r : Option (Nat × Value)), Instr.findNow d X es i = some r → (Instr.findAsking kt X es i).run P w = .ok r w
  | [], i, r, h => by simp [Instr.findNow] at h; subst h; rfl
  | e :: es, i, r, h => by
    simp only [Instr.findNow] at h
    cases hs : Instr.sameNow d X e.key with
    | none => simp [hs] at h
    | some b =>
      have := sameNow_run (P := P) hd hs w
      simp only [Instr.findAsking, Sem.run_bind, this, Result.andThen_ok]
      cases b with
      | true => simp [hs] at h; subst h; rfl
      | false =>
        simp [hs] at h
        simp only [Bool.false_eq_true, if_false]
        exact findNow_asking hd X w es (i + 1) r h

theorem findKey_run (hk : KeyOk P env kt kc f) {d : TypeDesc} (hd : P.underlying kt = some d) {x : kc.α} {X : Value} (hX : RepV env ρ Z (kc.enc x) X) (w : World) {l : List (kc.α × β)} {n : Nat} {es : List MapEntry} (h : RepMs env ρ Z kt vt n (entsOf kc V l) es) :
    (Instr.findKey kt X es).run P w = .ok (foundAt f x l es 0) w := by
  have h1 := findAsking_run hk hX w l n es 0 h
  unfold Instr.findKey
  simp only [Sem.run_bind, run_underlying' hd, Result.andThen_ok]
  cases hn : Instr.findNow d X es 0 with
  | none => exact h1
  | some r =>
    have := findNow_asking (P := P) hd X w es 0 r hn
    rw [h1] at this
    simp only [Result.ok.injEq, and_true] at this
    subst this
    rfl

/-- What is found. -/
theorem found_val (hk : KeyOk P env kt kc f) : ∀ {l : List (kc.α × β)} {n : Nat} {es : List MapEntry} {x : kc.α}, RepMs env ρ Z kt vt n (entsOf kc V l) es → hasM f x l = true →
    ∃ b y e, l[idxM f x l]? = some (b, y) ∧ es[idxM f x l]? = some e ∧ f x b = true ∧ RepV env ρ Z (kc.enc b) e.key ∧ RepV env ρ Z (V y) e.val ∧ e.born = n + idxM f x l
  | [], n, es, x, h, hh => by simp [hasM] at hh
  | (b, y) :: l, n, es, x, h, hh => by
    obtain ⟨e, es', rfl, h1, h2, h3, h4, h5, h6⟩ := h
    cases hf : f x b with
    | true => exact ⟨b, y, e, by simp [idxM, hf], by simp [idxM, hf], hf, h3, h5, by simp [idxM, hf, h1]⟩
    | false =>
      simp only [hasM, hf] at hh
      obtain ⟨b', y', e', q1, q2, q3, q4, q5, q6⟩ := found_val hk h6 hh
      exact ⟨b', y', e', by simpa [idxM, hf] using q1, by simpa [idxM, hf] using q2, q3, q4, q5, by simp [idxM, hf, q6]; omega⟩

theorem findM_eq {β : Type 1} {x : kc.α} : ∀ {l : List (kc.α × β)} {b : kc.α} {y : β}, hasM f x l = true → l[idxM f x l]? = some (b, y) → findM f x l = some y
  | [], b, y, hh, _ => by simp [hasM] at hh
  | (b', y') :: l, b, y, hh, h => by
    cases hf : f x b' with
    | true => simp [idxM, hf] at h; simp [findM, hf, h.2]
    | false => simp [hasM, hf] at hh; simp [idxM, hf] at h; simp [findM, hf]; exact findM_eq hh h

theorem findM_none {β : Type 1} {x : kc.α} : ∀ {l : List (kc.α × β)}, hasM f x l = false → findM f x l = none
  | [], _ => rfl
  | (b', y') :: l, hh => by
    cases hf : f x b' with
    | true => simp [hasM, hf] at hh
    | false => simp [hasM, hf] at hh; simp [findM, hf]; exact findM_none hh

theorem getM_eq {β : Type} {x : kc.α} {d : β} : ∀ {l : List (kc.α × β)} {b : kc.α} {y : β}, hasM f x l = true → l[idxM f x l]? = some (b, y) → getM f x d l = y
  | [], b, y, hh, _ => by simp [hasM] at hh
  | (b', y') :: l, b, y, hh, h => by
    cases hf : f x b' with
    | true => simp [idxM, hf] at h; simp [getM, hf, h.2]
    | false => simp [hasM, hf] at hh; simp [idxM, hf] at h; simp [getM, hf]; exact getM_eq hh h

theorem getM_none {β : Type} {x : kc.α} {d : β} : ∀ {l : List (kc.α × β)}, hasM f x l = false → getM f x d l = d
  | [], _ => rfl
  | (b', y') :: l, hh => by
    cases hf : f x b' with
    | true => simp [hasM, hf] at hh
    | false => simp [hasM, hf] at hh; simp [getM, hf]; exact getM_none hh

theorem RepMs.length : ∀ {n : Nat} {l : List (AVal × AVal)} {es : List MapEntry}, RepMs env ρ Z kt vt n l es → es.length = l.length
  | n, [], es, h => by simp only [RepMs] at h; simp [h]
  | n, (k, v) :: l, es, h => by
    obtain ⟨e, es', rfl, h1, h2, h3, h4, h5, h6⟩ := h
    simp [h6.length]

/-- A value put at its name, in the model. -/
theorem RepMs.putHas (hk : KeyOk P env kt kc f) {X Y : Value} {x : kc.α} {y : β} (hX : RepV env ρ Z (kc.enc x) X) (hY : RepV env ρ Z (V y) Y) (hyt : HT env vt (V y)) (w : World) : ∀ {l : List (kc.α × β)} {n : Nat} {es : List MapEntry},
    RepMs env ρ Z kt vt n (entsOf kc V l) es → hasM f x l = true → RepMs env ρ Z kt vt n (entsOf kc V (putM f x y l)) (es.modify (idxM f x l) fun e => { e with key := X, val := Y })
  | [], n, es, h, hh => by simp [hasM] at hh
  | (b, y') :: l, n, es, h, hh => by
    obtain ⟨e, es', rfl, h1, h2, h3, h4, h5, h6⟩ := h
    cases hf : f x b with
    | true =>
      simp only [putM, hf, idxM, List.modify_zero_cons, entsOf, List.map_cons, RepMs]
      obtain ⟨-, q2, -⟩ := hk ρ Z x b X e.key w hX h3
      have := (q2 hf).1
      exact ⟨_, es', rfl, h1, h2, this ▸ h3, hyt, hY, h6⟩
    | false =>
      simp only [hasM, hf] at hh
      simp only [putM, hf, idxM, List.modify_succ_cons, entsOf, List.map_cons, RepMs]
      exact ⟨e, _, rfl, h1, h2, h3, h4, h5, h6.putHas hk hX hY hyt w hh⟩

theorem RepMs.putNew {X Y : Value} {x : kc.α} {y : β} (hX : RepV env ρ Z (kc.enc x) X) (hxt : HT env kt (kc.enc x)) (hY : RepV env ρ Z (V y) Y) (hyt : HT env vt (V y)) : ∀ {l : List (kc.α × β)} {n : Nat} {es : List MapEntry},
    RepMs env ρ Z kt vt n (entsOf kc V l) es → hasM f x l = false → RepMs env ρ Z kt vt n (entsOf kc V (putM f x y l)) (es ++ [{ key := X, val := Y, born := n + es.length }])
  | [], n, es, h, hh => by
    simp only [entsOf, List.map_nil, RepMs] at h
    subst h
    exact ⟨_, [], rfl, by simp, hxt, hX, hyt, hY, rfl⟩
  | (b, y') :: l, n, es, h, hh => by
    obtain ⟨e, es', rfl, h1, h2, h3, h4, h5, h6⟩ := h
    cases hf : f x b with
    | true => simp [hasM, hf] at hh
    | false =>
      simp only [hasM, hf] at hh
      simp only [putM, hf, entsOf, List.map_cons, RepMs]
      refine ⟨e, _, rfl, h1, h2, h3, h4, h5, ?_⟩
      have := h6.putNew hX hxt hY hyt hh
      rw [show n + 1 + es'.length = n + (e :: es').length by simp; omega] at this
      exact this

theorem RepMs.putAt {Y : Value} {y : β} (hY : RepV env ρ Z (V y) Y) (hyt : HT env vt (V y)) : ∀ {m : Nat} {l : List (kc.α × β)} {n : Nat} {es : List MapEntry},
    RepMs env ρ Z kt vt n (entsOf kc V l) es → RepMs env ρ Z kt vt n (entsOf kc V (putAt y m l)) (es.modify m fun e => { e with val := Y })
  | m, [], n, es, h => by
    simp only [entsOf, List.map_nil, RepMs] at h
    subst h
    cases m <;> simp [Go.Abs.putAt, entsOf, RepMs]
  | 0, (b, y') :: l, n, es, h => by
    obtain ⟨e, es', rfl, h1, h2, h3, h4, h5, h6⟩ := h
    exact ⟨_, es', rfl, h1, h2, h3, hyt, hY, h6⟩
  | m + 1, (b, y') :: l, n, es, h => by
    obtain ⟨e, es', rfl, h1, h2, h3, h4, h5, h6⟩ := h
    exact ⟨e, _, rfl, h1, h2, h3, h4, h5, RepMs.putAt hY hyt h6⟩

/-! ### the map in memory -/
theorem map_blk (hp : Pre env ρ Z u tmps H a w) {key : Nat} {c : Cont} (hb : H key = some ⟨.map kt vt, c⟩) :
    ∃ es : Array MapEntry, (ρ key).root = .map kt vt ∧ (ρ key).lo = 0 ∧ (ρ key).hi = 1 ∧ w.heap[(ρ key).block]? = some (.map es es.size) ∧ RepMs env ρ Z kt vt 0 c.ents es.toList ∧ c.good ∧ c.ofMap env kt vt := by
  have hB := hp.heap.blk key _ hb
  obtain ⟨kt', vt', es, h1, h2, h3, h4, h5, h6, h7⟩ := hB.map rfl
  cases h1
  exact ⟨es, hB.root, h2, h3, h4, h5, h6, h7⟩

theorem keyOf_inv {k : AVal} {K' : (kc.α → kc.α → Bool) → kc.α → Prop} (h : keyOf env kt kc k K') : ∃ f x, kc.eq = some f ∧ kc.dec k = some x ∧ K' f x := by
  unfold keyOf at h
  cases hf : kc.eq with
  | none => rw [hf] at h; exact h.elim
  | some f =>
    cases hx : kc.dec k with
    | none => rw [hf, hx] at h; exact h.elim
    | some x =>
      cases hc : env.codec kt with
      | none => rw [hf, hx, hc] at h; exact h.elim
      | some c => rw [hf, hx, hc] at h; exact ⟨f, x, rfl, rfl, h⟩

theorem repV_ok {ok : Bool} {v : AVal} {x : Value} {b : Bool} (h : RepV env ρ Z v x) : RepV env ρ Z (okV ok v b) (if ok then .tuple #[x, .bool b] else x) := by
  cases ok
  · exact h
  · exact repV_tup2 h

theorem keys_ok {ok : Bool} {v : AVal} {b : Bool} : (okV ok v b).keys = v.keys := by cases ok <;> simp [okV, AVal.tup, AVal.keys]

theorem und_of (he : EnvOk P env) {t : Nat} {d : TD} (h : env.td t = some d) : ∃ D, P.underlying t = some D := by
  have hu := he.und t d h
  cases d with
  | struct fs => obtain ⟨_, hu, _⟩ := hu; exact ⟨_, hu⟩
  | func => obtain ⟨_, _, _, hu⟩ := hu; exact ⟨_, hu⟩
  | iface => obtain ⟨_, hu⟩ := hu; exact ⟨_, hu⟩
  | _ => simp only [UndOk] at hu; exact ⟨_, hu⟩

/-- A map that is asked. -/
theorem run_lookup (he : EnvOk P env) {t : Nat} (ht : env.td t = some (.map kt vt)) (hkc : env.codec kt = some kc) (hf : kc.eq = some f) {x : kc.α} {X : Value} (hX : RepV env ρ Z (kc.enc x) X) {r : Nat} {es : Array MapEntry} {n c : Nat} {l : List (kc.α × β)}
    (hr : w.heap[r]? = some (.map es c)) (h : RepMs env ρ Z kt vt n (entsOf kc V l) es.toList) {z : AVal} {zv : Value} (hz : ∀ w, (zeroValue vt).run P w = .ok zv w) (ok : Bool) :
    (Instr.lookup t (.map (some r)) X ok).run P w = .ok (if ok then .tuple #[match foundAt f x l es.toList 0 with | some p => p.2 | none => zv, .bool (hasM f x l)] else match foundAt f x l es.toList 0 with | some p => p.2 | none => zv) w := by
  have hu := he.und t _ ht
  simp only [UndOk] at hu
  obtain ⟨⟨dk, hdk⟩, -⟩ := he.clo t _ ht
  obtain ⟨D, hD⟩ := und_of he hdk
  have hk := he.key kt kc f hkc hf
  obtain ⟨-, -, hck⟩ := hk ρ Z x x X X w hX hX
  have hfd := findKey_run (P := P) hk hD hX w h
  have hhas : ∀ p, foundAt f x l es.toList 0 = some p → hasM f x l = true := fun p hp => by
    unfold foundAt at hp
    cases hh : hasM f x l <;> simp [hh] at hp ⊢
  have hno : foundAt f x l es.toList 0 = none → hasM f x l = false := fun hp => by
    cases hh : hasM f x l with
    | false => rfl
    | true =>
      obtain ⟨b, y, e, _, q2, _⟩ := found_val hk h hh
      unfold foundAt at hp
      simp [hh, q2] at hp
  simp only [Instr.lookup, Sem.run_bind, run_underlying' hu, Result.andThen_ok, getObj_map hr, Sem.run_pure, hck, hfd]
  cases hfa : foundAt f x l es.toList 0 with
  | none => simp only [Sem.run_bind, hz, Result.andThen_ok, Sem.run_pure, hno hfa]
  | some p => obtain ⟨j, v⟩ := p; simp only [Sem.run_bind, Sem.run_pure, Result.andThen_ok, hhas _ hfa]

theorem run_lookup_nil (he : EnvOk P env) {t : Nat} (ht : env.td t = some (.map kt vt)) (hkc : env.codec kt = some kc) (hf : kc.eq = some f) {x : kc.α} {X : Value} (hX : RepV env ρ Z (kc.enc x) X) {zv : Value} (hz : ∀ w, (zeroValue vt).run P w = .ok zv w) (ok : Bool) :
    (Instr.lookup t (.map none) X ok).run P w = .ok (if ok then .tuple #[zv, .bool false] else zv) w := by
  have hu := he.und t _ ht
  simp only [UndOk] at hu
  obtain ⟨⟨dk, hdk⟩, -⟩ := he.clo t _ ht
  obtain ⟨D, hD⟩ := und_of he hdk
  have hk := he.key kt kc f hkc hf
  obtain ⟨-, -, hck⟩ := hk ρ Z x x X X w hX hX
  have hfd : (Instr.findKey kt X []).run P w = .ok none w := by
    unfold Instr.findKey
    simp only [Sem.run_bind, run_underlying' hD, Result.andThen_ok]
    rfl
  simp only [Instr.lookup, Sem.run_bind, run_underlying' hu, Result.andThen_ok, Sem.run_pure, hck, List.toList_toArray, hfd, hz]

theorem zero_run (he : EnvOk P env) {t : Nat} {v : AVal} (h : zeroV env 8 t = some v) : ∃ z, (∀ w, (zeroValue t).run P w = .ok z w) ∧ (∀ ρ Z, RepV env ρ Z v z) ∧ HT env t v := by
  obtain ⟨d, hd⟩ : ∃ d, env.td t = some d := by
    cases hd : env.td t with
    | none => simp [zeroV, hd] at h
    | some d => exact ⟨d, rfl⟩
  obtain ⟨i, h1, h2, h3, h4⟩ := he.info t d hd
  obtain ⟨z, h5, h6⟩ := h4 v h
  exact ⟨z, fun w => by simp [zeroValue, typeInfo, h1, h5], h6, ⟨8, he.zty t v h⟩⟩

theorem ofMap_map {kc' vc : Codec} {l : List (kc'.α × vc.α)} (h : (Cont.map kc' vc l).ofMap env kt vt) : env.codec kt = some kc' ∧ env.codec vt = some vc := ⟨h.1, h.2.1⟩

theorem op_lookup (he : EnvOk P env) (hp : Pre env ρ Z u tmps H a w) {o : Oper} {t : Nat} {mx kx : Operand} {ok : Bool} (ho : o.op = .lookup t mx kx ok)
    (h : ob (opVal tmps mx) fun m => ob (opVal tmps kx) fun k => evalLookup env H t m k ok (K1 K)) : OpPost P env ρ Z u base H w K KP ((execOp a.eval o).run P w) := by
  obtain ⟨m, hm, q1⟩ := ob_inv h
  obtain ⟨k, hk, q2⟩ := ob_inv q1
  obtain ⟨m1, m2⟩ := hp.opVal hm
  obtain ⟨k1, k2⟩ := hp.opVal hk
  unfold evalLookup at q2
  cases ht : env.td t with
  | none => rw [ht] at q2; exact q2.elim
  | some td =>
    rw [ht] at q2
    cases td <;> try exact q2.elim
    rename_i kt vt
    have fin : ∀ x v, (Instr.lookup t (a.eval mx) (a.eval kx) ok).run P w = .ok x w → RepV env ρ Z v x → (∀ k, k ∈ v.keys → known u k) → K1 K v → OpPost P env ρ Z u base H w K KP ((execOp a.eval o).run P w) := fun x v hr h1 h2 hK =>
      OpPost.val hp (by simp only [execOp, ho, Sem.run_bind, hr, Result.andThen_ok, Sem.run_pure]) hK h1 h2
    cases m <;> try exact q2.elim
    · -- a map
      rename_i key
      obtain ⟨b, hb, q3⟩ := ob_inv q2
      obtain ⟨_, em⟩ := repV_mp.1 m1
      obtain ⟨root, c⟩ := b
      cases root <;> try exact q3.elim
      rename_i kt' vt'
      cases c <;> try exact q3.elim
      · rename_i kc vc l
        obtain ⟨e1, q4⟩ := chk_inv q3
        obtain ⟨e2, q5⟩ := chk_inv q4
        obtain rfl := beq_eq e1
        obtain rfl := beq_eq e2
        obtain ⟨f, x, hf, hx, hK⟩ := keyOf_inv q5
        obtain ⟨es, r1, r2, r3, r4, r5, r6, r7⟩ := map_blk hp hb
        obtain ⟨c1, c2⟩ := ofMap_map r7
        have cod := he.cod vt vc c2
        have hX : RepV env ρ Z (kc.enc x) (a.eval kx) := k1.le ((he.cod kt kc c1).dec _ _ hx)
        obtain ⟨z0, hz0, hzle⟩ := cod.zero
        obtain ⟨zv, z1, z2', z3'⟩ := zero_run he hz0
        have z2 : ∀ ρ Z, RepV env ρ Z (vc.enc vc.dflt) zv := fun ρ Z => (z2' ρ Z).le hzle
        have z3 := z3'.le hzle
        have hr := run_lookup (P := P) (V := vc.enc) he ht c1 hf hX r4 r5 (z := vc.enc vc.dflt) z1 ok
        rw [← em] at hr
        refine fin _ _ hr (repV_ok ?_) (fun k hk => ?_) hK
        · have hkk := he.key kt kc f c1 hf
          cases hh : hasM f x l with
          | true =>
            obtain ⟨b, y, e, p1, p2, p3, p4, p5, p6⟩ := found_val (V := vc.enc) hkk r5 hh
            rw [getM_eq hh p1]
            simp only [foundAt, hh, p2, Option.map_some]
            exact p5
          | false =>
            rw [getM_none hh]
            simp only [foundAt, hh]
            exact z2 ρ Z
        · rw [keys_ok, cod.keys] at hk; cases hk
      · rename_i kc l
        obtain ⟨e1, q4⟩ := chk_inv q3
        obtain ⟨e2, q5⟩ := chk_inv q4
        obtain rfl := beq_eq e1
        obtain rfl := beq_eq e2
        obtain ⟨f, x, hf, hx, q6⟩ := keyOf_inv q5
        obtain ⟨z, hz, hK⟩ := ob_inv q6
        obtain ⟨es, r1, r2, r3, r4, r5, r6, r7⟩ := map_blk hp hb
        have c1 := r7.1
        have hX : RepV env ρ Z (kc.enc x) (a.eval kx) := k1.le ((he.cod kt kc c1).dec _ _ hx)
        obtain ⟨zv, z1, z2, z3⟩ := zero_run he hz
        have hr := run_lookup (P := P) (V := fun v : AVal => v) he ht c1 hf hX r4 r5 (z := z) z1 ok
        rw [← em] at hr
        have hkk := he.key kt kc f c1 hf
        cases hh : hasM f x l with
        | true =>
          obtain ⟨b, y, e, p1, p2, p3, p4, p5, p6⟩ := found_val (V := fun v : AVal => v) hkk r5 hh
          rw [findM_eq hh p1] at hK
          rw [hh] at hr
          refine fin _ _ hr (repV_ok ?_) (fun k hk => ?_) hK
          · simp only [foundAt, hh, p2, Option.map_some]
            exact p5
          · rw [keys_ok] at hk
            exact (hp.keysH key _ hb).2 k ((keysM_map l k).2 ⟨(b, y), List.mem_of_getElem? p1, hk⟩)
        | false =>
          rw [findM_none hh] at hK
          rw [hh] at hr
          refine fin _ _ hr (repV_ok ?_) (fun k hk => ?_) hK
          · simp only [foundAt, hh]
            exact z2 ρ Z
          · rw [keys_ok, zeroV_keys env 8 vt z hz] at hk; cases hk
    · -- nil
      obtain ⟨kc, c1, q3⟩ := ob_inv q2
      obtain ⟨f, x, hf, hx, q4⟩ := keyOf_inv q3
      obtain ⟨z, hz, hK⟩ := ob_inv q4
      rw [repV_nilmap] at m1
      have hX : RepV env ρ Z (kc.enc x) (a.eval kx) := k1.le ((he.cod kt kc c1).dec _ _ hx)
      obtain ⟨zv, z1, z2, z3⟩ := zero_run he hz
      have hr := run_lookup_nil (P := P) (w := w) he ht c1 hf hX z1 ok
      rw [← m1] at hr
      exact fin _ _ hr (repV_ok (z2 ρ Z)) (fun k hk => by rw [keys_ok, zeroV_keys env 8 vt z hz] at hk; cases hk) hK

/-! ### a map is written -/
theorem Keeps.setMap {R : Nat → Nat → Prop} {w : World} {r : Nat} {es es' : Array MapEntry} {c c' : Nat} (hr : w.heap[r]? = some (.map es c)) (hR : R r 0) : Keeps R w { w with heap := w.heap.setIfInBounds r (.map es' c') } := by
  refine ⟨rfl, rfl, rfl, by simp, fun b o ho => ?_⟩
  by_cases hb : b = r
  · subst hb
    rw [hr] at ho; cases ho
    have hlt : b < w.heap.size := (Array.getElem?_eq_some_iff.1 hr).1
    exact ⟨.map es' c', by simp [hlt], fun h => absurd hR h⟩
  · exact ⟨o, by simp only []; rw [Array.getElem?_setIfInBounds_ne (Ne.symm hb)]; exact ho, ObjKeeps.refl _ _⟩

theorem heap_setMap {w : World} {r : Nat} {o o' : Obj} (hr : w.heap[r]? = some o) : ({ w with heap := w.heap.setIfInBounds r o' } : World).heap[r]? = some o' := by
  have hlt : r < w.heap.size := (Array.getElem?_eq_some_iff.1 hr).1
  simp [hlt]

/-- A map's block with other entries. -/
theorem EffOk.mapTurn (hp : Pre env ρ Z u tmps H a w) {key kt vt : Nat} {c c' : Cont} {es es' : Array MapEntry} {ov : Option AVal} {x : Value} (hb : H key = some ⟨.map kt vt, c⟩) (hr : w.heap[(ρ key).block]? = some (.map es es.size))
    (h : RepMs env ρ Z kt vt 0 c'.ents es'.toList) (hg : c'.good) (hm : c'.ofMap env kt vt) (hkb : ∀ k, k ∈ c'.keys → known u k) (hv : ∀ v, ov = some v → RepV env ρ Z v x ∧ ∀ k, k ∈ v.keys → known u k) :
    EffOk env ρ Z u base H w ⟨ov, [(key, some ⟨.map kt vt, c'⟩)]⟩ x { w with heap := w.heap.setIfInBounds (ρ key).block (.map es' es'.size) } := by
  have hB := hp.heap.blk key _ hb
  obtain ⟨_, _, _, h1, h2, h3, -⟩ := hB.map rfl
  have hkeep : Keeps (fun y i => y = (ρ key).block ∧ (ρ key).lo ≤ i ∧ i < (ρ key).hi) w { w with heap := w.heap.setIfInBounds (ρ key).block (.map es' es'.size) } := Keeps.setMap hr ⟨rfl, by omega, by omega⟩
  refine EffOk.turn hp hb hkeep ⟨hB.root, fun h => (by cases h), fun h => (by cases h), Nat.lt_of_lt_of_le hB.there hkeep.size, fun _ => ⟨kt, vt, es', rfl, h2, h3, heap_setMap hr, h, hg, hm⟩⟩ hkb hv

theorem keyThat {k : Nat} {x y : kc.α} {X Y : Value} (hk : KeyOk P env k kc f) (hX : RepV env ρ Z (kc.enc x) X) (hY : RepV env ρ Z (kc.enc y) Y) (hf : f x y = true) (w : World) : (Instr.keyThatStays Y X).run P w = .ok X w := by
  obtain ⟨-, q, -⟩ := hk ρ Z x y X Y w hX hY
  obtain ⟨rfl, q2⟩ := q hf
  simp [Instr.keyThatStays, q2]

theorem putM_keys {α : Type} {f : α → α → Bool} {x : α} {v : AVal} : ∀ {l : List (α × AVal)} {k : Nat}, k ∈ keysM (putM f x v l) → k ∈ keysM l ∨ k ∈ v.keys
  | [], k, h => by simp [putM, keysM] at h; exact .inr h
  | (b, y) :: l, k, h => by
    cases hf : f x b with
    | true => simp [putM, hf, keysM] at h ⊢; exact h.elim .inr fun h => .inl (.inr h)
    | false =>
      simp [putM, hf, keysM] at h ⊢
      rcases h with h | h
      · exact .inl (.inl h)
      · exact (putM_keys h).imp .inr id

theorem run_mapUpdate (he : EnvOk P env) {t : Nat} (ht : env.td t = some (.map kt vt)) (hkc : env.codec kt = some kc) (hf : kc.eq = some f) {x : kc.α} {X Y : Value} {y : β} (hX : RepV env ρ Z (kc.enc x) X) (hxt : HT env kt (kc.enc x))
    (hY : RepV env ρ Z (V y) Y) (hyt : HT env vt (V y)) {r : Nat} {es : Array MapEntry} {l : List (kc.α × β)} (hr : w.heap[r]? = some (.map es es.size)) (h : RepMs env ρ Z kt vt 0 (entsOf kc V l) es.toList) :
    ∃ es' : Array MapEntry, (Instr.mapUpdate t (.map (some r)) X Y).run P w = .ok () { w with heap := w.heap.setIfInBounds r (.map es' es'.size) } ∧ RepMs env ρ Z kt vt 0 (entsOf kc V (putM f x y l)) es'.toList := by
  have hu := he.und t _ ht
  simp only [UndOk] at hu
  obtain ⟨⟨dk, hdk⟩, -⟩ := he.clo t _ ht
  obtain ⟨D, hD⟩ := und_of he hdk
  have hk := he.key kt kc f hkc hf
  obtain ⟨-, -, hck⟩ := hk ρ Z x x X X w hX hX
  have hfd := findKey_run (P := P) hk hD hX w h
  have hset : ∀ o, (setObj r o).run P w = .ok () { w with heap := w.heap.setIfInBounds r o } := fun o => by simp [setObj, Sem.run, hr]
  cases hh : hasM f x l with
  | true =>
    obtain ⟨b, y', e, p1, p2, p3, p4, p5, p6⟩ := found_val (V := V) hk h hh
    have hfa : foundAt f x l es.toList 0 = some (idxM f x l, e.val) := by simp [foundAt, hh, p2]
    have p2' : es[idxM f x l]? = some e := by simpa using p2
    have hkt := keyThat (P := P) hk hX p4 p3 w
    refine ⟨es.modify (idxM f x l) fun e => { e with key := X, val := Y }, ?_, ?_⟩
    · simp only [Instr.mapUpdate, Sem.run_bind, run_underlying' hu, Result.andThen_ok, getObj_map hr, hck, hfd, hfa, p2', Option.map_some, Option.getD_some, hkt, hset, Array.size_modify]
    · rw [Array.toList_modify]
      exact h.putHas hk hX hY hyt w hh
  | false =>
    have hfa : foundAt f x l es.toList 0 = none := by simp [foundAt, hh]
    refine ⟨es.push { key := X, val := Y, born := es.size }, ?_, ?_⟩
    · simp only [Instr.mapUpdate, Sem.run_bind, run_underlying' hu, Result.andThen_ok, getObj_map hr, hck, hfd, hfa, hset, Array.size_push]
    · have := h.putNew hX hxt hY hyt hh
      simpa using this

theorem key_ty (he : EnvOk P env) {c : Codec} {t : Nat} (hc : env.codec t = some c) : HT env t (c.enc c.dflt) := ⟨8, (he.cod t c hc).ty⟩

theorem op_mapUpdate (he : EnvOk P env) (hp : Pre env ρ Z u tmps H a w) {o : Oper} {t : Nat} {mx kx vx : Operand} (ho : o.op = .mapUpdate t mx kx vx)
    (h : ob (opVal tmps mx) fun m => ob (opVal tmps kx) fun k => ob (opVal tmps vx) fun v => evalMapUpdate env H t m k v K) : OpPost P env ρ Z u base H w K KP ((execOp a.eval o).run P w) := by
  obtain ⟨m, hm, q1⟩ := ob_inv h
  obtain ⟨k, hk, q2⟩ := ob_inv q1
  obtain ⟨v, hv, q2⟩ := ob_inv q2
  obtain ⟨m1, m2⟩ := hp.opVal hm
  obtain ⟨k1, k2⟩ := hp.opVal hk
  obtain ⟨v1, v2⟩ := hp.opVal hv
  unfold evalMapUpdate at q2
  cases ht : env.td t with
  | none => rw [ht] at q2; exact q2.elim
  | some td =>
    rw [ht] at q2
    cases td <;> try exact q2.elim
    rename_i kt vt
    obtain ⟨hvt, q21⟩ := chk_inv q2
    obtain ⟨hkt, q22⟩ := chk_inv q21
    clear q2 q21
    cases m <;> try exact q22.elim
    rename_i key
    obtain ⟨b, hb, q3⟩ := ob_inv q22
    obtain ⟨_, em⟩ := repV_mp.1 m1
    have fin : ∀ {w' : World} {e : Eff}, (Instr.mapUpdate t (a.eval mx) (a.eval kx) (a.eval vx)).run P w = .ok () w' → K e → EffOk env ρ Z u base H w e undef w' → OpPost P env ρ Z u base H w K KP ((execOp a.eval o).run P w) := fun {w' e} hr hK he => by
      have : (execOp a.eval o).run P w = .ok .skip _ := (by simp only [execOp, ho, Sem.run_bind, hr, Result.andThen_ok, Sem.run_pure] : _ = Result.ok Next.skip w')
      rw [this]; exact ⟨_, hK, he⟩
    obtain ⟨root, c⟩ := b
    cases root <;> try exact q3.elim
    rename_i kt' vt'
    cases c <;> try exact q3.elim
    · rename_i kc vc l
      obtain ⟨e1, q4⟩ := chk_inv q3
      obtain ⟨e2, q5⟩ := chk_inv q4
      obtain rfl := beq_eq e1
      obtain rfl := beq_eq e2
      obtain ⟨f, x, hf, hx, q6⟩ := keyOf_inv q5
      obtain ⟨y, hy, hK⟩ := ob0_inv q6
      obtain ⟨es, r1, r2, r3, r4, r5, r6, r7⟩ := map_blk hp hb
      obtain ⟨c1, c2⟩ := ofMap_map r7
      have ek := (he.cod kt kc c1).dec _ _ hx
      have ev := (he.cod vt vc c2).dec _ _ hy
      obtain ⟨es', hr, hrep⟩ := run_mapUpdate (P := P) (V := vc.enc) (w := w) (X := a.eval kx) (Y := a.eval vx) (x := x) (y := y) he ht c1 hf (k1.le ek) (HT.le ⟨8, hkt⟩ ek) (v1.le ev) (HT.le ⟨8, hvt⟩ ev) r4 r5
      rw [← em] at hr
      exact fin hr hK (EffOk.mapTurn hp hb r4 hrep r6 r7 (fun k hk => by simp [Cont.keys] at hk) (fun v e => by cases e))
    · rename_i kc l
      obtain ⟨e1, q4⟩ := chk_inv q3
      obtain ⟨e2, q5⟩ := chk_inv q4
      obtain rfl := beq_eq e1
      obtain rfl := beq_eq e2
      obtain ⟨f, x, hf, hx, hK⟩ := keyOf_inv q5
      obtain ⟨es, r1, r2, r3, r4, r5, r6, r7⟩ := map_blk hp hb
      have c1 := r7.1
      have ek := (he.cod kt kc c1).dec _ _ hx
      obtain ⟨es', hr, hrep⟩ := run_mapUpdate (P := P) (V := fun v : AVal => v) (w := w) (X := a.eval kx) (Y := a.eval vx) (x := x) (y := v) he ht c1 hf (k1.le ek) (HT.le ⟨8, hkt⟩ ek) v1 ⟨8, hvt⟩ r4 r5
      rw [← em] at hr
      refine fin hr hK (EffOk.mapTurn hp hb r4 hrep r6 r7 (fun k hk => ?_) (fun v e => by cases e))
      rcases putM_keys hk with h | h
      · exact (hp.keysH key _ hb).2 k h
      · exact v2 k h

theorem op_makeMap (he : EnvOk P env) (hp : Pre env ρ Z u tmps H a w) (hbase : ∀ k, inBase base k → ¬ known u k) {o : Oper} {t : Nat} (ho : o.op = .makeMap t none)
    (h : evalMakeMap env base t K) : OpPost P env ρ Z u base H w K KP ((execOp a.eval o).run P w) := by
  unfold evalMakeMap at h
  cases ht : env.td t with
  | none => rw [ht] at h; exact h.elim
  | some td =>
    rw [ht] at h
    cases td <;> try exact h.elim
    rename_i kt vt
    obtain ⟨kc, hkc, q1⟩ := ob_inv h
    have hrun : (execOp a.eval o).run P w = .ok (.value (.map (some w.heap.size))) (w.alloc (.map #[] 0)) := by
      have : ∀ w0 : World, (newObj (.map #[] 0)).run P w0 = .ok w0.heap.size (w0.alloc (.map #[] 0)) := fun _ => rfl
      simp only [execOp, ho, Option.map_none, Instr.makeMap, Sem.run_bind, Sem.run_pure, Result.andThen_ok, this]
    have fresh : ∀ c : Cont, c.ents = [] → c.keys = [] → c.good → c.ofMap env kt vt → EffOk env ρ Z u base H w ⟨some (.mp base), [(base, some ⟨.map kt vt, c⟩)]⟩ (.map (some w.heap.size)) (w.alloc (.map #[] 0)) := fun c hc hk hg hm => by
      have hkeep : ∀ R, Keeps R w (w.alloc (.map #[] 0)) := fun R => Keeps.alloc w _
      refine EffOk.fresh (pl := ⟨w.heap.size, 0, 1, .map kt vt, 0⟩) hp hbase (hkeep _) (hp.heap.later (hkeep _)) (Nat.le_refl _) ?_ (by simp [hk]) (fun i => zone_fresh hp.heap (Nat.le_refl _)) ?_ (by simp [AVal.keys])
      · refine ⟨rfl, fun h => (by cases h), fun h => (by cases h), by simp, fun _ => ⟨kt, vt, #[], rfl, rfl, rfl, by show (w.heap.push _)[w.heap.size]? = _; rw [Array.getElem?_push_size]; rfl, by rw [hc]; simp [RepMs], hg, hm⟩⟩
      · rw [repV_mp, PMap.put_same]; exact ⟨⟨_, _, rfl⟩, rfl⟩
    rw [hrun]
    have ck := he.cod kt kc hkc
    cases hf : kc.eq with
    | none => rw [hf] at q1; exact q1.elim
    | some f =>
      rw [hf] at q1
      cases hvc : env.codec vt with
      | none =>
        rw [hvc] at q1
        exact ⟨_, q1, fresh _ rfl rfl ⟨ck.dec, ck.keys⟩ ⟨hkc, by rw [hf]; simp⟩⟩
      | some vc =>
        rw [hvc] at q1
        have cv := he.cod vt vc hvc
        exact ⟨_, q1, fresh _ rfl rfl ⟨⟨ck.dec, ck.keys⟩, ⟨cv.dec, cv.keys⟩⟩ ⟨hkc, hvc, by rw [hf]; simp⟩⟩
end
end Go.Abs

namespace Go.Abs

/-- The cells of one block. -/
def reg1 (pl : Place) (b o : Nat) : Prop := b = pl.block ∧ pl.lo ≤ o ∧ o < pl.hi
noncomputable def pickQ (p : Prop) (x : Option Value) : Option Value := by
  classical exact if p then x else none
theorem pickQ_pos {p : Prop} {x : Option Value} (h : p) : pickQ p x = x := by simp [pickQ, h]
theorem pickQ_neg {p : Prop} {x : Option Value} (h : ¬ p) : pickQ p x = none := by simp [pickQ, h]
/-- Cells that are only read from now on. -/
noncomputable def zoneP (Z : Zone) (w : World) (R : Nat → Nat → Prop) : Zone := ⟨fun b o => match Z b o with
  | some c => some c
  | none => pickQ (R b o) (w.cell? ⟨b, o, none⟩), Z.g⟩
noncomputable abbrev zone1 (Z : Zone) (w : World) (pl : Place) : Zone := zoneP Z w (reg1 pl)

section
variable {P : Program} {env : Env} {ρ : PMap} {Z : Zone} {u : Nat → Bool} {base : Nat} {tmps : List (Option AVal)} {H : Heap} {a : Act} {w : World} {K : Eff → Prop} {KP : AVal → List (Nat × Option Blk) → Prop} {pl : Place} {R : Nat → Nat → Prop}

theorem zoneP_eq {b o : Nat} : zoneP Z w R b o = (match Z b o with
    | some c => some c
    | none => pickQ (R b o) (w.cell? ⟨b, o, none⟩)) := rfl
theorem zone1_le : Zle Z (zoneP Z w R) := fun b o c h => by rw [zoneP_eq, h]
theorem zone1_new {b o : Nat} (h : Z b o = none) (h' : zoneP Z w R b o ≠ none) : R b o := by
  rw [zoneP_eq, h] at h'
  by_cases hr : R b o
  · exact hr
  · simp [pickQ_neg hr] at h'
theorem zone1_cell (hz : ∀ b o v, Z b o = some v → w.cell? ⟨b, o, none⟩ = some v) {b o : Nat} {v : Value} (h : zoneP Z w R b o = some v) : w.cell? ⟨b, o, none⟩ = some v := by
  rw [zoneP_eq] at h
  cases hzz : Z b o with
  | some c => rw [hzz] at h; cases h; exact hz b o _ hzz
  | none =>
    rw [hzz] at h
    by_cases hr : R b o
    · simpa [pickQ_pos hr] using h
    · simp [pickQ_neg hr] at h
theorem zoneP_in {b o : Nat} {v : Value} (hz : Z b o = none) (hR : R b o) (hc : w.cell? ⟨b, o, none⟩ = some v) : zoneP Z w R b o = some v := by
  rw [zoneP_eq, hz]
  simp only
  rw [pickQ_pos hR]
  exact hc
theorem zone1_in (hz : ∀ i, pl.lo ≤ i → i < pl.hi → Z pl.block i = none) {i : Nat} {v : Value} (h1 : pl.lo ≤ i) (h2 : i < pl.hi) (hc : w.cell? ⟨pl.block, i, none⟩ = some v) : zone1 Z w pl pl.block i = some v := zoneP_in (hz i h1 h2) ⟨rfl, h1, h2⟩ hc

theorem GOk.grow {Z' : Zone} (h : GOk env Z w) (hg : Z'.g = Z.g) (hz : Zle Z Z') : GOk env Z' w := by
  refine ⟨fun id t v hid => ?_, fun id hid => by rw [hg]; exact h.glob id hid, fun i j => by rw [hg]; exact h.inj i j, fun id => by rw [hg]; exact h.cells id⟩
  obtain ⟨h1, ecs, h2, h3⟩ := h.cont id t v hid
  exact ⟨h1, ecs, fun ρ => (h2 ρ).zone hg fun _ => hz, fun j c hj => by rw [hg]; exact hz _ _ _ (h3 j c hj)⟩

theorem heap1 (hh : HeapOk env ρ Z w H) {k : Nat} {B : Blk} (hk : H k = some B) : HeapOk env ρ (zone1 Z w (ρ k)) w (upd1 H k none) := by
  have inv : ∀ j b, upd1 H k none j = some b → j ≠ k ∧ H j = some b := fun j b hb => by
    unfold upd1 at hb
    cases hq : Nat.beq j k with
    | true => rw [hq] at hb; cases hb
    | false => rw [hq] at hb; exact ⟨Nat.ne_of_beq_eq_false hq, hb⟩
  refine ⟨fun j b hb => BlkOk.zone (Z := Z) (Z' := zone1 Z w (ρ k)) rfl zone1_le (hh.blk j b (inv j b hb).2), fun j j' b b' hne hb hb' => hh.dis j j' b b' hne (inv j b hb).2 (inv j' b' hb').2, fun j b hb i h1 h2 => ?_, fun b o v hz => zone1_cell hh.zone hz, hh.pos, hh.gok.grow rfl zone1_le⟩
  cases hz : zone1 Z w (ρ k) (ρ j).block i with
  | none => rfl
  | some c =>
    obtain ⟨g1, g2, g3⟩ := zone1_new (hh.zdis j b (inv j b hb).2 i h1 h2) (by rw [hz]; simp)
    exact (hh.dis j k b B (inv j b hb).1 (inv j b hb).2 hk i g1 h1 h2 g2 g3).elim

theorem vw_of_sw (he : SzOk env) (hh : HeapOk env ρ Z w H) {k e : Nat} {kd : IntKind} {l : List (TT kd)} (hk : H k = some ⟨.row e, .ints kd l⟩) {cs : List Value} (hr : RepC env ρ Z (.sw k) cs) : RepC env ρ (zone1 Z w (ρ k)) (.vw kd l) cs := by
  obtain ⟨a, cap, e0, r0, rfl, hlc, hcap⟩ := hr
  have hB := hh.blk k _ hk
  obtain ⟨cs, b1, b2, b3⟩ := hB.cells rfl
  obtain ⟨b4, b5, b6, b7⟩ := b1
  have hlen : l.length = (ρ k).len := by simpa [Cont.elems] using b5
  refine ⟨a, cap, by rw [hlen], by rw [hlen]; exact hlc, fun hne => ?_⟩
  have hpos : 0 < l.length := List.length_pos_iff.2 hne
  obtain ⟨q1, q2⟩ := hcap (by omega)
  refine ⟨_, _, q1, fun i x hx => ?_⟩
  have hel : (Cont.ints kd l).elems[i]? = some (.int kd x) := by simp [Cont.elems, hx]
  obtain ⟨c1, c2, c3, g0, g1, g2, g3, -, -⟩ := b6.nth he hel
  simp only [RepC] at g2
  have hs1 : env.sz e = 1 := by rw [← g3.len he (show RepC env ρ Z (.int kd x) c2 by simp only [RepC]; exact g2), g2]; rfl
  rw [hs1, Nat.mul_one] at g1
  have hci : cs[i]? = some (.int kd (toI kd x)) := by rw [g0, g2]; simp [← g1]
  have hi : i < cs.length := (List.getElem?_eq_some_iff.1 hci).1
  exact zone1_in (hh.zdis k _ hk) (by omega) (by omega) (b2 i _ hci)

theorem vr_of_sw (he : SzOk env) (hh : HeapOk env ρ Z w H) {k e : Nat} {c : Codec} {l : List c.α} (hk : H k = some ⟨.row e, .recs c l⟩) (tg : VT) (m : List tg.ty) (hmap : m.map (encT tg) = l.map c.enc) {cs : List Value} (hr : RepC env ρ Z (.sw k) cs) (d : tg.ty) : RepC env ρ (zone1 Z w (ρ k)) (.vr tg e (encT tg) d m) cs := by
  obtain ⟨a, cap, e0, r0, rfl, hlc, hcap⟩ := hr
  have hB := hh.blk k _ hk
  obtain ⟨cs, b1, b2, b3⟩ := hB.cells rfl
  obtain ⟨b4, b5, b6, b7⟩ := b1
  have hlen : m.length = (ρ k).len := by rw [← List.length_map (encT tg), hmap]; exact b5
  refine ⟨rfl, a, cap, by rw [hlen], by rw [hlen]; exact hlc, fun hne => ?_⟩
  have hpos : 0 < m.length := List.length_pos_iff.2 hne
  obtain ⟨q1, q2⟩ := hcap (by omega)
  refine ⟨_, _, q1, fun i x hx => ?_⟩
  have hel : (Cont.recs c l).elems[i]? = some (encT tg x) := by
    show (l.map c.enc)[i]? = _
    rw [← hmap]; simp [hx]
  have hnk0 : (encT tg x).keys = [] := by
    have hm : encT tg x ∈ l.map c.enc := List.mem_of_getElem? hel
    obtain ⟨y, -, hy⟩ := List.mem_map.1 hm
    rw [← hy]; exact b7.2.1 y
  obtain ⟨c1, c2, c3, g0, g1, g2, g3, -, -⟩ := b6.nth he hel
  refine ⟨c2, g2.zone rfl fun _ => zone1_le, hnk0, g3.len he g2, fun j v hj => ?_⟩
  have hjl : j < c2.length := (List.getElem?_eq_some_iff.1 hj).1
  have hci : cs[i * env.sz e + j]? = some v := by
    rw [g0, List.append_assoc, List.getElem?_append_right (by omega), g1, show i * env.sz e + j - i * env.sz e = j by omega, List.getElem?_append_left hjl]
    exact hj
  have hi : i * env.sz e + j < cs.length := (List.getElem?_eq_some_iff.1 hci).1
  rw [Nat.add_assoc]
  exact zone1_in (hh.zdis k _ hk) (by omega) (by omega) (b2 _ _ hci)

theorem EffOk.toView (he : SzOk env) (hp : Pre env ρ Z u tmps H a w) (hbase : ∀ k, inBase base k → ¬ known u k) {e : Nat} {kd : IntKind} {l : List (TT kd)} {x : Value} {w' : World}
    (h : EffOk env ρ Z u base H w ⟨some (.sw base), [(base, some ⟨.row e, .ints kd l⟩)]⟩ x w') : EffOk env ρ Z u base H w ⟨some (.vw kd l), []⟩ x w' := by
  obtain ⟨Z', ρ', hg, hE⟩ := h
  have hb0 : inBase base base := ⟨Nat.le_refl _, by omega⟩
  have hH : H base = none := by
    cases hh : H base with
    | none => rfl
    | some b' => exact absurd (hp.keysH base b' hh).1 (hbase base hb0)
  have hu : updL H [(base, some ⟨.row e, .ints kd l⟩)] base = some ⟨.row e, .ints kd l⟩ := by
    show upd1 H base _ base = _
    simp [upd1]
  have hun : upd1 (updL H [(base, some ⟨.row e, .ints kd l⟩)]) base none = H := by
    funext j
    show upd1 (upd1 H base _) base none j = H j
    unfold upd1
    cases hq : Nat.beq j base with
    | true => simp only; rw [beq_eq hq, hH]
    | false => rfl
  have hheap := heap1 hE.heap hu
  rw [hun] at hheap
  refine ⟨zone1 Z' w' (ρ' base), ρ', ⟨hg.g, fun b o c h => zone1_le _ _ _ (hg.le b o c h), fun b o h1 h3 => ?_⟩, fun v hv => ?_, hheap, hE.old, fun k b hm => by simp at hm, hE.keep, fun k b hb i h1 h2 => ?_, fun k b hm => by simp at hm⟩
  · cases hz : Z' b o with
    | some c => exact hg.new b o h1 (by rw [hz]; simp)
    | none =>
      obtain ⟨rfl, g2, g3⟩ := zone1_new hz h3
      exact hE.reg base _ hu o g2 g3
  · cases hv
    obtain ⟨g1, -⟩ := hE.val _ rfl
    have g1' : RepC env ρ' Z' (.sw base) [x] := by simpa [RepV, AVal.isAgg] using g1
    exact ⟨by simpa [RepV, AVal.isAgg] using vw_of_sw he hE.heap hu g1', fun k hk => by simp [AVal.keys] at hk⟩
  · have hb : H k = some b := hb
    have hne : k ≠ base := fun h0 => by rw [h0, hH] at hb; cases hb
    refine hE.reg k b ?_ i h1 h2
    show upd1 H base _ k = _
    unfold upd1
    rw [beq_false_of_ne hne]
    exact hb

theorem OpPost.mono {K K' : Eff → Prop} (hK : ∀ e x w', K e → EffOk env ρ Z u base H w e x w' → ∃ e', K' e' ∧ EffOk env ρ Z u base H w e' x w') : ∀ {r : Result Next}, OpPost P env ρ Z u base H w K KP r → OpPost P env ρ Z u base H w K' KP r := by
  intro r h
  cases r with
  | halt => exact h
  | ok n w' =>
    cases n with
    | value x => obtain ⟨e, h1, h2⟩ := h; exact hK e x w' h1 h2
    | skip => obtain ⟨e, h1, h2⟩ := h; exact hK e _ w' h1 h2
    | enter g args =>
      refine Calls.mono h fun en w' hx => ?_
      rcases hx with ⟨e, x, e1, h1, h2⟩ | ⟨v, x, us, e1, h1, h2⟩
      · obtain ⟨e', g1, g2⟩ := hK e x w' h1 h2
        exact .inl ⟨e', x, e1, g1, g2⟩
      · exact .inr ⟨v, x, us, e1, h1, h2⟩
    | _ => exact h.elim

theorem appendV_inv {st : Nat} {k : IntKind} {l : List (TT k)} {Q : Prop} (h : evalAppend env base H st .nilsl (.vw k l) fun _ => Q) :
    Q ∧ ∃ e, evalAppend env base H st .nilsl (.vw k l) fun e' => e' = ⟨some (.sw base), [(base, some ⟨.row e, .ints k l⟩)]⟩ := by
  unfold evalAppend at h ⊢
  cases ht : env.td st with
  | none => rw [ht] at h; exact h.elim
  | some td =>
    rw [ht] at h
    cases td <;> try exact h.elim
    rename_i e
    simp only at h ⊢
    obtain ⟨c, h1, h⟩ := ob_inv h
    obtain ⟨q, h2, h⟩ := ob_inv h
    obtain ⟨c', h3, h⟩ := ob_inv h
    obtain ⟨z, h4, h⟩ := ob_inv h
    obtain ⟨h5, h⟩ := chk_inv h
    refine ⟨h, e, ?_⟩
    simp only [h1, h2, h3, h4, h5, ob, chk]
    have hi : isInt env e k = true := by
      simp only [srcOf, seqOf] at h2
      cases hi : isInt env e k with
      | false => rw [hi] at h2; cases h2
      | true => rfl
    have hq : q = .ints k l := by
      simp only [srcOf, seqOf, hi] at h2
      cases h2; rfl
    subst hq
    have hc : c = .ints k [] := by
      simp only [headOf, zeroRow] at h1
      unfold isInt at hi
      cases hte : env.td e with
      | none => rw [hte] at hi; cases hi
      | some te =>
        rw [hte] at hi h1
        cases te <;> try cases hi
        rename_i k'
        have hk : k' = k := by cases k <;> cases k' <;> first | rfl | cases hi
        subst hk
        simp only [Option.some.injEq] at h1
        exact h1.symm
    subst hc
    have hc' : c' = .ints k l := by
      simp only [Cont.join, hi, Seq.toInts] at h3
      have : castL k k l = some l := by cases k <;> rfl
      rw [this] at h3
      simp only [Option.some.injEq, List.nil_append] at h3
      exact h3.symm
    subst hc'
    rfl

theorem op_appendV (he : EnvOk P env) (hp : Pre env ρ Z u tmps H a w) (hbase : ∀ k, inBase base k → ¬ known u k) {o : Oper} {c : Call} (ho : o.op = .call c) (hc : c.callee = .builtin .append) {t t2 : Nat} {s x : AVal}
    (hts : c.argTypes.toList = [t, t2]) (hv : opVals tmps c.args.toList = some [s, x]) (h : chk (notInt env t2) (evalAppendV env base H t s x K)) : OpPost P env ρ Z u base H w K KP ((execOp a.eval o).run P w) := by
  obtain ⟨h0, h⟩ := chk_inv h
  unfold evalAppendV at h
  split at h
  · rename_i k l _
    obtain ⟨hK, e, h⟩ := appendV_inv h
    refine (op_append he hp hbase ho hc hts hv (K := fun e' => e' = ⟨some (.sw base), [(base, some ⟨.row e, .ints k l⟩)]⟩) (by rw [h0]; exact h)).mono fun e' x w' h1 h2 => ?_
    subst h1
    exact ⟨_, hK, h2.toView he.size hp hbase⟩
  · exact op_append he hp hbase ho hc hts hv (by rw [h0]; exact h)
end
end Go.Abs
