/- Regions whose order is drawn: whatever order, the same state. Regions whose order is drawn, in the model. -/
import Derived.Test.YtadiphoihflmiaaGreatDoorZan
import Derived.Still
set_option linter.all false
namespace Go.Abs
section
variable {P : Program} {env : Env} {C : Tab} {ρ ρ0 : PMap} {Z0 Z : Zone} {u : Nat → Bool} {base nb : Nat} {tmps : List (Option AVal)} {H H0 : Heap} {a : Act} {w w0 : World} {S : St} {ks : List Nat}

/-! ### a part of the memory alone -/
theorem restr_inv {k : Nat} {b : Blk} (h : restr H ks k = some b) : k ∈ ks ∧ H k = some b := by
  unfold restr at h
  cases hm : memN k ks with
  | false => simp [hm] at h
  | true => simp [hm] at h; exact ⟨memN_iff.1 hm, h⟩

theorem restr_in {k : Nat} (h : k ∈ ks) : restr H ks k = H k := by
  unfold restr; rw [memN_iff.2 h]

theorem restr_out {k : Nat} (h : k ∉ ks) : restr H ks k = none := by
  unfold restr; rw [memN_false.2 h]

theorem Pre.restr (hp : Pre env ρ Z u tmps H a w) : Pre env ρ Z u tmps (restr H ks) a w := by
  refine ⟨hp.size, hp.tmps, ?_, fun k b hb => hp.keysH k b (restr_inv hb).2⟩
  exact ⟨fun k b hb => hp.heap.blk k b (restr_inv hb).2, fun k k' b b' hne hb hb' => hp.heap.dis k k' b b' hne (restr_inv hb).2 (restr_inv hb').2, fun k b hb => hp.heap.zdis k b (restr_inv hb).2, hp.heap.zone, hp.heap.pos, hp.heap.gok⟩

theorem inReg_restr {b i : Nat} (h : inReg ρ (Go.Abs.restr H ks) b i) : inReg ρ H b i := by
  obtain ⟨k, B, h1, h2⟩ := h
  exact ⟨k, B, (restr_inv h1).2, h2⟩

theorem updL_restr {B : Blk} {k : Nat} : ∀ {us : List (Nat × Option Blk)} {H1 H2 : Heap}, (∀ k B, H1 k = some B → H2 k = some B ∨ (H k = some B ∧ k ∉ ks)) → updL H1 us k = some B → updL H2 us k = some B ∨ (H k = some B ∧ k ∉ ks)
  | [], H1, H2, hh, h => hh k B h
  | (j, o) :: us, H1, H2, hh, h => by
    simp only [updL] at h ⊢
    refine updL_restr (fun i B hi => ?_) h
    rcases upd1_inv hi with ⟨rfl, e⟩ | ⟨hne, e⟩
    · left; rw [upd1_same]; exact e
    · rcases hh i B e with h | h
      · left; rw [upd1_other _ _ hne]; exact h
      · exact .inr h

theorem EffOk.frame (hp : Pre env ρ Z u tmps H a w) (hbase : ∀ k, inBase base k → ¬ known u k) {e : Eff} {x : Value} {w' : World} (he : EffOk env ρ Z u base (Go.Abs.restr H ks) w e x w') : EffOk env ρ Z u base H w e x w' := by
  obtain ⟨Z', ρ', hgr, he⟩ := he
  have inv : ∀ k B, updL H e.upd k = some B → updL (Go.Abs.restr H ks) e.upd k = some B ∨ (H k = some B ∧ k ∉ ks) := fun k B h => by
    refine updL_restr (H := H) (ks := ks) (fun k B hk => ?_) h
    by_cases hm : k ∈ ks
    · left; rw [restr_in hm]; exact hk
    · exact .inr ⟨hk, hm⟩
  have off : ∀ k B, H k = some B → k ∉ ks → ∀ i, (ρ k).lo ≤ i → i < (ρ k).hi → ¬ inReg ρ (Go.Abs.restr H ks) (ρ k).block i := fun k B hk hn i h1 h2 hR => by
    obtain ⟨k', B', g1, g2, g3, g4⟩ := hR
    obtain ⟨g5, g6⟩ := restr_inv g1
    exact hp.heap.dis k' k B' B (by rintro rfl; exact hn g5) g6 hk i g2 g3 g4 h1 h2
  have oldK : ∀ k B, H k = some B → ρ' k = ρ k := fun k B hk => he.old k (hp.keysH k B hk).1
  have apart2 : ∀ k B k' B', updL (Go.Abs.restr H ks) e.upd k = some B → H k' = some B' → k' ∉ ks → Apart (ρ' k) (ρ k') := fun k B k' B' hk hk' hn i e1 h1 h2 h3 h4 => by
    rcases he.reg k B hk i h1 h2 with h | h
    · have := (hp.heap.blk k' B' hk').there
      rw [e1] at h; omega
    · rw [e1] at h
      exact off k' B' hk' hn i h3 h4 h
  refine ⟨Z', ρ', hgr.mono fun b i h => inReg_restr h, he.val, ?_, he.old, he.keysU, he.keep.mono fun b i _ h => inReg_restr h, fun k B hB i h1 h2 => ?_, fun k o hm => ?_⟩
  · refine ⟨fun k B hB => ?_, fun k k' B B' hne hB hB' => ?_, fun k B hB => ?_, he.heap.zone, he.heap.pos, he.heap.gok⟩
    · rcases inv k B hB with h | ⟨h1, h2⟩
      · exact he.heap.blk k B h
      · rw [oldK k B h1]
        exact (((hp.heap.blk k B h1).zone hgr.g hgr.le).keeps he.keep (off k B h1 h2)).congr fun j hj => he.old j ((hp.keysH k B h1).2 j hj)
    · rcases inv k B hB with h | ⟨h1, h2⟩ <;> rcases inv k' B' hB' with h' | ⟨h3, h4⟩
      · exact he.heap.dis k k' B B' hne h h'
      · rw [oldK k' B' h3]; exact apart2 k B k' B' h h3 h4
      · rw [oldK k B h1]; exact (apart2 k' B' k B h' h1 h2).symm
      · rw [oldK k B h1, oldK k' B' h3]; exact hp.heap.dis k k' B B' hne h1 h3
    · rcases inv k B hB with h | ⟨h1, h2⟩
      · exact he.heap.zdis k B h
      · rw [oldK k B h1]
        intro i h3 h4
        cases hz : Z' (ρ k).block i with
        | none => rfl
        | some c =>
          rcases hgr.new _ _ (hp.heap.zdis k B h1 i h3 h4) (by rw [hz]; simp) with h | h
          · have := (hp.heap.blk k B h1).there; omega
          · exact absurd h (off k B h1 h2 i h3 h4)
  · rcases inv k B hB with h | ⟨h3, h4⟩
    · exact (he.reg k B h i h1 h2).imp id inReg_restr
    · rw [oldK k B h3] at h1 h2 ⊢
      exact .inr ⟨k, B, h3, rfl, h1, h2⟩
  · rcases he.dom k o hm with h | h
    · left
      intro h0
      apply h
      by_cases hk : k ∈ ks
      · rw [restr_in hk]; exact h0
      · exact restr_out hk
    · exact .inr h

/-! ### what an operation looks at -/
theorem opVals_congr {tmps tmps' : List (Option AVal)} : ∀ {xs : List Operand}, (∀ x, x ∈ xs → opVal tmps x = opVal tmps' x) → opVals tmps xs = opVals tmps' xs
  | [], _ => rfl
  | x :: xs, h => by simp only [opVals]; rw [h x (by simp), opVals_congr fun y hy => h y (by simp [hy])]

theorem partVals_congr {tmps tmps' : List (Option AVal)} : ∀ {xs : List (Nat × Operand)}, (∀ x, x ∈ xs.map (·.2) → opVal tmps x = opVal tmps' x) → partVals tmps xs = partVals tmps' xs
  | [], _ => rfl
  | (i, x) :: xs, h => by simp only [partVals]; rw [h x (by simp), partVals_congr fun y hy => h y (by simp at hy ⊢; exact .inr hy)]

theorem opKeys_congr {tmps tmps' : List (Option AVal)} : ∀ {xs : List Operand}, (∀ x, x ∈ xs → opVal tmps x = opVal tmps' x) → opKeys tmps xs = opKeys tmps' xs
  | [], _ => rfl
  | x :: xs, h => by simp only [opKeys]; rw [h x (by simp), opKeys_congr fun y hy => h y (by simp [hy])]

theorem optVal_congr {tmps tmps' : List (Option AVal)} {x : Option Operand} (h : ∀ y, y ∈ x.toArray.toList → opVal tmps y = opVal tmps' y) : optVal tmps x = optVal tmps' x := by
  cases x with
  | none => rfl
  | some x => simp only [optVal]; rw [h x (by simp)]

theorem evalOp_congr {tmps tmps' : List (Option AVal)} {h : Heap} {o : Oper} (hx : ∀ x, x ∈ o.op.operands.toList → opVal tmps x = opVal tmps' x) (K : Eff → Prop) : evalOp env C base tmps h o K = evalOp env C base tmps' h o K := by
  unfold evalOp
  generalize o.op = op at hx
  cases op
  case call c =>
    simp only [Op.operands, Call.operands] at hx
    cases hc : c.callee with
    | builtin b =>
      simp only [hc] at hx ⊢
      rw [opVals_congr (tmps := tmps) (tmps' := tmps') (fun x h => hx x (by simpa using h))]
    | value f =>
      simp only [hc] at hx ⊢
      rw [opVals_congr (tmps := tmps) (tmps' := tmps') (fun x h => hx x (by simp at h ⊢; exact .inr h)), hx f (by simp)]
    | invoke r name =>
      simp only [hc] at hx ⊢
      rw [opVals_congr (tmps := tmps) (tmps' := tmps') (fun x h => hx x (by simp at h ⊢; exact .inr h)), hx r (by simp)]
  case build t ps =>
    simp only
    rw [partVals_congr (tmps := tmps) (tmps' := tmps') (fun x h => hx x (by simpa [Op.operands] using h))]
  case buildSlice t n ps =>
    simp only
    rw [partVals_congr (tmps := tmps) (tmps' := tmps') (fun x h => hx x (by simpa [Op.operands] using h))]
  case makeFunc f first captured =>
    simp only
    rw [opVals_congr (xs := first.toList) (tmps := tmps) (tmps' := tmps') (fun x h => hx x (by simp [Op.operands]; exact .inl (by simpa using h))), opVals_congr (xs := captured.toList) (tmps := tmps) (tmps' := tmps') (fun x h => hx x (by simp [Op.operands]; exact .inr (by simpa using h)))]
  case slice t x lo hi mx =>
    cases mx with
    | some _ => rfl
    | none =>
      simp only
      rw [hx x (by simp [Op.operands]), optVal_congr (x := lo) (tmps := tmps) (tmps' := tmps') (fun y h => hx y (by simp [Op.operands] at h ⊢; simp [h])), optVal_congr (x := hi) (tmps := tmps) (tmps' := tmps') (fun y h => hx y (by simp [Op.operands] at h ⊢; simp [h]))]
  case typeAssert x xt t ok =>
    simp only
    rw [hx x (by simp [Op.operands])]
  all_goals (simp only [Op.operands] at hx; simp [hx])

/-! ### what is reached -/
theorem reach_seen {h : Heap} : ∀ {n : Nat} {ks seen : List Nat} {k : Nat}, k ∈ seen → k ∈ reach h n ks seen
  | 0, ks, seen, k, hk => by simpa [reach] using hk
  | n + 1, [], seen, k, hk => by simpa [reach] using hk
  | n + 1, j :: ks, seen, k, hk => by
    simp only [reach]
    cases memN j seen with
    | true => exact reach_seen hk
    | false =>
      cases h j with
      | none => exact reach_seen (by simp [hk])
      | some b => exact reach_seen (by simp [hk])

theorem reach_congr {h h' : Heap} : ∀ {n : Nat} {ks seen : List Nat}, (∀ k, k ∈ reach h n ks seen → h' k = h k) → reach h' n ks seen = reach h n ks seen
  | 0, ks, seen, _ => rfl
  | n + 1, [], seen, _ => rfl
  | n + 1, j :: ks, seen, hh => by
    simp only [reach] at hh ⊢
    cases hm : memN j seen with
    | true => simp only [hm] at hh; exact reach_congr hh
    | false =>
      simp only [hm] at hh
      cases hj : h j with
      | none =>
        simp only [hj] at hh
        have : h' j = none := (hh j (reach_seen (by simp))).trans hj
        simp only [this]
        exact reach_congr hh
      | some b =>
        simp only [hj] at hh
        have : h' j = some b := (hh j (reach_seen (by simp))).trans hj
        simp only [this]
        exact reach_congr hh
end

theorem lookOf_congr {h h' : Heap} {ks : List Nat} : ∀ {d : Nat}, (∀ k, k ∈ lookOf h ks d → h' k = h k) → lookOf h' ks d = lookOf h ks d
  | 0, _ => rfl
  | 1, _ => rfl
  | _ + 2, hh => reach_congr hh

/-! ### guards as data -/
def gval (ops : List Oper) (tmps : List (Option AVal)) (o : Oper) : Option Bool := match o.guard with
  | none => some true
  | some (j, want) => match opAt ops j with
    | some g => match g.dst with
      | some d => match getL tmps d with
        | some (.bool b) => some (b == want)
        | some .tnil => some false
        | _ => none
      | none => none
    | none => none

theorem guarded_gval {ops : List Oper} {tmps : List (Option AVal)} {o : Oper} {yes no : Prop} : guarded ops tmps o yes no ↔ (gval ops tmps o = some true ∧ yes) ∨ (gval ops tmps o = some false ∧ no) := by
  unfold guarded gval
  cases o.guard with
  | none => simp
  | some jw =>
    obtain ⟨j, want⟩ := jw
    simp only
    cases opAt ops j with
    | none => simp
    | some g =>
      simp only
      cases g.dst with
      | none => simp
      | some d =>
        simp only
        cases getL tmps d with
        | none => simp
        | some v =>
          cases v <;> simp only [reduceCtorEq, false_and, or_self]
          case bool b => cases want <;> cases b <;> simp [br]
          case tnil => simp

/-! ### items -/
structure Item : Type 1 where
  i : Nat
  o : Oper
  e : Option Eff
  ks : List Nat

def Item.wr (it : Item) : List Nat := match it.e with
  | some e => fstL e.upd
  | none => []

def Item.mark (it : Item) : Mark := ⟨it.ks, it.wr⟩

def Item.apply (rid : Nat) (it : Item) (S : St) : St := match it.e with
  | some e => S.after it.o (keyAt rid it.i) e
  | none => S.skip it.o

def Item.Good (env : Env) (C : Tab) (rid : Nat) (ops : List Oper) (it : Item) (S : St) : Prop := match it.e with
  | some e => gval ops S.tmps it.o = some true ∧ S.used (keyAt rid it.i) = false ∧ it.ks = lookOf S.heap (opKeys S.tmps it.o.op.operands.toList) (deepOp it.o.op) ∧ ∀ K', K' e → evalOp env C (keyAt rid it.i) S.tmps (restr S.heap it.ks) it.o K'
  | none => gval ops S.tmps it.o = some false ∧ it.ks = []

def Canon (env : Env) (C : Tab) (rid : Nat) (ops : List Oper) : List Item → List Mark → St → Prop
  | [], _, _ => True
  | it :: its, ms, S => it.Good env C rid ops S ∧ apartAll ops it.o it.mark 0 ms = true ∧ Canon env C rid ops its (ms ++ [it.mark]) (it.apply rid S)

theorem apartAll_empty (ops : List Oper) (o : Oper) : ∀ (i : Nat) (ms : List Mark), apartAll ops o ⟨[], []⟩ i ms = true
  | i, [] => rfl
  | i, m :: ms => by
    have : m.apart ⟨[], []⟩ = true := by
      have : disj m.wr [] = true := disj_iff.2 fun k _ => by simp
      simp [Mark.apart, this, andB, disj]
    simp [apartAll, this, apartAll_empty ops o (i + 1) ms]

theorem apartAll_spec {ops : List Oper} {o : Oper} {m : Mark} : ∀ {i : Nat} {ms : List Mark}, apartAll ops o m i ms = true → ∀ j m', ms[j]? = some m' → m'.apart m = true ∨ waitsT ops 6 o (i + j) = true
  | i, [], _, j, m', h => by simp at h
  | i, m0 :: ms, hh, j, m', h => by
    simp only [apartAll] at hh
    cases j with
    | zero =>
      simp at h; subst h
      cases ha : m0.apart m with
      | true => exact .inl rfl
      | false =>
        cases hw : waitsT ops 6 o i with
        | true => exact .inr (by simpa using hw)
        | false => simp [ha, hw] at hh
    | succ j =>
      have hh' : apartAll ops o m (i + 1) ms = true := by
        cases ha : m0.apart m with
        | true => simpa [ha] using hh
        | false =>
          cases hw : waitsT ops 6 o i with
          | true => simpa [ha, hw] using hh
          | false => simp [ha, hw] at hh
      have := apartAll_spec hh' j m' (by simpa using h)
      rw [show i + (j + 1) = i + 1 + j by omega]; exact this

section
variable {P : Program} {env : Env} {C : Tab} {rid : Nat} {ops : List Oper}

theorem canon_of (hC : ∀ f c, C f = some c → CtrOk P env f c) {K : St → Prop} : ∀ (os : List Oper) (i : Nat) (ms : List Mark) (S : St), evalDraw env C rid ops os i ms S K →
    ∃ its : List Item, its.map (·.o) = os ∧ (∀ j it, its[j]? = some it → it.i = i + j) ∧ Canon env C rid ops its ms S ∧ K (its.foldl (fun S it => it.apply rid S) S)
  | [], i, ms, S, h => ⟨[], rfl, fun j it hj => by simp at hj, trivial, h⟩
  | o :: os, i, ms, S, h => by
    simp only [evalDraw] at h
    have h := guardedS_inv h
    have ext : ∀ (it : Item) (its : List Item), it.i = i → (∀ j it, its[j]? = some it → it.i = i + 1 + j) → ∀ j it', (it :: its)[j]? = some it' → it'.i = i + j := fun it its h0 h1 j it' hj => by
      cases j with
      | zero => simp at hj; subst hj; simpa using h0
      | succ j => simp at hj; rw [h1 j it' hj]; omega
    rcases guarded_gval.1 h with ⟨hg, h⟩ | ⟨hg, h⟩
    · obtain ⟨hu, h⟩ := chk_inv h
      obtain ⟨e, h1, h2⟩ := det_evalOp hC _ h
      obtain ⟨h3, h4⟩ := chk_inv h1
      obtain ⟨its, g1, g2, g3, g4⟩ := canon_of hC os (i + 1) _ _ h4
      refine ⟨⟨i, o, some e, lookOf S.heap (opKeys S.tmps o.op.operands.toList) (deepOp o.op)⟩ :: its, by simp [g1], ext _ _ rfl g2, ⟨⟨hg, by simpa using hu, rfl, h2⟩, h3, g3⟩, g4⟩
    · obtain ⟨its, g1, g2, g3, g4⟩ := canon_of hC os (i + 1) _ _ h
      exact ⟨⟨i, o, none, []⟩ :: its, by simp [g1], ext _ _ rfl g2, ⟨⟨hg, rfl⟩, apartAll_empty _ _ _ _, g3⟩, g4⟩

theorem canon_split {pre : List Item} : ∀ {it : Item} {post : List Item} {ms : List Mark} {S : St}, Canon env C rid ops (pre ++ it :: post) ms S →
    it.Good env C rid ops (pre.foldl (fun S it => it.apply rid S) S) ∧ apartAll ops it.o it.mark 0 (ms ++ pre.map Item.mark) = true := by
  induction pre with
  | nil => intro it post ms S h; exact ⟨h.1, by simpa using h.2.1⟩
  | cons p pre ih =>
    intro it post ms S h
    have := ih h.2.2
    exact ⟨this.1, by simpa using this.2⟩

/-! ### two that are apart -/
structure Apt (ops : List Oper) (x y : Item) : Prop where
  ne : x.i ≠ y.i
  t1 : ∀ d, x.o.dst = some d → d ∉ y.o.looksAt ops.toArray
  t2 : ∀ d, x.o.dst = some d → y.o.dst ≠ some d
  t3 : ∀ d, y.o.dst = some d → d ∉ x.o.looksAt ops.toArray
  w : ∀ k, k ∈ x.wr → k ∉ y.wr
  r1 : ∀ k, k ∈ x.wr → k ∉ y.ks
  r2 : ∀ k, k ∈ y.wr → k ∉ x.ks

theorem Apt.symm {x y : Item} (h : Apt ops x y) : Apt ops y x :=
  ⟨h.ne.symm, h.t3, fun d hd hd' => h.t2 d hd' hd, h.t1, fun k hk hk' => h.w k hk' hk, h.r2, h.r1⟩

theorem mark_apart {a b : Mark} (h : a.apart b = true) : (∀ k, k ∈ a.wr → k ∉ b.wr) ∧ (∀ k, k ∈ a.wr → k ∉ b.rd) ∧ ∀ k, k ∈ b.wr → k ∉ a.rd := by
  unfold Mark.apart at h
  cases h1 : disj a.wr b.wr <;> simp [h1, andB] at h
  cases h2 : disj a.wr b.rd <;> simp [h2] at h
  exact ⟨disj_iff.1 h1, disj_iff.1 h2, disj_iff.1 h⟩

theorem putT_comm (t : List (Option AVal)) {d d' : Option Nat} (v v' : Option AVal) (h : ∀ x, d = some x → d' ≠ some x) : putT (putT t d v) d' v' = putT (putT t d' v') d v := by
  cases d with
  | none => rfl
  | some x =>
    cases d' with
    | none => rfl
    | some y =>
      have hne : x ≠ y := fun e => h x rfl (by rw [e])
      simp only [putT]
      clear h
      induction t generalizing x y with
      | nil => rfl
      | cons z t ih =>
        cases x with
        | zero =>
          cases y with
          | zero => exact absurd rfl hne
          | succ y => rfl
        | succ x =>
          cases y with
          | zero => rfl
          | succ y => simp only [setL]; rw [ih x y (by omega)]

theorem fstL_mem {us : List (Nat × Option Blk)} {k : Nat} : k ∈ fstL us ↔ ∃ o, (k, o) ∈ us := by
  induction us with
  | nil => simp [fstL]
  | cons p us ih =>
    obtain ⟨j, o⟩ := p
    simp only [fstL, List.mem_cons, ih, Prod.mk.injEq]
    constructor
    · rintro (rfl | ⟨o', h⟩)
      · exact ⟨o, .inl ⟨rfl, rfl⟩⟩
      · exact ⟨o', .inr h⟩
    · rintro ⟨o', ⟨rfl, _⟩ | h⟩
      · exact .inl rfl
      · exact .inr ⟨o', h⟩

theorem updL_off : ∀ {us : List (Nat × Option Blk)} {H : Heap} {k : Nat}, k ∉ fstL us → updL H us k = H k
  | [], H, k, _ => rfl
  | (j, o) :: us, H, k, h => by
    simp only [fstL, List.mem_cons, not_or] at h
    simp only [updL]
    rw [updL_off h.2, upd1_other _ _ h.1]

theorem updL_same : ∀ {us : List (Nat × Option Blk)} {H H' : Heap} {k : Nat}, (H k = H' k ∨ k ∈ fstL us) → updL H us k = updL H' us k
  | [], H, H', k, h => by
    rcases h with h | h
    · exact h
    · simp [fstL] at h
  | (j, o) :: us, H, H', k, h => by
    simp only [updL]
    refine updL_same ?_
    by_cases hj : k = j
    · subst hj; left; rw [upd1_same, upd1_same]
    · rcases h with h | h
      · left; rw [upd1_other _ _ hj, upd1_other _ _ hj]; exact h
      · right; simpa [fstL, hj] using h

theorem updL_comm {us vs : List (Nat × Option Blk)} (H : Heap) (h : ∀ k, k ∈ fstL us → k ∉ fstL vs) : updL (updL H us) vs = updL (updL H vs) us := by
  funext k
  by_cases h1 : k ∈ fstL vs
  · have h2 : k ∉ fstL us := fun h' => h k h' h1
    rw [updL_off h2]
    exact updL_same (.inr h1)
  · rw [updL_off h1]
    by_cases h2 : k ∈ fstL us
    · exact updL_same (.inr h2)
    · rw [updL_off h2, updL_off h2, updL_off h1]

theorem use_comm (u : Nat → Bool) (x y : Nat) : use (use u x) y = use (use u y) x := by
  funext j
  unfold use
  cases Nat.beq j x <;> cases Nat.beq j y <;> rfl

theorem apply_comm {x y : Item} (h : Apt ops x y) (S : St) : x.apply rid (y.apply rid S) = y.apply rid (x.apply rid S) := by
  have ht : ∀ v v', putT (putT S.tmps y.o.dst v) x.o.dst v' = putT (putT S.tmps x.o.dst v') y.o.dst v := fun v v' => putT_comm _ _ _ fun d hd hd' => h.t2 d hd' hd
  unfold Item.apply
  cases hx : x.e with
  | none =>
    cases hy : y.e with
    | none => simp only [St.skip, ht]
    | some ey => simp only [St.skip, St.after, ht]
  | some ex =>
    cases hy : y.e with
    | none => simp only [St.skip, St.after, ht]
    | some ey =>
      simp only [St.after, ht]
      rw [updL_comm S.heap (us := ey.upd) (vs := ex.upd), use_comm]
      intro k hk hk'
      exact h.w k (by simpa [Item.wr, hx] using hk') (by simpa [Item.wr, hy] using hk)

/-! ### what an item sees of a state -/
structure Agree (rid : Nat) (ops : List Oper) (it : Item) (S S' : St) : Prop where
  opnds : ∀ x, x ∈ it.o.op.operands.toList → opVal S.tmps x = opVal S'.tmps x
  guard : gval ops S.tmps it.o = gval ops S'.tmps it.o
  heap : ∀ k, k ∈ it.ks → S.heap k = S'.heap k
  used : S.used (keyAt rid it.i) = S'.used (keyAt rid it.i)

theorem getL_putT_ne {t : List (Option AVal)} {d : Option Nat} {x : Nat} {v : Option AVal} (h : d ≠ some x) : getL (putT t d v) x = getL t x := by
  cases d with
  | none => rfl
  | some d =>
    have hne : d ≠ x := fun e => h (by rw [e])
    simp only [putT]
    clear h
    induction t generalizing d x with
    | nil => rfl
    | cons y t ih =>
      cases d with
      | zero => cases x with
        | zero => exact absurd rfl hne
        | succ x => rfl
      | succ d => cases x with
        | zero => rfl
        | succ x => simp only [setL, getL]; exact ih d (by omega)

theorem getL_putT_congr {t t' : List (Option AVal)} {d : Option Nat} {x : Nat} {v : Option AVal} (hl : t.length = t'.length) (h : getL t x = getL t' x) : getL (putT t d v) x = getL (putT t' d v) x := by
  by_cases hd : d = some x
  · subst hd
    simp only [putT]
    clear h
    induction t generalizing t' x with
    | nil => cases t' <;> simp at hl; rfl
    | cons y t ih =>
      cases t' with
      | nil => simp at hl
      | cons y' t' => cases x with
        | zero => rfl
        | succ x => simp only [setL, getL]; exact ih (by simpa using hl)
  · rw [getL_putT_ne hd, getL_putT_ne hd]; exact h

theorem looksAt_op {o : Oper} {t : Nat} (h : Operand.tmp t ∈ o.op.operands.toList) : t ∈ o.looksAt ops.toArray :=
  List.mem_append_left _ (List.mem_filterMap.2 ⟨.tmp t, h, rfl⟩)

theorem looksAt_guard {o : Oper} {j d : Nat} {want : Bool} {g : Oper} (h : o.guard = some (j, want)) (hj : opAt ops j = some g) (hd : g.dst = some d) : d ∈ o.looksAt ops.toArray := by
  refine List.mem_append_right _ ?_
  rw [h]
  rw [opAt_eq] at hj
  simp [hj, hd]

theorem gval_congr {t t' : List (Option AVal)} {o : Oper} (h : ∀ x, x ∈ o.looksAt ops.toArray → getL t x = getL t' x) : gval ops t o = gval ops t' o := by
  unfold gval
  cases hg : o.guard with
  | none => rfl
  | some jw =>
    obtain ⟨j, want⟩ := jw
    simp only
    cases hj : opAt ops j with
    | none => rfl
    | some g =>
      simp only
      cases hd : g.dst with
      | none => rfl
      | some d => simp only; rw [h d (looksAt_guard hg hj hd)]

theorem opVal_congr {t t' : List (Option AVal)} {x : Operand} (h : ∀ i, x = .tmp i → getL t i = getL t' i) : opVal t x = opVal t' x := by
  cases x with
  | tmp i => exact h i rfl
  | _ => rfl

theorem apply_tmps (it : Item) (S : St) : ∃ v, (it.apply rid S).tmps = putT S.tmps it.o.dst v := by
  unfold Item.apply
  cases it.e with
  | none => exact ⟨_, rfl⟩
  | some e => exact ⟨e.val, rfl⟩

theorem apply_length (it : Item) (S : St) : (it.apply rid S).tmps.length = S.tmps.length := by
  obtain ⟨v, h⟩ := apply_tmps (rid := rid) it S
  rw [h, length_putT]

theorem keyAt_inj {rid i j : Nat} (h : keyAt rid i = keyAt rid j) : i = j := by unfold keyAt at h; omega

/-- A look at a state, by slots. -/
structure Looks (rid : Nat) (ops : List Oper) (it : Item) (S S' : St) : Prop where
  len : S.tmps.length = S'.tmps.length
  tmps : ∀ x, x ∈ it.o.looksAt ops.toArray → getL S.tmps x = getL S'.tmps x
  heap : ∀ k, k ∈ it.ks → S.heap k = S'.heap k
  used : S.used (keyAt rid it.i) = S'.used (keyAt rid it.i)

theorem Looks.agree {it : Item} {S S' : St} (h : Looks rid ops it S S') : Agree rid ops it S S' :=
  ⟨fun x hx => opVal_congr fun i e => h.tmps i (looksAt_op (e ▸ hx)), gval_congr h.tmps, h.heap, h.used⟩

theorem Looks.refl (it : Item) (S : St) : Looks rid ops it S S := ⟨rfl, fun _ _ => rfl, fun _ _ => rfl, rfl⟩
theorem Looks.symm {it : Item} {S S' : St} (h : Looks rid ops it S S') : Looks rid ops it S' S := ⟨h.len.symm, fun x hx => (h.tmps x hx).symm, fun k hk => (h.heap k hk).symm, h.used.symm⟩
theorem Looks.trans {it : Item} {S S' S'' : St} (h : Looks rid ops it S S') (h' : Looks rid ops it S' S'') : Looks rid ops it S S'' :=
  ⟨h.len.trans h'.len, fun x hx => (h.tmps x hx).trans (h'.tmps x hx), fun k hk => (h.heap k hk).trans (h'.heap k hk), h.used.trans h'.used⟩

theorem Looks.both {it x : Item} {S S' : St} (h : Looks rid ops it S S') : Looks rid ops it (x.apply rid S) (x.apply rid S') := by
  refine ⟨by rw [apply_length, apply_length, h.len], fun y hy => ?_, fun k hk => ?_, ?_⟩
  · unfold Item.apply
    cases x.e with
    | none => exact getL_putT_congr h.len (h.tmps y hy)
    | some e => exact getL_putT_congr h.len (h.tmps y hy)
  · unfold Item.apply
    cases x.e with
    | none => exact h.heap k hk
    | some e => exact updL_same (.inl (h.heap k hk))
  · unfold Item.apply
    cases x.e with
    | none => exact h.used
    | some e =>
      simp only [St.after, use]
      rw [h.used]

theorem Looks.off {it x : Item} {S : St} (h : Apt ops it x) : Looks rid ops it (x.apply rid S) S := by
  refine ⟨apply_length _ _, fun y hy => ?_, fun k hk => ?_, ?_⟩
  · obtain ⟨v, e⟩ := apply_tmps (rid := rid) x S
    rw [e]
    exact getL_putT_ne fun hd => h.t3 y hd hy
  · unfold Item.apply
    cases hx : x.e with
    | none => rfl
    | some e => exact updL_off fun hm => h.r2 k (by simpa [Item.wr, hx] using hm) hk
  · unfold Item.apply
    cases hx : x.e with
    | none => rfl
    | some e =>
      simp only [St.after, use]
      rw [beq_false_of_ne fun hk => h.ne (keyAt_inj hk)]

theorem Good.of_looks {it : Item} {S S' : St} (h : Looks rid ops it S S') (hg : it.Good env C rid ops S') : it.Good env C rid ops S := by
  have ha := h.agree
  unfold Item.Good at *
  cases he : it.e with
  | none =>
    rw [he] at hg
    exact ⟨ha.guard.trans hg.1, hg.2⟩
  | some e =>
    rw [he] at hg
    simp only at hg ⊢
    obtain ⟨h1, h2, h3, h4⟩ := hg
    have hk := opKeys_congr ha.opnds
    have hr : lookOf S.heap (opKeys S'.tmps it.o.op.operands.toList) (deepOp it.o.op) = lookOf S'.heap (opKeys S'.tmps it.o.op.operands.toList) (deepOp it.o.op) := lookOf_congr fun k hk => h.heap k (h3 ▸ hk)
    refine ⟨ha.guard.trans h1, h.used.trans h2, by rw [hk, hr]; exact h3, fun K' hK' => ?_⟩
    rw [evalOp_congr ha.opnds]
    have : restr S.heap it.ks = restr S'.heap it.ks := by
      funext k
      by_cases hm : k ∈ it.ks
      · rw [restr_in hm, restr_in hm]; exact h.heap k hm
      · rw [restr_out hm, restr_out hm]
    rw [this]
    exact h4 K' hK'

/-! ### a state by what was done -/
def stateOf (rid : Nat) (D : Nat → Bool) : List Item → St → St
  | [], S => S
  | it :: its, S => stateOf rid D its (match D it.i with
    | true => it.apply rid S
    | false => S)

theorem stateOf_congr {D D' : Nat → Bool} : ∀ {its : List Item} {S : St}, (∀ it, it ∈ its → D it.i = D' it.i) → stateOf rid D its S = stateOf rid D' its S
  | [], S, _ => rfl
  | it :: its, S, h => by
    simp only [stateOf]
    rw [h it (by simp)]
    exact stateOf_congr fun x hx => h x (by simp [hx])

theorem stateOf_apply {D : Nat → Bool} {it : Item} : ∀ {its : List Item} {S : St}, (∀ x, x ∈ its → D x.i = true → Apt ops it x) → stateOf rid D its (it.apply rid S) = it.apply rid (stateOf rid D its S)
  | [], S, _ => rfl
  | x :: its, S, h => by
    simp only [stateOf]
    cases hD : D x.i with
    | false => exact stateOf_apply fun y hy => h y (by simp [hy])
    | true =>
      simp only
      rw [← apply_comm (h x (by simp) hD) S]
      exact stateOf_apply fun y hy => h y (by simp [hy])

theorem stateOf_all {D : Nat → Bool} : ∀ {its : List Item} {S : St}, (∀ x, x ∈ its → D x.i = true) → stateOf rid D its S = its.foldl (fun S it => it.apply rid S) S
  | [], S, _ => rfl
  | x :: its, S, h => by
    simp only [stateOf, List.foldl_cons]
    rw [h x (by simp)]
    exact stateOf_all fun y hy => h y (by simp [hy])

theorem stateOf_none {D : Nat → Bool} : ∀ {its : List Item} {S : St}, (∀ x, x ∈ its → D x.i = false) → stateOf rid D its S = S
  | [], S, _ => rfl
  | x :: its, S, h => by
    simp only [stateOf]
    rw [h x (by simp)]
    exact stateOf_none fun y hy => h y (by simp [hy])

theorem stateOf_append {D : Nat → Bool} : ∀ {pre post : List Item} {S : St}, stateOf rid D (pre ++ post) S = stateOf rid D post (stateOf rid D pre S)
  | [], post, S => rfl
  | x :: pre, post, S => by simp only [List.cons_append, stateOf]; exact stateOf_append

theorem stateOf_looks {D D' : Nat → Bool} {it : Item} : ∀ {its : List Item} {S S' : St}, (∀ x, x ∈ its → D x.i ≠ D' x.i → Apt ops it x) → Looks rid ops it S S' → Looks rid ops it (stateOf rid D its S) (stateOf rid D' its S')
  | [], S, S', _, h => h
  | x :: its, S, S', hh, h => by
    simp only [stateOf]
    refine stateOf_looks (fun y hy => hh y (by simp [hy])) ?_
    cases h1 : D x.i <;> cases h2 : D' x.i
    · exact h
    · exact h.trans (Looks.off (hh x (by simp) (by rw [h1, h2]; simp))).symm
    · exact (Looks.off (hh x (by simp) (by rw [h1, h2]; simp))).trans h
    · exact h.both
end
end Go.Abs

namespace Go.Abs
section
variable {P : Program} {env : Env} {C : Tab} {ρ ρ0 : PMap} {Z0 Z : Zone} {nb : Nat} {H0 : Heap} {a : Act} {w w0 : World} {S : St} {rid : Nat} {ops : Array Oper}

/-- What the check of the order as it is written says. -/
structure LexAt (ops : Array Oper) (k : Nat) (o : Oper) : Prop where
  waits : ∀ e, e ∈ o.after → Region.binds .any e = true → e.on < k
  free : ∀ j oj, ops[j]? = some oj → k < j → (∀ e, e ∈ oj.after → Region.binds .any e = true → e.on ≠ k) → o.apart ops oj = true

theorem lex_facts : ∀ (fuel k : Nat) (listed : Array Bool), k + fuel = ops.size → listed.size = ops.size → (∀ i, i < ops.size → listed.getD i true = decide (i < k)) → Region.lexFrom .any ops fuel k listed = true →
    ∀ j o, k ≤ j → ops[j]? = some o → LexAt ops j o
  | 0, k, listed, h1, h2, h3, h, j, o, hj, ho => by
    have := (Array.getElem?_eq_some_iff.1 ho).1
    omega
  | fuel + 1, k, listed, h1, h2, h3, h, j, o, hj, ho => by
    simp only [Region.lexFrom, Bool.and_eq_true] at h
    obtain ⟨⟨hr, hf⟩, hn⟩ := h
    by_cases hjk : j = k
    · subst hjk
      have hr' : j ∈ Region.ready .any ops listed := by simpa using hr
      obtain ⟨_, o', ho', hw⟩ := mem_ready.1 hr'
      rw [ho] at ho'; cases ho'
      refine ⟨fun e he hb => ?_, fun i oi hi hlt hno => ?_⟩
      · have hl := hw e he hb
        rcases Nat.lt_or_ge e.on listed.size with h' | h'
        · have := h3 e.on (by omega)
          simp [Array.getD_eq_getD_getElem?, h'] at this hl
          rw [hl] at this
          simpa using this.symm
        · simp [Array.getD_eq_getD_getElem?, Array.getElem?_eq_none h'] at hl
      · have hlt' := (Array.getElem?_eq_some_iff.1 hi).1
        refine Region.free_spec ho hf i oi hi (by omega) ?_ hno
        rw [h3 i hlt']; simp; omega
    · refine lex_facts fuel (k + 1) _ (by omega) (by simpa using h2) (fun i hi => ?_) hn j o (by omega) ho
      by_cases hik : k = i
      · subst hik
        simp [Array.getD_eq_getD_getElem?, h2, hi]
      · rw [getD_set_ne true hik, h3 i hi]
        simp only [decide_eq_decide]
        omega

theorem lexB_facts (h : Region.lexB .any ops = true) : ∀ j o, ops[j]? = some o → LexAt ops j o := by
  simp only [Region.lexB, Bool.and_eq_true] at h
  exact fun j o ho => lex_facts ops.size 0 _ (by simp) (by simp) (fun i hi => by simp [Array.getD_eq_getD_getElem?, hi]) h.2 j o (Nat.zero_le _) ho

theorem waitsOn_false {o : Oper} {i : Nat} : waitsOn o i = false ↔ ∀ e, e ∈ o.after → Region.binds .any e = true → e.on ≠ i := by
  unfold waitsOn
  constructor
  · intro h e he hb heq
    have := List.any_eq_false.1 h e (by simpa using he)
    rw [hb, heq] at this
    simp [andB] at this
  · intro h
    refine List.any_eq_false.2 fun e he => ?_
    have he' : e ∈ o.after := by simpa using he
    cases hb : Region.binds .any e with
    | false => simp
    | true =>
      have := h e he' hb
      simp [beq_false_of_ne this]

theorem Sync.drew (h : Sync env Z0 Z ρ0 H0 w0 nb S ρ a w) : Sync env Z0 Z ρ0 H0 w0 nb S ρ a { w with drawn := w.drawn + 1 } := by
  refine ⟨⟨h.pre.size, h.pre.tmps, h.pre.heap.heap_eq rfl, h.pre.keysH⟩, ?_, h.reg, h.old, h.nb, h.defers, h.grow⟩
  exact ⟨h.keep.os, h.keep.tape, h.keep.output, h.keep.size, h.keep.obj⟩

/-- How many are left. -/
def left (ops : Array Oper) (listed : Array Bool) : Nat := ((List.range ops.size).filter fun i => !(listed.getD i true)).length

theorem filter_lt {p q : Nat → Bool} {i : Nat} : ∀ {l : List Nat}, i ∈ l → p i = true → q i = false → (∀ j, q j = true → p j = true) → (l.filter q).length < (l.filter p).length
  | [], h, _, _, _ => by cases h
  | j :: l, h, hp, hq, hh => by
    have le : ∀ l : List Nat, (l.filter q).length ≤ (l.filter p).length := by
      intro l
      induction l with
      | nil => simp
      | cons j l ih =>
        simp only [List.filter_cons]
        cases hqj : q j with
        | false => cases p j <;> simp <;> omega
        | true => simp [hh j hqj]; exact ih
    rw [List.mem_cons] at h
    simp only [List.filter_cons]
    by_cases hij : i = j
    · subst hij
      have := le l
      simp [hp, hq]
      omega
    · have ih := filter_lt (h.resolve_left hij) hp hq hh
      cases hqj : q j with
      | false => cases p j <;> simp <;> omega
      | true => simp [hh j hqj]; exact ih

theorem left_set {listed : Array Bool} {i : Nat} (hi : i < ops.size) (h : listed.getD i true = false) : left ops (listed.setIfInBounds i true) < left ops listed := by
  unfold left
  refine filter_lt (i := i) (List.mem_range.2 hi) (by simp [h]) ?_ fun j hj => ?_
  · have : i < listed.size := by
      rcases Nat.lt_or_ge i listed.size with h' | h'
      · exact h'
      · simp [Array.getD_eq_getD_getElem?, Array.getElem?_eq_none h'] at h
    simp [Array.getD_eq_getD_getElem?, this]
  · by_cases hij : i = j
    · subst hij
      exact by simpa using h
    · rw [getD_set_ne true hij] at hj; exact hj

/-- What an operation waits for, by however many others, is listed where it may be taken. -/
theorem waitsT_listed {listed : Array Bool} (hcl : ∀ i o, ops[i]? = some o → listed.getD i true = true → ∀ e, e ∈ o.after → Region.binds .any e = true → listed.getD e.on true = true) :
    ∀ (n : Nat) (o : Oper) (i : Nat), (∀ e, e ∈ o.after → Region.binds .any e = true → listed.getD e.on true = true) → waitsT ops.toList n o i = true → listed.getD i true = true
  | 0, o, i, hw, h => by
    cases hd : listed.getD i true with
    | true => rfl
    | false =>
      have : waitsOn o i = false := waitsOn_false.2 fun e he hb hon => by
        have := hw e he hb
        rw [hon, hd] at this; cases this
      simp only [waitsT, this] at h
      cases h
  | n + 1, o, i, hw, h => by
    cases hd : listed.getD i true with
    | true => rfl
    | false =>
      have hq : waitsOn o i = false := waitsOn_false.2 fun e he hb hon => by
        have := hw e he hb
        rw [hon, hd] at this; cases this
      simp only [waitsT, hq] at h
      obtain ⟨e, he, h⟩ := List.any_eq_true.1 h
      simp only [Bool.and_eq_true] at h
      obtain ⟨hb, _, h⟩ := h
      rw [opAt_eq] at h
      cases hp : ops.toList[e.on]? with
      | none => rw [hp] at h; cases h
      | some p =>
        rw [hp] at h
        have hp' : ops[e.on]? = some p := by simpa using hp
        have he' : e ∈ o.after := by simpa using he
        rw [waitsT_listed hcl n p i (hcl e.on p hp' (hw e he' hb)) h] at hd
        cases hd

theorem draw_any (hC : ∀ f c, C f = some c → CtrOk P env f c) (he : EnvOk P env) (hB : Region.lexB .any ops = true) {its : List Item} (h1 : its.map (·.o) = ops.toList) (h2 : ∀ (j : Nat) (it : Item), its[j]? = some it → it.i = j)
    (h3 : Canon env C rid ops.toList its [] S) {Q : Exit → Act → World → Prop} (hQ : ∀ Z ρ a w, Sync env Z0 Z ρ0 H0 w0 nb (its.foldl (fun S it => it.apply rid S) S) ρ a w → Q .normal a w) :
    ∀ (fuel : Nat) (listed : Array Bool) (Z : Zone) (ρ : PMap) (a : Act) (w : World), listed.size = ops.size → left ops listed ≤ fuel → (∀ i o, ops[i]? = some o → listed.getD i true = true → ∀ e, e ∈ o.after → Region.binds .any e = true → listed.getD e.on true = true) →
      Sync env Z0 Z ρ0 H0 w0 nb (stateOf rid (fun i => listed.getD i true) its S) ρ a w → wpAny P .any ops Q fuel listed a w := by
  have hlex := lexB_facts hB
  have hlen : its.length = ops.size := by rw [← Array.length_toList, ← h1, List.length_map]
  have item : ∀ i, i < ops.size → ∃ it, its[i]? = some it ∧ it.i = i ∧ ops[i]? = some it.o := fun i hi => by
    have hi' : i < its.length := by omega
    refine ⟨its[i], by simp [hi'], h2 i _ (by simp [hi']), ?_⟩
    have : (its.map (·.o))[i]? = some its[i].o := by simp [hi']
    rw [h1] at this; simpa using this
  have itemI : ∀ x, x ∈ its → its[x.i]? = some x ∧ x.i < ops.size ∧ ops[x.i]? = some x.o := fun x hx => by
    obtain ⟨j, hj⟩ := List.mem_iff_getElem?.1 hx
    have e := h2 j x hj
    have hlt : j < its.length := (List.getElem?_eq_some_iff.1 hj).1
    rw [e]
    refine ⟨hj, by omega, ?_⟩
    have : (its.map (·.o))[j]? = some x.o := by simp [hj]
    rw [h1] at this; simpa using this
  have split : ∀ i it, its[i]? = some it → ∃ pre post, its = pre ++ it :: post ∧ pre.length = i := fun i it hi => by
    have hlt : i < its.length := (List.getElem?_eq_some_iff.1 hi).1
    refine ⟨its.take i, its.drop (i + 1), ?_, by simp; omega⟩
    have : its[i] = it := by rw [List.getElem?_eq_getElem hlt] at hi; exact Option.some.inj hi
    rw [← this, ← List.drop_eq_getElem_cons hlt, List.take_append_drop]
  have apt : ∀ x y, x ∈ its → y ∈ its → x.i < y.i → waitsOn y.o x.i = false → ¬ waitsT ops.toList 6 y.o x.i = true → Apt ops.toList x y := fun x y hx hy hlt hw hwT => by
    obtain ⟨x1, x2, x3⟩ := itemI x hx
    obtain ⟨y1, y2, y3⟩ := itemI y hy
    have ha := (hlex _ _ x3).free y.i y.o y3 hlt (waitsOn_false.1 hw)
    obtain ⟨a1, a2, a3⟩ := Oper.apart_spec ha
    obtain ⟨pre, post, e, hpl⟩ := split y.i y y1
    obtain ⟨_, hap⟩ := canon_split (e ▸ h3)
    have hxp : pre[x.i]? = some x := by
      rw [e, List.getElem?_append_left (by omega)] at x1; exact x1
    have hm := apartAll_spec hap x.i x.mark (by simp [hxp])
    simp only [Nat.zero_add] at hm
    rcases hm with hm | hm
    · obtain ⟨m1, m2, m3⟩ := mark_apart hm
      exact ⟨by omega, a1, a2, a3, m1, m2, m3⟩
    · exact absurd hm hwT
  intro fuel
  have final : ∀ (listed : Array Bool) (Z : Zone) (ρ : PMap) (a : Act) (w : World), listed.size = ops.size → Region.ready .any ops listed = [] → Sync env Z0 Z ρ0 H0 w0 nb (stateOf rid (fun i => listed.getD i true) its S) ρ a w → Q .normal a w := by
    intro listed Z ρ a w hsz hr hs
    have all : ∀ i, i < ops.size → listed.getD i true = true := by
      intro i
      induction i using Nat.strongRecOn with
      | _ i ih =>
        intro hi
        cases hl : listed.getD i true with
        | true => rfl
        | false =>
          obtain ⟨it, i1, i2, i3⟩ := item i hi
          have : i ∈ Region.ready .any ops listed := mem_ready.2 ⟨hl, it.o, i3, fun e he hb => by
            have hlt := (hlex i it.o i3).waits e he hb
            have := ih e.on hlt (by omega)
            have hlt' : e.on < listed.size := by omega
            simpa [Array.getD_eq_getD_getElem?, hlt'] using this⟩
          rw [hr] at this; cases this
    rw [stateOf_all fun x hx => all x.i (itemI x hx).2.1] at hs
    exact hQ Z ρ a w hs
  induction fuel with
  | zero =>
    intro listed Z ρ a w hsz hl hcl hs
    have hr : Region.ready .any ops listed = [] := by
      cases hr : Region.ready .any ops listed with
      | nil => rfl
      | cons i l =>
        have hi : i ∈ Region.ready .any ops listed := by rw [hr]; simp
        obtain ⟨h4, o, h5, _⟩ := mem_ready.1 hi
        have := left_set (ops := ops) (Array.getElem?_eq_some_iff.1 h5).1 h4
        omega
    exact ⟨hr, final listed Z ρ a w hsz hr hs⟩
  | succ fuel ih =>
    intro listed Z ρ a w hsz hl hcl hs
    refine ⟨fun hr => final listed Z ρ a w hsz hr hs, fun i hi => ?_⟩
    obtain ⟨hun, o, ho, hw⟩ := mem_ready.1 hi
    have hin := (Array.getElem?_eq_some_iff.1 ho).1
    obtain ⟨it, i1, i2, i3⟩ := item i hin
    rw [ho] at i3; cases i3
    have hmem : it ∈ its := List.mem_of_getElem? i1
    obtain ⟨pre, post, e, hpl⟩ := split i it i1
    have ipre : ∀ x, x ∈ pre → x.i < i := fun x hx => by
      obtain ⟨j, hj⟩ := List.mem_iff_getElem?.1 hx
      have hj' : j < pre.length := (List.getElem?_eq_some_iff.1 hj).1
      have := h2 j x (by rw [e, List.getElem?_append_left hj']; exact hj)
      omega
    have ipost : ∀ x, x ∈ post → i < x.i := fun x hx => by
      obtain ⟨j, hj⟩ := List.mem_iff_getElem?.1 hx
      have := h2 (pre.length + 1 + j) x (by rw [e, List.getElem?_append_right (by omega), show pre.length + 1 + j - pre.length = j + 1 by omega]; simpa using hj)
      omega
    have listedOf : ∀ j, listed.getD j false = true → listed.getD j true = true := fun j hj => by
      rcases Nat.lt_or_ge j listed.size with h' | h'
      · simpa [Array.getD_eq_getD_getElem?, h'] using hj
      · simp [Array.getD_eq_getD_getElem?, Array.getElem?_eq_none h'] at hj
    have aptI : ∀ x, x ∈ its → (fun i => listed.getD i true) x.i ≠ decide (x.i < i) → Apt ops.toList it x := fun x hx hne => by
      simp only at hne
      rcases Nat.lt_trichotomy x.i i with hlt | heq | hgt
      · have hD : listed.getD x.i true = false := by
          cases hh : listed.getD x.i true with
          | false => rfl
          | true => rw [hh] at hne; exact absurd (by simp [hlt]) hne
        refine (apt x it hx hmem (by rw [i2]; exact hlt) (waitsOn_false.2 fun ed he hb hon => ?_) fun hT => by rw [waitsT_listed hcl 6 it.o x.i (fun e he hb => listedOf _ (hw e he hb)) hT] at hD; cases hD).symm
        have := listedOf _ (hw ed he hb)
        rw [hon, hD] at this; cases this
      · rw [heq] at hne
        rw [hun] at hne; simp at hne
      · have hD : listed.getD x.i true = true := by
          cases hh : listed.getD x.i true with
          | true => rfl
          | false => rw [hh] at hne; exact absurd (by simp; omega) hne
        refine apt it x hmem hx (by rw [i2]; exact hgt) (waitsOn_false.2 fun ed he hb hon => ?_) fun hT => by
          have := waitsT_listed hcl 6 x.o it.i (hcl x.i x.o (itemI x hx).2.2 hD) hT
          rw [i2, hun] at this; cases this
        have := hcl x.i x.o (itemI x hx).2.2 hD ed he hb
        rw [hon, i2, hun] at this; cases this
    have hgood : it.Good env C rid ops.toList (stateOf rid (fun i => listed.getD i true) its S) := by
      refine Good.of_looks (S' := stateOf rid (fun j => decide (j < i)) its S) (stateOf_looks (fun x hx hne => aptI x hx hne) (Looks.refl it S)) ?_
      have : stateOf rid (fun j => decide (j < i)) its S = pre.foldl (fun S it => it.apply rid S) S := by
        rw [e, stateOf_append, stateOf_all (its := pre) fun x hx => by simpa using ipre x hx, stateOf_none]
        intro x hx
        rw [List.mem_cons] at hx
        rcases hx with rfl | hx
        · simp; omega
        · have := ipost x hx
          simp; omega
      rw [this]
      exact (canon_split (e ▸ h3)).1
    have hnext : stateOf rid (fun j => (listed.setIfInBounds i true).getD j true) its S = it.apply rid (stateOf rid (fun i => listed.getD i true) its S) := by
      have hD : ∀ j, j ≠ i → (listed.setIfInBounds i true).getD j true = listed.getD j true := fun j hj => getD_set_ne true (Ne.symm hj)
      have hDi : (listed.setIfInBounds i true).getD i true = true := by simp [Array.getD_eq_getD_getElem?, hsz, hin]
      rw [e, stateOf_append, stateOf_append]
      rw [stateOf_congr (its := pre) (D := fun j => (listed.setIfInBounds i true).getD j true) (D' := fun i => listed.getD i true) fun x hx => hD x.i (by have := ipre x hx; omega)]
      simp only [stateOf, i2, hDi, hun]
      rw [stateOf_congr (its := post) (D := fun j => (listed.setIfInBounds i true).getD j true) (D' := fun i => listed.getD i true) fun x hx => hD x.i (by have := ipost x hx; omega)]
      exact stateOf_apply fun x hx hDx => aptI x (by rw [e]; simp [hx]) (by
        simp only
        rw [hDx]
        have := ipost x hx
        simp; omega)
    have hsz' : (listed.setIfInBounds i true).size = ops.size := by simpa using hsz
    have hl' : left ops (listed.setIfInBounds i true) ≤ fuel := by have := left_set (ops := ops) hin hun; omega
    have hcl' : ∀ j o, ops[j]? = some o → (listed.setIfInBounds i true).getD j true = true → ∀ e, e ∈ o.after → Region.binds .any e = true → (listed.setIfInBounds i true).getD e.on true = true := by
      intro j oj hj hjl ed he hb
      by_cases hon : ed.on = i
      · rw [hon]; simp [Array.getD_eq_getD_getElem?, hsz, hin]
      · rw [getD_set_ne true (Ne.symm hon)]
        by_cases hji : j = i
        · subst hji
          rw [ho] at hj; cases hj
          exact listedOf _ (hw ed he hb)
        · rw [getD_set_ne true (Ne.symm hji)] at hjl
          exact hcl j oj hj hjl ed he hb
    unfold wpOp
    simp only [ho]
    unfold Item.Good at hgood
    cases hie : it.e with
    | none =>
      rw [hie] at hgood
      obtain ⟨hg, _⟩ := hgood
      have hwant : Region.wanted it.o (yielded ops a.tmps) = false := by
        rcases guarded_inv (ops := ops) (o := it.o) (yes := False) (no := True) hs.pre (guarded_gval.2 (.inr ⟨hg, trivial⟩)) with ⟨_, h⟩ | ⟨h, _⟩
        · exact h.elim
        · exact h
      rw [hwant]
      simp only [Bool.false_eq_true, if_false]
      refine ih _ Z ρ _ w hsz' hl' hcl' ?_
      rw [hnext]
      have := hs.skip it.o
      unfold Item.apply
      rw [hie]
      exact this
    | some eff =>
      rw [hie] at hgood
      obtain ⟨hg, hu, hks, hev⟩ := hgood
      have hwant : Region.wanted it.o (yielded ops a.tmps) = true := by
        rcases guarded_inv (ops := ops) (o := it.o) (yes := True) (no := False) hs.pre (guarded_gval.2 (.inl ⟨hg, trivial⟩)) with ⟨h, _⟩ | ⟨_, h⟩
        · exact h
        · exact h.elim
      rw [hwant]
      simp only [if_true]
      have hfresh := fresh_base hu
      refine .inl (wp_of_post (op_any hC he (hs.pre.restr (ks := it.ks)) (fun _ => hfresh) (hev (fun e' => e' = eff) rfl)) fun e' x w' heq hE => ?_)
      subst heq
      obtain ⟨Z', ρ', hs'⟩ := hs.after (o := it.o) (EffOk.frame hs.pre hfresh hE)
      refine ih _ Z' ρ' _ w' hsz' hl' hcl' ?_
      rw [hnext]
      unfold Item.apply
      rw [hie]
      exact hs'

theorem draw_sound (hC : ∀ f c, C f = some c → CtrOk P env f c) (he : EnvOk P env) (hm : P.follows .mixedOrders = true) {K : St → Prop} {Q : Exit → Act → World → Prop} (hQ : ∀ S Z ρ a w, K S → Sync env Z0 Z ρ0 H0 w0 nb S ρ a w → Q .normal a w)
    (hB : Region.lexB .any ops = true) (hs : Sync env Z0 Z ρ0 H0 w0 nb S ρ a w) (h : evalDraw env C rid ops.toList ops.toList 0 [] S K) : (Code.region rid ops true).wp P Q a w := by
  refine wp_region_any hm ?_
  obtain ⟨its, h1, h2, h3, h4⟩ := canon_of hC ops.toList 0 [] S h
  refine draw_any hC he hB h1 (fun j it hj => by simpa using h2 j it hj) h3 (fun Z ρ a w hs => hQ _ Z ρ a w h4 hs) ops.size _ Z ρ a _ (by simp) ?_ (fun i o ho hl => ?_) ?_
  · unfold left
    exact Nat.le_trans (List.length_filter_le _ _) (by simp)
  · have := (Array.getElem?_eq_some_iff.1 ho).1
    simp [Array.getD_eq_getD_getElem?, this] at hl
  · have : stateOf rid (fun i => (Array.replicate ops.size false).getD i true) its S = S := stateOf_none fun x hx => by
      obtain ⟨j, hj⟩ := List.mem_iff_getElem?.1 hx
      have := h2 j x hj
      have hlt : j < its.length := (List.getElem?_eq_some_iff.1 hj).1
      have hlen : its.length = ops.size := by rw [← Array.length_toList, ← h1, List.length_map]
      simp only [Nat.zero_add] at this
      have hj' : j < ops.size := by omega
      simp [Array.getD_eq_getD_getElem?, this, hj']
    rw [this]
    exact hs.drew
end
end Go.Abs
