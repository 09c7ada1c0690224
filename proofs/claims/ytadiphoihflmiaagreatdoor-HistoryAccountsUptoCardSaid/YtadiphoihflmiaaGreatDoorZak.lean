/- Operations: the built-in function append, put together. -/
import Derived.Test.YtadiphoihflmiaaGreatDoorZaj
set_option linter.all false
namespace Go.Abs
section
variable {P : Program} {env : Env} {C : Tab} {ρ : PMap} {Z : Zone} {u : Nat → Bool} {base : Nat} {tmps : List (Option AVal)} {H : Heap} {a : Act} {w : World} {K : Eff → Prop} {KP : AVal → List (Nat × Option Blk) → Prop}

theorem run_append_none' {t t2 ty e : TypeId} {i : TypeInfo} {d2 : TypeDesc} {x : Value} {n m cap : Nat} {news : Array Value}
    (ht : P.underlying t = some (.slice e)) (hi : P.info? e = some i) (h2 : P.underlying t2 = some d2) (hd : d2 = .string ∨ ∃ e2, d2 = .slice e2)
    (hl : (Builtin.lenOf x).run P w = .ok m w) (hf : (Builtin.firstCells i.size m x).run P w = .ok news w) (hc : n + m ≤ cap) :
    (Builtin.append_ #[t, t2] ty #[.slice none n cap, x]).run P w = .ok (.slice none (n + m) cap) w := by
  rcases hd with rfl | ⟨e2, rfl⟩ <;> simp [Builtin.append_, run_underlying ht, run_underlying h2, sizeOf, typeInfo, hi, hl, hf, hc]

/-- Cells of a block are turned, and the block goes. -/
theorem HeapOk.dropKeeps {w' : World} {k : Nat} {b : Blk} (h : HeapOk env ρ Z w H) (hk : H k = some b)
    (hkeep : Keeps (fun x i => x = (ρ k).block ∧ (ρ k).lo ≤ i ∧ i < (ρ k).hi) w w') : HeapOk env ρ Z w' (upd1 H k none) := by
  have inv : ∀ j b, upd1 H k none j = some b → j ≠ k ∧ H j = some b := fun j b hb => by
    rcases upd1_inv hb with ⟨_, h⟩ | h
    · cases h
    · exact h
  have notIn : ∀ j x, j ≠ k → H j = some x → ∀ i, (ρ j).lo ≤ i → i < (ρ j).hi → ¬ ((ρ j).block = (ρ k).block ∧ (ρ k).lo ≤ i ∧ i < (ρ k).hi) := by
    intro j x hj hx i h1 h2 ⟨e, h3, h4⟩
    exact h.dis j k x b hj hx hk i e h1 h2 h3 h4
  refine ⟨fun j x hx => ?_, fun j j' x x' hne hx hx' => h.dis j j' x x' hne (inv j x hx).2 (inv j' x' hx').2, fun j x hx => h.zdis j x (inv j x hx).2, fun b o v hz => ?_, Nat.lt_of_lt_of_le h.pos hkeep.size, h.gok.keeps hkeep⟩
  · obtain ⟨hj, hx⟩ := inv j x hx
    exact (h.blk j x hx).keeps hkeep (notIn j x hj hx)
  · refine hkeep.cell (h.zone b o v hz) ?_
    rintro ⟨rfl, h1, h2⟩
    rw [h.zdis k _ hk o h1 h2] at hz; cases hz

/-- A slice grows where it lies: its block goes, a new key takes its place. -/
theorem EffOk.regrow (hp : Pre env ρ Z u tmps H a w) (hbase : ∀ k, inBase base k → ¬ known u k) {key n : Nat} {b b' : Blk} {w' : World} {v : AVal} {x : Value} (hk : H key = some b)
    (hkeep : Keeps (fun x i => x = (ρ key).block ∧ (ρ key).lo ≤ i ∧ i < (ρ key).hi) w w')
    (hb : BlkOk env (ρ.put base { ρ key with len := n }) Z w' { ρ key with len := n } b') (hkb : ∀ k, k ∈ b'.c.keys → known u k)
    (hv : RepV env (ρ.put base { ρ key with len := n }) Z v x) (hkv : ∀ k, k ∈ v.keys → known u k ∨ k = base) :
    EffOk env ρ Z u base H w ⟨some v, [(key, none), (base, some b')]⟩ x w' := by
  have hb0 : inBase base base := ⟨Nat.le_refl _, by omega⟩
  have hnk := hbase base hb0
  have hHb : H base = none := by
    cases hh : H base with
    | none => rfl
    | some b' => exact absurd (hp.keysH base b' hh).1 hnk
  have hne : key ≠ base := by rintro rfl; rw [hHb] at hk; cases hk
  have hd := hp.heap.dropKeeps hk hkeep
  have inv : ∀ j y, upd1 H key none j = some y → j ≠ key ∧ H j = some y := fun j y hy => by
    rcases upd1_inv hy with ⟨_, h⟩ | h
    · cases h
    · exact h
  refine ⟨Z, ρ.put base { ρ key with len := n }, Grow.refl _ _ _, ?_, ?_, ?_, ?_, ?_, ?_, ?_⟩
  · intro v' e; cases e
    exact ⟨hv, fun k hm => by rcases hkv k hm with h | rfl; exact .inl h; exact .inr hb0⟩
  · show HeapOk env _ Z w' (upd1 (upd1 H key none) base (some b'))
    refine hd.put ?_ (fun j y hj hm => hnk ((hp.keysH j y (inv j y hj).2).2 base hm)) hb (fun j y hj => ?_) fun i h1 h2 => hp.heap.zdis key b hk i h1 h2
    · rw [upd1_other _ _ (Ne.symm hne)]; exact hHb
    · have := hp.heap.dis j key y b (inv j y hj).1 (inv j y hj).2 hk
      exact this
  · intro k hk
    exact PMap.put_other _ _ (by rintro rfl; exact hnk hk)
  · intro k b0 hm
    simp at hm
    obtain ⟨rfl, rfl⟩ := hm
    exact ⟨.inr hb0, fun k' hk' => .inl (hkb k' hk')⟩
  · exact hkeep.mono fun y i _ ⟨e, h1, h2⟩ => ⟨key, b, hk, e.symm, h1, h2⟩
  · intro k b0 hb0' i h1 h2
    rcases upd1_inv (show upd1 (upd1 H key none) base (some b') k = some b0 from hb0') with ⟨rfl, _⟩ | ⟨hj, e⟩
    · rw [PMap.put_same] at h1 h2 ⊢
      exact .inr ⟨key, b, hk, rfl, h1, h2⟩
    · rw [PMap.put_other _ _ hj] at h1 h2 ⊢
      exact .inr ⟨k, b0, (inv k b0 e).2, rfl, h1, h2⟩
  · intro k b0 hm
    simp at hm
    rcases hm with ⟨rfl, _⟩ | ⟨rfl, _⟩
    · exact .inl (by rw [hk]; simp)
    · exact .inr hb0

/-- A row of no elements, that lies nowhere. -/
theorem EffOk.empty (hp : Pre env ρ Z u tmps H a w) (hbase : ∀ k, inBase base k → ¬ known u k) {e : Nat} {c : Cont} (hd : ∃ d, env.td e = some d) (hc : c.elems = []) (hv : c.isVar = false) (hg : c.good) (hkb : ∀ k, k ∈ c.keys → known u k) :
    EffOk env ρ Z u base H w ⟨some (.sw base), [(base, some ⟨.row e, c⟩)]⟩ (.slice none 0 0) w := by
  have hb0 : inBase base base := ⟨Nat.le_refl _, by omega⟩
  have hnk := hbase base hb0
  have hHb : H base = none := by
    cases hh : H base with
    | none => rfl
    | some b' => exact absurd (hp.keysH base b' hh).1 hnk
  have hB : BlkOk env (ρ.put base ⟨0, 0, 0, .row e, 0⟩) Z w ⟨0, 0, 0, .row e, 0⟩ ⟨.row e, c⟩ := by
    refine ⟨rfl, fun _ => ⟨[], ?_, by simp, by simp⟩, fun _ i _ h => by simp at h, hp.heap.pos, fun h => by cases h⟩
    have : (∃ d, env.td e = some d) ∧ c.elems.length = 0 ∧ RepEl env (ρ.put base ⟨0, 0, 0, .row e, 0⟩) Z e c.elems [] ∧ c.good := ⟨hd, by simp [hc], by rw [hc]; simp [RepEl], hg⟩
    cases c <;> simp [Cont.isVar] at hv <;> exact this
  refine ⟨Z, ρ.put base ⟨0, 0, 0, .row e, 0⟩, Grow.refl _ _ _, ?_, ?_, ?_, ?_, Keeps.refl _ _, ?_, ?_⟩
  · intro v' e'; cases e'
    refine ⟨?_, fun k hm => by simp [AVal.keys] at hm; exact .inr (hm ▸ hb0)⟩
    simp only [RepV, AVal.isAgg, RepC, PMap.put_same]
    exact ⟨none, 0, e, rfl, rfl, Nat.le_refl _, fun h => absurd rfl h⟩
  · rw [updL_single]
    exact hp.heap.put hHb (fun j y hj hm => hnk ((hp.keysH j y hj).2 base hm)) hB (fun j y hj i _ _ _ _ h => by simp at h) fun i _ h => by simp at h
  · intro k hk
    exact PMap.put_other _ _ (by rintro rfl; exact hnk hk)
  · intro k b' hm
    simp at hm
    obtain ⟨rfl, rfl⟩ := hm
    exact ⟨.inr hb0, fun k' hk' => .inl (hkb k' hk')⟩
  · intro k b' hk i h1 h2
    rw [updL_single] at hk
    rcases upd1_inv hk with ⟨rfl, _⟩ | ⟨hj, e⟩
    · rw [PMap.put_same] at h2; simp at h2
    · rw [PMap.put_other _ _ hj] at h1 h2 ⊢; exact .inr ⟨k, b', e, rfl, h1, h2⟩
  · intro k b' hm
    simp at hm
    exact .inr (hm.1 ▸ hb0)

theorem row_rep (hp : Pre env ρ Z u tmps H a w) {key e : Nat} {c : Cont} (hb : H key = some ⟨.row e, c⟩) (hv : c.isVar = false) :
    (ρ key).root = .row e ∧ c.elems.length = (ρ key).len ∧ c.good ∧ (∃ d, env.td e = some d) ∧ (∃ cs, RepEl env ρ Z e c.elems cs ∧ (∀ i x, cs[i]? = some x → w.cell? ⟨(ρ key).block, (ρ key).lo + i, none⟩ = some x) ∧ (ρ key).lo + cs.length ≤ (ρ key).hi) ∧
    ∀ i, (ρ key).lo ≤ i → i < (ρ key).hi → (w.cell? ⟨(ρ key).block, i, none⟩).isSome = true ∧ w.frozen? ⟨(ρ key).block, i, none⟩ = false := by
  have hB := hp.heap.blk key _ hb
  obtain ⟨cs, h1, h2, h3⟩ := hB.cells rfl
  have h1' : (∃ d, env.td e = some d) ∧ c.elems.length = (ρ key).len ∧ RepEl env ρ Z e c.elems cs ∧ c.good := by cases c <;> simp [Cont.isVar] at hv <;> exact h1
  exact ⟨hB.root, h1'.2.1, h1'.2.2.2, h1'.1, ⟨cs, h1'.2.2.1, h2, h3⟩, hB.own rfl⟩



theorem sw_of {n cap e : Nat} {ao : Option Addr} {pl : Place} (hr : pl.root = .row e) (hn : n ≤ cap) (hl : pl.len = n) (h : cap ≠ 0 → ao = some ⟨pl.block, pl.lo, none⟩ ∧ pl.lo + cap * env.sz e ≤ pl.hi) :
    RepV env (ρ.put base pl) Z (.sw base) (.slice ao n cap) := by
  simp only [RepV, AVal.isAgg, RepC, PMap.put_same]
  exact ⟨ao, cap, e, hr, by rw [hl], by omega, h⟩

theorem flat_el {e : Nat} : ∀ {l : List AVal} {cs : List Value}, RepEl env ρ Z e l cs → ∀ c, c ∈ cs → c.oneCell' = true
  | [], cs, h, c, hc => by simp [RepEl] at h; subst h; cases hc
  | v :: vs, cs, h, c, hc => by
    obtain ⟨c1, c2, rfl, h1, h2, h3⟩ := h
    rw [List.mem_append] at hc
    exact hc.elim (flat_cells h1.flat h2 c) (flat_el h3 c)

theorem EffOk.dropKey {key : Nat} {b b0 : Blk} {w' : World} {v : AVal} {x : Value} (h : EffOk env ρ Z u base H w ⟨some v, [(base, some b)]⟩ x w') (hk : H key = some b0) (hku : known u key) (hne : key ≠ base) :
    EffOk env ρ Z u base H w ⟨some v, [(key, none), (base, some b)]⟩ x w' := by
  obtain ⟨Z', ρ', hgr, h⟩ := h
  have hH : updL H [(key, none), (base, some b)] = upd1 (updL H [(base, some b)]) key none := by
    funext j
    show upd1 (upd1 H key none) base (some b) j = upd1 (upd1 H base (some b)) key none j
    by_cases h1 : j = base
    · subst h1
      rw [upd1_same, upd1_other _ _ (Ne.symm hne), upd1_same]
    · rw [upd1_other _ _ h1]
      by_cases h2 : j = key
      · subst h2; rw [upd1_same, upd1_same]
      · rw [upd1_other _ _ h2, upd1_other _ _ h2, upd1_other _ _ h1]
  refine ⟨Z', ρ', hgr, h.val, by rw [hH]; exact h.heap.drop key, h.old, fun k b' hm => ?_, h.keep, fun k b' hb' => ?_, fun k b' hm => ?_⟩
  · simp at hm
    exact h.keysU k b' (by simp [hm])
  · rw [hH] at hb'
    rcases upd1_inv hb' with ⟨_, h0⟩ | ⟨_, h0⟩
    · cases h0
    · exact h.reg k b' h0
  · simp at hm
    rcases hm with ⟨rfl, _⟩ | ⟨rfl, rfl⟩
    · exact .inl (by rw [hk]; simp)
    · exact h.dom _ _ (List.mem_singleton.2 rfl)

theorem zeroRow_elems {e : Nat} {c : Cont} (h : zeroRow env e 0 = some c) : c.elems = [] := by
  unfold zeroRow at h
  cases htd : env.td e with
  | none => simp [htd] at h
  | some d =>
    have other : (match env.codec e with
      | some c => some (Cont.recs c (List.replicate 0 c.dflt))
      | none => match zeroV env 8 e with
        | some v => some (.vals (List.replicate 0 v))
        | none => none) = some c → c.elems = [] := fun h => by
      cases hc : env.codec e with
      | some cc => simp [hc] at h; subst h; simp [Cont.elems]
      | none =>
        cases hz : zeroV env 8 e with
        | none => simp [hc, hz] at h
        | some v => simp [hc, hz] at h; subst h; simp [Cont.elems]
    cases d with
    | int k => simp [htd] at h; subst h; simp [Cont.elems]
    | _ => simp only [htd] at h; exact other h

theorem zeroRow_good (he : EnvOk P env) {e : Nat} {c : Cont} (h : zeroRow env e 0 = some c) : c.good ∧ c.keys = [] := by
  unfold zeroRow at h
  cases htd : env.td e with
  | none => simp [htd] at h
  | some d =>
    have other : (match env.codec e with
      | some c => some (Cont.recs c (List.replicate 0 c.dflt))
      | none => match zeroV env 8 e with
        | some v => some (.vals (List.replicate 0 v))
        | none => none) = some c → c.good ∧ c.keys = [] := fun h => by
      cases hc : env.codec e with
      | some cc => simp [hc] at h; subst h; exact ⟨⟨(he.cod e cc hc).dec, (he.cod e cc hc).keys, (he.cod e cc hc).vt⟩, rfl⟩
      | none =>
        cases hz : zeroV env 8 e with
        | none => simp [hc, hz] at h
        | some v => simp [hc, hz] at h; subst h; exact ⟨trivial, rfl⟩
    cases d with
    | int k => simp [htd] at h; subst h; exact ⟨trivial, rfl⟩
    | _ => simp only [htd] at h; exact other h

theorem headOf_good (he : EnvOk P env) (hp : Pre env ρ Z u tmps H a w) {e : Nat} {s : AVal} {c : Cont} (h : headOf env H e s = some c) : c.good ∧ ∀ k, k ∈ c.keys → known u k := by
  unfold headOf at h
  cases s <;> try (simp at h; done)
  · rename_i key
    simp only at h
    cases hb : H key with
    | none => simp [hb] at h
    | some b =>
      obtain ⟨root, cb⟩ := b
      cases root with
      | map => simp [hb] at h
      | var t0 => simp [hb] at h
      | row e' =>
        cases hee : Nat.beq e e' with
        | false => simp [hb, hee] at h
        | true =>
          simp [hb, hee] at h
          subst h
          obtain ⟨cs, h1, -⟩ := (hp.heap.blk key _ hb).cells rfl
          exact ⟨h1.good, (hp.keysH key _ hb).2⟩
  · obtain ⟨h1, h2⟩ := zeroRow_good he h
    exact ⟨h1, fun k hk => by rw [h2] at hk; cases hk⟩

theorem op_append (he : EnvOk P env) (hp : Pre env ρ Z u tmps H a w) (hbase : ∀ k, inBase base k → ¬ known u k) {o : Oper} {c : Call} (ho : o.op = .call c) (hc : c.callee = .builtin .append) {t t2 : Nat} {s x : AVal}
    (hts : c.argTypes.toList = [t, t2]) (hv : opVals tmps c.args.toList = some [s, x]) (h : chk (notInt env t2) (evalAppend env base H t s x K)) : OpPost P env ρ Z u base H w K KP ((execOp a.eval o).run P w) := by
  obtain ⟨hni, q1⟩ := chk_inv h
  obtain ⟨X, Y, hXY, hrs, hrx, hks, hkx⟩ := args_two hp hv
  have hts' : c.argTypes = #[t, t2] := Array.ext' hts
  obtain ⟨d2, h2, hd2⟩ : ∃ d2, P.underlying t2 = some d2 ∧ (d2 = .string ∨ ∃ e2, d2 = .slice e2) := by
    unfold notInt at hni
    cases ht2 : env.td t2 with
    | none => simp [ht2] at hni
    | some td =>
      have hu := he.und t2 td ht2
      cases td <;> simp [ht2] at hni
      · simp only [UndOk] at hu; exact ⟨_, hu, .inl rfl⟩
      · simp only [UndOk] at hu; exact ⟨_, hu, .inr ⟨_, rfl⟩⟩
  unfold evalAppend at q1
  cases ht : env.td t with
  | none => rw [ht] at q1; exact q1.elim
  | some td =>
    rw [ht] at q1
    cases td <;> try exact q1.elim
    rename_i e
    have hu := he.und t _ ht
    simp only [UndOk] at hu
    obtain ⟨dd, hdd⟩ := he.clo t _ ht
    obtain ⟨ct, hct, q2⟩ := ob_inv q1
    obtain ⟨q, hq, q3⟩ := ob_inv q2
    obtain ⟨ct', hj, q4⟩ := ob_inv q3
    obtain ⟨zv, hzv, q5⟩ := ob_inv q4
    obtain ⟨hroom, hK⟩ := chk_inv q5
    obtain ⟨hgood, hkct⟩ := headOf_good he hp hct
    have hroom := of_decide_eq_true hroom
    obtain ⟨hlen, news, hnr, hnk, hfirst⟩ := src_rep (P := P) he hp hq hrx
    obtain ⟨inf, hi1, hi2, hi3, hi4⟩ := he.info e dd hdd
    obtain ⟨z, hz, hzr⟩ := hi4 zv hzv
    have hzl : z.cells.size = env.sz e := by
      have ht : HT env e zv := ⟨8, he.zty e zv hzv⟩
      have := ht.len he.size ((hzr ρ Z).cells ht)
      simpa using this
    obtain ⟨es, gle, g1, g2, g3, g4, g5, g6, g7⟩ := join_spec hj hgood he.cod
    have hjr : ∀ {cs}, RepEl env ρ Z e ct.elems cs → RepEl env ρ Z e ct'.elems (cs ++ news) := fun {cs} hcs => by
      rw [g1]; exact hcs.append ((hnr.toEl g4).le gle)
    have hkb : ∀ k, k ∈ ct'.keys → known u k := fun k hk => by
      rcases g5 k hk with h | ⟨v, hv, h⟩
      · exact hkct k h
      · exact hnk v hv k h
    have hnl : news.length = q.len * env.sz e := by rw [hnr.len, Seq.len_elems]
    have hrunb : ∀ r, (Builtin.append_ #[t, t2] o.type #[X, Y]).run P w = r → (execOp a.eval o).run P w = r.andThen fun v w' => .ok (.value v) w' := fun r hr => by
      rw [run_builtin ho hc, hXY, hts']
      simp only [builtin, Sem.run_bind, hr, Sem.run_pure]
    have hcnt : ct.count = ct.elems.length := by cases ct <;> simp [Cont.count, Cont.elems] <;> simp [Cont.isVar] at g7
    -- a new block
    have grown : ∀ ao cap cs, RepEl env ρ Z e ct.elems cs → X = .slice ao ct.count cap → cap < ct.count + q.len →
        (∀ w', w'.heap = w.heap → (Builtin.firstCells (env.sz e) ct.count X).run P w' = .ok cs.toArray w') →
        ∃ w', (execOp a.eval o).run P w = .ok (.value (.slice (some ⟨w.heap.size, 0, none⟩) (ct.count + q.len) (grownCap w (ct.count + q.len) cap e))) w' ∧
          EffOk env ρ Z u base H w ⟨some (.sw base), [(base, some ⟨.row e, ct'⟩)]⟩ (.slice (some ⟨w.heap.size, 0, none⟩) (ct.count + q.len) (grownCap w (ct.count + q.len) cap e)) w' := by
      intro ao cap cs hcs hX hlt hold
      subst hX
      have hge := grownCap_ge w (ct.count + q.len) cap e
      have hr := run_append_more (P := P) (w := w) (ty := o.type) hu hi1 hz h2 hd2 (hlen w) (by rw [hi2]; exact hfirst w.drew rfl) (by rw [hi2]; exact hold w.drew rfl) hlt (by rw [hi3]; exact hroom)
      have e1 := hrunb _ hr
      simp only [Result.andThen_ok] at e1
      refine ⟨_, e1, ?_⟩
      have hcl : cs.length = ct.count * env.sz e := by rw [hcs.len he.size, hcnt]
      have htl : (cs.toArray ++ news.toArray ++ Builtin.zeroCells z.cells (grownCap w (ct.count + q.len) cap e - (ct.count + q.len))).size = grownCap w (ct.count + q.len) cap e * env.sz e := by
        simp only [Array.size_append, List.size_toArray, size_zeroCells, hzl, hcl, hnl, ← Nat.add_mul]
        congr 1
        omega
      refine EffOk.made (t := e) (b := ⟨.row e, ct'⟩) (len := ct.count + q.len) (cs := cs.toArray ++ news.toArray ++ Builtin.zeroCells z.cells (grownCap w (ct.count + q.len) cap e - (ct.count + q.len))) hp hbase (w' := _) (o := _) rfl ⟨_, rfl, fun i hi => by simp⟩ rfl rfl rfl
        (n := (cs ++ news).length) (by rw [htl, List.length_append, hcl, hnl, ← Nat.add_mul]; exact Nat.mul_le_mul_right _ hge) ?_ hkb ?_ (by simp [AVal.keys])
      · have : (cs.toArray ++ news.toArray ++ Builtin.zeroCells z.cells (grownCap w (ct.count + q.len) cap e - (ct.count + q.len))).toList.take (cs ++ news).length = cs ++ news := by
          simp only [Array.toList_append]
          exact List.take_left
        rw [this]
        have : (∃ d, env.td e = some d) ∧ ct'.elems.length = ct.count + q.len ∧ RepEl env ρ Z e ct'.elems (cs ++ news) ∧ ct'.good := ⟨⟨_, hdd⟩, g6.symm, hjr hcs, g2⟩
        cases ct' <;> simp [Cont.isVar] at g3 <;> exact this
      · exact sw_of rfl (by omega) rfl fun _ => ⟨rfl, by simp only [htl]; omega⟩
    unfold headOf at hct
    cases s <;> try (simp at hct; done)
    · -- sw
      rename_i key
      simp only at hct
      cases hb : H key with
      | none => simp [hb] at hct
      | some b =>
        obtain ⟨root, cb⟩ := b
        cases root with
        | map => simp [hb] at hct
        | var t0 => simp [hb] at hct
        | row e' =>
          cases hee : Nat.beq e e' with
          | false => simp [hb, hee] at hct
          | true =>
            simp [hb, hee] at hct
            subst hct
            obtain rfl := beq_eq hee
            obtain ⟨r1, r2, r3, r4, ⟨cs, r5, r6, r7⟩, r8⟩ := row_rep hp hb g7
            obtain ⟨ao, cap, e2, s1, rfl, s3, s4⟩ := sw_inv hrs
            have he2 : e2 = e := by rw [r1] at s1; cases s1; rfl
            subst he2
            have hn : (ρ key).len = cb.count := by rw [hcnt, r2]
            rw [hn] at s3 hrunb grown
            have hcl : cs.length = cb.count * env.sz e2 := by rw [r5.len he.size, hcnt]
            have hkn : key ≠ base := fun h0 => hbase base ⟨Nat.le_refl _, by omega⟩ (h0 ▸ (hp.keysH key _ hb).1)
            by_cases hcap : cb.count + q.len ≤ cap
            · -- in place
              have done : ∀ w' , (execOp a.eval o).run P w = .ok (.value (.slice ao (cb.count + q.len) cap)) w' → Keeps (fun x i => x = (ρ key).block ∧ (ρ key).lo ≤ i ∧ i < (ρ key).hi) w w' →
                  (∀ i x, (cs ++ news)[i]? = some x → w'.cell? ⟨(ρ key).block, (ρ key).lo + i, none⟩ = some x) → (ρ key).lo + (cs ++ news).length ≤ (ρ key).hi → OpPost P env ρ Z u base H w K KP ((execOp a.eval o).run P w) := by
                intro w' hrun hkeep hcells hhi
                rw [hrun]
                refine ⟨_, hK, EffOk.regrow (n := cb.count + q.len) hp hbase hb hkeep ⟨r1, fun _ => ⟨cs ++ news, ?_, hcells, hhi⟩, fun _ i h1 h2 => ?_, ?_, fun h => by cases h⟩ hkb ?_ (by simp [AVal.keys])⟩
                · have : (∃ d, env.td e2 = some d) ∧ ct'.elems.length = cb.count + q.len ∧ RepEl env (ρ.put base { ρ key with len := cb.count + q.len }) Z e2 ct'.elems (cs ++ news) ∧ ct'.good := by
                    refine ⟨r4, g6.symm, (hjr r5).congr fun v hv k hk => PMap.put_other _ _ ?_, g2⟩
                    rintro rfl
                    exact hbase k ⟨Nat.le_refl _, by omega⟩ (hkb k (Cont.keys_el g2 hv hk))
                  cases ct' <;> simp [Cont.isVar] at g3 <;> exact this
                · exact ⟨hkeep.cellSome (r8 i h1 h2).1, by rw [hkeep.frozen (hp.heap.blk key _ hb).there]; exact (r8 i h1 h2).2⟩
                · exact Nat.lt_of_lt_of_le (hp.heap.blk key _ hb).there hkeep.size
                · exact sw_of r1 hcap rfl fun h => s4 h
              cases ao with
              | none =>
                have hc0 : cap = 0 := by
                  rcases Nat.eq_zero_or_pos cap with h | h
                  · exact h
                  · have := (s4 (by omega)).1; cases this
                have hq0 : q.len = 0 := by omega
                have hn0 : cb.count = 0 := by omega
                have hr := run_append_none' (P := P) (w := w) (ty := o.type) hu hi1 h2 hd2 (hlen w) (by rw [hi2]; exact hfirst w rfl) hcap
                have e1 := hrunb _ hr
                simp only [Result.andThen_ok] at e1
                have hnews : news = [] := List.eq_nil_of_length_eq_zero (by rw [hnl, hq0]; simp)
                subst hnews
                exact done w e1 (Keeps.refl _ _) (by simpa using r6) (by simpa using r7)
              | some ad =>
                by_cases hc0 : cap = 0
                · subst hc0
                  have hq0 : q.len = 0 := by omega
                  have hnews : news = [] := List.eq_nil_of_length_eq_zero (by rw [hnl, hq0]; simp)
                  subst hnews
                  have hr := run_append_room (P := P) (w := w) (ty := o.type) (ad := ad) (w' := w) hu hi1 h2 hd2 (hlen w) (by rw [hi2]; exact hfirst w rfl) hcap rfl
                  have e1 := hrunb _ hr
                  simp only [Result.andThen_ok] at e1
                  exact done w e1 (Keeps.refl _ _) (by simpa using r6) (by simpa using r7)
                · obtain ⟨had, hhi⟩ := s4 hc0
                  cases had
                  have hfit : cb.count * env.sz e2 + news.length ≤ cap * env.sz e2 := by rw [hnl, ← Nat.add_mul]; exact Nat.mul_le_mul_right _ hcap
                  have hown : ∀ j, j < news.length → (ρ key).lo ≤ (ρ key).lo + cb.count * env.sz e2 + j ∧ (ρ key).lo + cb.count * env.sz e2 + j < (ρ key).hi := fun j hj => by omega
                  have hst := run_storeCells_cells (P := P) (ρ key).block ((ρ key).lo + cb.count * env.sz e2) news 0 w (fun j hj => (r8 _ (hown j hj).1 (hown j hj).2).1) (fun j hj => (r8 _ (hown j hj).1 (hown j hj).2).2) (flat_el (hnr.toEl g4))
                  have hr := run_append_room (P := P) (w := w) (ty := o.type) (ad := ⟨(ρ key).block, (ρ key).lo, none⟩) (news := news.toArray) hu hi1 h2 hd2 (hlen w) (by rw [hi2]; exact hfirst w rfl) hcap (by rw [hi2, add_addr]; exact hst)
                  have e1 := hrunb _ hr
                  simp only [Result.andThen_ok] at e1
                  refine done _ e1 (Keeps.setCells _ _ _ _ fun j h1 h2 => ⟨rfl, by omega, by have := hown (j - ((ρ key).lo + cb.count * env.sz e2)) (by omega); omega⟩) (fun i x hx => ?_) (by simp; omega)
                  by_cases hi : i < cs.length
                  · rw [World.cell?_setCells_out _ _ _ _ _ (fun _ _ => .inl (by simp only; omega))]
                    rw [List.getElem?_append_left hi] at hx
                    exact r6 i x hx
                  · rw [List.getElem?_append_right (by omega)] at hx
                    have hj := (List.getElem?_eq_some_iff.1 hx).1
                    rw [show (ρ key).lo + i = (ρ key).lo + cb.count * env.sz e2 + 0 + (i - cs.length) by omega]
                    rw [World.cell?_setCells_in _ _ _ _ (fun j hj => by rw [Nat.add_zero]; exact (r8 _ (hown j hj).1 (hown j hj).2).1) _ hj]
                    rw [List.getElem?_eq_getElem hj] at hx; exact hx
            · -- a new block
              obtain ⟨w', hrun, heff⟩ := grown ao cap cs r5 rfl (by omega) (fun w' hw => by
                by_cases h0 : cb.count = 0
                · have : cs = [] := List.eq_nil_of_length_eq_zero (by rw [hcl, h0]; simp)
                  subst this
                  rw [h0]
                  cases ao with
                  | none => rfl
                  | some ad => simp only [Builtin.firstCells, Nat.zero_mul]; rfl
                · have hc0 : cap ≠ 0 := by omega
                  rw [(s4 hc0).1]
                  exact run_firstCells_some w' _ _ _ _ _ cs hcl (fun j c hj => by
                    rw [add_addr]
                    have := r6 j c hj
                    unfold World.cell? at *
                    rw [hw]; exact this))
              rw [hrun]
              exact ⟨_, hK, heff.dropKey hb (hp.keysH key _ hb).1 hkn⟩
    · -- nil
      rw [repV_nilsl] at hrs
      subst hrs
      have hcz := zeroRow_elems hct
      by_cases h0 : q.len = 0
      · have hr := run_append_none' (P := P) (w := w) (ty := o.type) (n := 0) (cap := 0) hu hi1 h2 hd2 (hlen w) (by rw [hi2]; exact hfirst w rfl) (by omega)
        have e1 := hrunb _ hr
        simp only [Result.andThen_ok, h0] at e1
        rw [e1]
        have hcn : ct.count = 0 := by rw [hcnt, hcz]; rfl
        exact ⟨_, hK, EffOk.empty hp hbase ⟨_, hdd⟩ (List.eq_nil_of_length_eq_zero (by omega)) g3 g2 hkb⟩
      · have hcn : ct.count = 0 := by rw [hcnt, hcz]; rfl
        obtain ⟨w', hrun, heff⟩ := grown none 0 [] (by rw [hcz]; simp [RepEl]) (by rw [hcn]) (by omega) (fun w' _ => by rw [hcn]; rfl)
        rw [hrun]
        exact ⟨_, hK, heff⟩
end
end Go.Abs
