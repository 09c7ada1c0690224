/- Operations: the built-in function append. Operations: the built-in function append, put together. Operations: maps. Lists of numbers of blocks; blocks under other names. -/
import Derived.Test.YtadiphoihflmiaaGreatDoorZf
import Derived.Laws.AppendOwn
import Derived.MapKept
set_option linter.all false
namespace Go.Abs
section
variable {P : Program} {env : Env} {C : Tab} {ρ : PMap} {Z : Zone} {u : Nat → Bool} {base : Nat} {tmps : List (Option AVal)} {H : Heap} {a : Act} {w : World} {K : Eff → Prop} {KP : AVal → List (Nat × Option Blk) → Prop}

/-! ### the model's append, whatever is appended -/
theorem run_append_room {t t2 ty e : TypeId} {i : TypeInfo} {d2 : TypeDesc} {x : Value} {ad : Addr} {n m cap : Nat} {news : Array Value} {w' : World}
    (ht : P.underlying t = some (.slice e)) (hi : P.info? e = some i) (h2 : P.underlying t2 = some d2) (hd : d2 = .string ∨ ∃ e2, d2 = .slice e2)
    (hl : (Builtin.lenOf x).run P w = .ok m w) (hf : (Builtin.firstCells i.size m x).run P w = .ok news w) (hc : n + m ≤ cap)
    (hst : (storeCells (ad.add (n * i.size)) news.toList).run P w = .ok () w') :
    (Builtin.append_ #[t, t2] ty #[.slice (some ad) n cap, x]).run P w = .ok (.slice (some ad) (n + m) cap) w' := by
  rcases hd with rfl | ⟨e2, rfl⟩ <;> simp [Builtin.append_, run_underlying ht, run_underlying h2, sizeOf, typeInfo, hi, hl, hc, hf, hst]

theorem run_append_none {t t2 ty e : TypeId} {i : TypeInfo} {d2 : TypeDesc} {x : Value} {news : Array Value}
    (ht : P.underlying t = some (.slice e)) (hi : P.info? e = some i) (h2 : P.underlying t2 = some d2) (hd : d2 = .string ∨ ∃ e2, d2 = .slice e2)
    (hl : (Builtin.lenOf x).run P w = .ok 0 w) (hf : (Builtin.firstCells i.size 0 x).run P w = .ok news w) :
    (Builtin.append_ #[t, t2] ty #[.slice none 0 0, x]).run P w = .ok (.slice none 0 0) w := by
  rcases hd with rfl | ⟨e2, rfl⟩ <;> simp [Builtin.append_, run_underlying ht, run_underlying h2, sizeOf, typeInfo, hi, hl, hf]

theorem run_append_more {t t2 ty e : TypeId} {i : TypeInfo} {z : Value} {d2 : TypeDesc} {x : Value} {ao : Option Addr} {n m cap : Nat} {olds news : Array Value}
    (ht : P.underlying t = some (.slice e)) (hi : P.info? e = some i) (hz : i.zero = some z) (h2 : P.underlying t2 = some d2) (hd : d2 = .string ∨ ∃ e2, d2 = .slice e2)
    (hl : (Builtin.lenOf x).run P w = .ok m w) (hf : (Builtin.firstCells i.size m x).run P w.drew = .ok news w.drew)
    (ho : (Builtin.firstCells i.size n (.slice ao n cap)).run P w.drew = .ok olds w.drew) (hc : cap < n + m) (hr : (n + m) * (i.bytes + 1) ≤ 70368744177664) :
    (Builtin.append_ #[t, t2] ty #[.slice ao n cap, x]).run P w = .ok (.slice (some ⟨w.heap.size, 0, none⟩) (n + m) (grownCap w (n + m) cap e))
      (w.drew.alloc (.cells (olds ++ news ++ Builtin.zeroCells z.cells (grownCap w (n + m) cap e - (n + m))) e)) := by
  have hn : ¬ (n + m ≤ cap) := by omega
  rw [Nat.mul_add] at hr
  have h63' : ¬ (9223372036854775807 < ((n : Int) + (m : Int))) := by omega
  have h48' : ¬ (281474976710656 < Builtin.nextslicecap (n + m) cap * i.bytes) := by
    have := growslice_fits (need := n + m) (old := cap) (bytes := i.bytes) (by omega) (by omega)
    omega
  rcases hd with rfl | ⟨e2, rfl⟩ <;> simp [Builtin.append_, run_underlying ht, run_underlying h2, sizeOf, typeInfo, zeroValue, hi, hz, hl, hn, h63', h48', Question.forced, hf, ho, newRow, grownCap]

/-! ### elements -/
theorem RepE.append {e : Nat} : ∀ {l m : List AVal} {cs ds : List Value}, RepE env ρ Z e l cs → RepE env ρ Z e m ds → RepE env ρ Z e (l ++ m) (cs ++ ds)
  | [], m, cs, ds, h, h' => by simp [RepE] at h; simpa [h] using h'
  | v :: vs, m, cs, ds, h, h' => by
    obtain ⟨c1, c2, rfl, h1, h2, h3⟩ := h
    exact ⟨c1, c2 ++ ds, by simp, h1, h2, h3.append h'⟩

theorem RepE.toEl {e : Nat} : ∀ {l : List AVal} {cs : List Value}, RepE env ρ Z e l cs → (∀ v, v ∈ l → HT env e v) → RepEl env ρ Z e l cs
  | [], _, h, _ => h
  | v :: vs, cs, h, ht => by
    obtain ⟨c1, c2, rfl, h1, h2, h3⟩ := h
    exact ⟨c1, c2, rfl, ht v (by simp), h2, h3.toEl fun u hu => ht u (by simp [hu])⟩

theorem allTy_spec {e : Nat} : ∀ {l : List AVal}, allTy env e l = true → ∀ v, v ∈ l → HT env e v
  | [], _, v, hv => by cases hv
  | x :: xs, h, v, hv => by
    cases hx : hasTy env 8 e x with
    | false => simp [allTy, hx] at h
    | true =>
      simp [allTy, hx] at h
      cases hv with
      | head => exact ⟨8, hx⟩
      | tail _ hm => exact allTy_spec h v hm

theorem encAll_map {α : Type} (enc : α → AVal) (l : List α) : encAll enc l = l.map enc := by
  induction l with
  | nil => rfl
  | cons a l ih => simp [encAll, ih]

theorem toVals_elems {q : Seq} {l : List AVal} (h : q.toVals = some l) : q.elems = l := by
  cases q <;> simp [Seq.toVals] at h
  · rw [← h, encAll_map]; rfl
  · exact h

theorem decAll_spec {c : Codec} (hg : ∀ v a, c.dec v = some a → c.enc a = v) : ∀ {l : List AVal} {m : List c.α}, decAll c l = some m → m.map c.enc = l
  | [], m, h => by simp [decAll] at h; simp [h]
  | v :: vs, m, h => by
    cases hv : c.dec v with
    | none => simp [decAll, hv] at h
    | some a =>
      cases hm : decAll c vs with
      | none => simp [decAll, hv, hm] at h
      | some m' =>
        simp [decAll, hv, hm] at h
        subst h
        simp [hg v a hv, decAll_spec hg hm]

/-- What stands there behind an append. -/
theorem join_spec {e : Nat} {c c' : Cont} {q : Seq} (h : c.join env e q = some c') (hg : c.good) :
    c'.elems = c.elems ++ q.elems ∧ c'.good ∧ c'.isVar = false ∧ (∀ v, v ∈ q.elems → HT env e v) ∧ (∀ k, k ∈ c'.keys → k ∈ c.keys ∨ ∃ v, v ∈ q.elems ∧ k ∈ v.keys) ∧ c.count + q.len = c'.elems.length ∧ c.isVar = false := by
  cases c with
  | ints k l =>
    simp only [Cont.join] at h
    cases hi : isInt env e k with
    | false => simp [hi] at h
    | true =>
      cases hm : q.toInts k with
      | none => simp [hi, hm] at h
      | some m =>
        simp [hi, hm] at h
        subst h
        have hq : q.elems = m.map (AVal.int k) := by
          cases q with
          | ints k' l' => simp only [Seq.toInts] at hm; obtain ⟨rfl, rfl⟩ := castL_some hm; rfl
          | recs enc d l' => simp [Seq.toInts] at hm
          | vals l' => cases l' <;> simp [Seq.toInts] at hm; subst hm; rfl
        have hlen : q.len = m.length := by rw [← Seq.len_elems, hq]; simp
        refine ⟨by simp [Cont.elems, hq], trivial, rfl, fun v hv => ?_, fun k hk => by simp [Cont.keys] at hk, by simp [Cont.count, Cont.elems, hlen], rfl⟩
        rw [hq] at hv
        simp at hv
        obtain ⟨x, _, rfl⟩ := hv
        exact ⟨1, by simp [hasTy, isInt_td hi, same_refl]⟩
  | recs c l =>
    simp only [Cont.join] at h
    cases hv : q.toVals with
    | none => simp [hv] at h
    | some vs =>
      cases ha : allTy env e vs with
      | false => simp [hv, ha] at h
      | true =>
        cases hd : decAll c vs with
        | none => simp [hv, ha, hd] at h
        | some m =>
          simp [hv, ha, hd] at h
          subst h
          have hq := toVals_elems hv
          have hm := decAll_spec hg.1 hd
          have hlen : q.len = m.length := by rw [← Seq.len_elems, hq, ← hm]; simp
          exact ⟨by simp [Cont.elems, hq, hm], hg, rfl, fun v hv' => allTy_spec ha v (hq ▸ hv'), fun k hk => by simp [Cont.keys] at hk, by simp [Cont.count, Cont.elems, hlen], rfl⟩
  | vals l =>
    simp only [Cont.join] at h
    cases hv : q.toVals with
    | none => simp [hv] at h
    | some vs =>
      cases ha : allTy env e vs with
      | false => simp [hv, ha] at h
      | true =>
        simp [hv, ha] at h
        subst h
        have hq := toVals_elems hv
        have hlen : q.len = vs.length := by rw [← Seq.len_elems, hq]
        refine ⟨by simp [Cont.elems, hq], trivial, rfl, fun v hv' => allTy_spec ha v (hq ▸ hv'), fun k hk => ?_, by simp [Cont.count, Cont.elems, hlen], rfl⟩
        simp only [Cont.keys] at hk ⊢
        obtain ⟨v, hv', hkv⟩ := (keysL_map _ _).1 hk
        rw [List.mem_append] at hv'
        rcases hv' with h | h
        · exact .inl ((keysL_map _ _).2 ⟨v, h, hkv⟩)
        · exact .inr ⟨v, hq ▸ h, hkv⟩
  | var v => simp [Cont.join] at h
  | map k v l => simp [Cont.join] at h
  | mapv k l => simp [Cont.join] at h

/-- What is appended or copied, in the model. -/
theorem src_rep (he : EnvOk P env) (hp : Pre env ρ Z u tmps H a w) {e : Nat} {v : AVal} {q : Seq} {x : Value} (hq : srcOf env H e v = some q) (hx : RepV env ρ Z v x) :
    (∀ w', (Builtin.lenOf x).run P w' = .ok q.len w') ∧ ∃ news : List Value, RepE env ρ Z e q.elems news ∧ (∀ v, v ∈ q.elems → ∀ k, k ∈ v.keys → known u k) ∧
      ∀ w', w'.heap = w.heap → (Builtin.firstCells (env.sz e) q.len x).run P w' = .ok news.toArray w' := by
  have slice : ∀ {q}, seqOf env H e v = some q → (∀ w', (Builtin.lenOf x).run P w' = .ok q.len w') ∧ ∃ news : List Value, RepE env ρ Z e q.elems news ∧ (∀ v, v ∈ q.elems → ∀ k, k ∈ v.keys → known u k) ∧
      ∀ w', w'.heap = w.heap → (Builtin.firstCells (env.sz e) q.len x).run P w' = .ok news.toArray w' := fun {q} hq => by
    obtain ⟨ao, cap, rfl, hle, hs⟩ := seq_rep he hp hq hx
    refine ⟨fun w' => rfl, ?_⟩
    by_cases h0 : q.len = 0
    · have hel : q.elems = [] := List.eq_nil_of_length_eq_zero (by rw [Seq.len_elems]; exact h0)
      refine ⟨[], by rw [hel]; simp [RepE], by simp [hel], fun w' _ => ?_⟩
      rw [h0]
      cases ao with
      | none => rfl
      | some ad => simp only [Builtin.firstCells, Nat.zero_mul]; rfl
    · obtain ⟨b, o', rfl, cs, f1, f2, f3⟩ := hs h0
      refine ⟨cs, f1, f3, fun w' hw => ?_⟩
      exact run_firstCells_some w' _ _ _ _ _ cs (by rw [f1.len, Seq.len_elems]) (fun j c hj => by
        rw [add_addr]
        have := f2 j c hj
        unfold World.cell? at *
        rw [hw]; exact this)
  cases v with
  | str s =>
    simp only [srcOf] at hq
    cases hi : isInt env e .u8 with
    | false => simp [hi] at hq
    | true =>
      simp [hi] at hq; subst hq
      rw [repV_str] at hx; subst hx
      have hsz : (⟨s.toArray⟩ : ByteArray).size = s.length := by simp [ByteArray.size]
      refine ⟨fun w' => by simp [Builtin.lenOf, hsz, Seq.len], s.map fun x => Value.int .u8 (toI .u8 x), RepE.ints (k := .u8) (sz_int he.size (isInt_td hi)) s, fun v hv k hk => ?_, fun w' _ => ?_⟩
      · simp [Seq.elems] at hv; obtain ⟨y, _, rfl⟩ := hv; simp [AVal.keys] at hk
      · simp only [Builtin.firstCells, Seq.len, Sem.run_pure]
        congr 1
        apply Array.ext'
        simp [ByteArray.extract, ByteArray.copySlice, toI]
  | _ => exact slice hq
end
end Go.Abs

namespace Go.Abs
section
variable {P : Program} {env : Env} {C : Tab} {ρ : PMap} {Z : Zone} {u : Nat → Bool} {base : Nat} {tmps : List (Option AVal)} {H : Heap} {a : Act} {w : World} {K : Eff → Prop} {KP : AVal → List (Nat × Option Blk) → Prop}

theorem run_append_none' {t t2 ty e : TypeId} {i : TypeInfo} {d2 : TypeDesc} {x : Value} {n m cap : Nat} {news : Array Value}
    (ht : P.underlying t = some (.slice e)) (hi : P.info? e = some i) (h2 : P.underlying t2 = some d2) (hd : d2 = .string ∨ ∃ e2, d2 = .slice e2)
    (hl : (Builtin.lenOf x).run P w = .ok m w) (hf : (Builtin.firstCells i.size m x).run P w = .ok news w) (hc : n + m ≤ cap) :
    (Builtin.append_ #[t, t2] ty #[.slice none n cap, x]).run P w = .ok (.slice none (n + m) cap) w := by
  rcases hd with rfl | ⟨e2, rfl⟩ <;> simp [Builtin.append_, run_underlying ht, run_underlying h2, sizeOf, typeInfo, hi, hl, hf, hc]

/-- Cells of a block are turned, and the block goes. -/
theorem HeapOk.dropKeeps {w' : World} {k : Nat} {b : Blk} (h : HeapOk env ρ Z w H) (hk : H k = some b)
    (hkeep : Keeps (fun x i => x = (ρ k).block ∧ (ρ k).lo ≤ i ∧ i < (ρ k).hi) w w') : HeapOk env ρ Z w' (upd1 H k none) := by
  have inv : ∀ j b, upd1 H k none j = some b → j ≠ k ∧ H j = some b := fun j b hb => by
    rcases upd1_inv hb with ⟨_, h⟩ | h
    · cases h
    · exact h
  have notIn : ∀ j x, j ≠ k → H j = some x → ∀ i, (ρ j).lo ≤ i → i < (ρ j).hi → ¬ ((ρ j).block = (ρ k).block ∧ (ρ k).lo ≤ i ∧ i < (ρ k).hi) := by
    intro j x hj hx i h1 h2 ⟨e, h3, h4⟩
    exact h.dis j k x b hj hx hk i e h1 h2 h3 h4
  refine ⟨fun j x hx => ?_, fun j j' x x' hne hx hx' => h.dis j j' x x' hne (inv j x hx).2 (inv j' x' hx').2, fun j x hx => h.zdis j x (inv j x hx).2, fun b o v hz => ?_, Nat.lt_of_lt_of_le h.pos hkeep.size, h.gok.keeps hkeep⟩
  · obtain ⟨hj, hx⟩ := inv j x hx
    exact (h.blk j x hx).keeps hkeep (notIn j x hj hx)
  · refine hkeep.cell (h.zone b o v hz) ?_
    rintro ⟨rfl, h1, h2⟩
    rw [h.zdis k _ hk o h1 h2] at hz; cases hz

/-- A slice grows where it lies: its block goes, a new key takes its place. -/
theorem EffOk.regrow (hp : Pre env ρ Z u tmps H a w) (hbase : ∀ k, inBase base k → ¬ known u k) {key n : Nat} {b b' : Blk} {w' : World} {v : AVal} {x : Value} (hk : H key = some b)
    (hkeep : Keeps (fun x i => x = (ρ key).block ∧ (ρ key).lo ≤ i ∧ i < (ρ key).hi) w w')
    (hb : BlkOk env (ρ.put base { ρ key with len := n }) Z w' { ρ key with len := n } b') (hkb : ∀ k, k ∈ b'.c.keys → known u k)
    (hv : RepV env (ρ.put base { ρ key with len := n }) Z v x) (hkv : ∀ k, k ∈ v.keys → known u k ∨ k = base) :
    EffOk env ρ Z u base H w ⟨some v, [(key, none), (base, some b')]⟩ x w' := by
  have hb0 : inBase base base := ⟨Nat.le_refl _, by omega⟩
  have hnk := hbase base hb0
  have hHb : H base = none := by
    cases hh : H base with
    | none => rfl
    | some b' => exact absurd (hp.keysH base b' hh).1 hnk
  have hne : key ≠ base := by rintro rfl; rw [hHb] at hk; cases hk
  have hd := hp.heap.dropKeeps hk hkeep
  have inv : ∀ j y, upd1 H key none j = some y → j ≠ key ∧ H j = some y := fun j y hy => by
    rcases upd1_inv hy with ⟨_, h⟩ | h
    · cases h
    · exact h
  refine ⟨ρ.put base { ρ key with len := n }, ?_, ?_, ?_, ?_, ?_, ?_, ?_⟩
  · intro v' e; cases e
    exact ⟨hv, fun k hm => by rcases hkv k hm with h | rfl; exact .inl h; exact .inr hb0⟩
  · show HeapOk env _ Z w' (upd1 (upd1 H key none) base (some b'))
    refine hd.put ?_ (fun j y hj hm => hnk ((hp.keysH j y (inv j y hj).2).2 base hm)) hb (fun j y hj => ?_) fun i h1 h2 => hp.heap.zdis key b hk i h1 h2
    · rw [upd1_other _ _ (Ne.symm hne)]; exact hHb
    · have := hp.heap.dis j key y b (inv j y hj).1 (inv j y hj).2 hk
      exact this
  · intro k hk
    exact PMap.put_other _ _ (by rintro rfl; exact hnk hk)
  · intro k b0 hm
    simp at hm
    obtain ⟨rfl, rfl⟩ := hm
    exact ⟨.inr hb0, fun k' hk' => .inl (hkb k' hk')⟩
  · exact hkeep.mono fun y i _ ⟨e, h1, h2⟩ => ⟨key, b, hk, e.symm, h1, h2⟩
  · intro k b0 hb0' i h1 h2
    rcases upd1_inv (show upd1 (upd1 H key none) base (some b') k = some b0 from hb0') with ⟨rfl, _⟩ | ⟨hj, e⟩
    · rw [PMap.put_same] at h1 h2 ⊢
      exact .inr ⟨key, b, hk, rfl, h1, h2⟩
    · rw [PMap.put_other _ _ hj] at h1 h2 ⊢
      exact .inr ⟨k, b0, (inv k b0 e).2, rfl, h1, h2⟩
  · intro k b0 hm
    simp at hm
    rcases hm with ⟨rfl, _⟩ | ⟨rfl, _⟩
    · exact .inl (by rw [hk]; simp)
    · exact .inr hb0

/-- A row of no elements, that lies nowhere. -/
theorem EffOk.empty (hp : Pre env ρ Z u tmps H a w) (hbase : ∀ k, inBase base k → ¬ known u k) {e : Nat} {c : Cont} (hd : ∃ d, env.td e = some d) (hc : c.elems = []) (hv : c.isVar = false) (hg : c.good) (hkb : ∀ k, k ∈ c.keys → known u k) :
    EffOk env ρ Z u base H w ⟨some (.sw base), [(base, some ⟨.row e, c⟩)]⟩ (.slice none 0 0) w := by
  have hb0 : inBase base base := ⟨Nat.le_refl _, by omega⟩
  have hnk := hbase base hb0
  have hHb : H base = none := by
    cases hh : H base with
    | none => rfl
    | some b' => exact absurd (hp.keysH base b' hh).1 hnk
  have hB : BlkOk env (ρ.put base ⟨0, 0, 0, .row e, 0⟩) Z w ⟨0, 0, 0, .row e, 0⟩ ⟨.row e, c⟩ := by
    refine ⟨rfl, fun _ => ⟨[], ?_, by simp, by simp⟩, fun _ i _ h => by simp at h, hp.heap.pos, fun h => by cases h⟩
    have : (∃ d, env.td e = some d) ∧ c.elems.length = 0 ∧ RepEl env (ρ.put base ⟨0, 0, 0, .row e, 0⟩) Z e c.elems [] ∧ c.good := ⟨hd, by simp [hc], by rw [hc]; simp [RepEl], hg⟩
    cases c <;> simp [Cont.isVar] at hv <;> exact this
  refine ⟨ρ.put base ⟨0, 0, 0, .row e, 0⟩, ?_, ?_, ?_, ?_, Keeps.refl _ _, ?_, ?_⟩
  · intro v' e'; cases e'
    refine ⟨?_, fun k hm => by simp [AVal.keys] at hm; exact .inr (hm ▸ hb0)⟩
    simp only [RepV, AVal.isAgg, RepC, PMap.put_same]
    exact ⟨none, 0, e, rfl, rfl, Nat.le_refl _, fun h => absurd rfl h⟩
  · rw [updL_single]
    exact hp.heap.put hHb (fun j y hj hm => hnk ((hp.keysH j y hj).2 base hm)) hB (fun j y hj i _ _ _ _ h => by simp at h) fun i _ h => by simp at h
  · intro k hk
    exact PMap.put_other _ _ (by rintro rfl; exact hnk hk)
  · intro k b' hm
    simp at hm
    obtain ⟨rfl, rfl⟩ := hm
    exact ⟨.inr hb0, fun k' hk' => .inl (hkb k' hk')⟩
  · intro k b' hk i h1 h2
    rw [updL_single] at hk
    rcases upd1_inv hk with ⟨rfl, _⟩ | ⟨hj, e⟩
    · rw [PMap.put_same] at h2; simp at h2
    · rw [PMap.put_other _ _ hj] at h1 h2 ⊢; exact .inr ⟨k, b', e, rfl, h1, h2⟩
  · intro k b' hm
    simp at hm
    exact .inr (hm.1 ▸ hb0)

theorem row_rep (hp : Pre env ρ Z u tmps H a w) {key e : Nat} {c : Cont} (hb : H key = some ⟨.row e, c⟩) (hv : c.isVar = false) :
    (ρ key).root = .row e ∧ c.elems.length = (ρ key).len ∧ c.good ∧ (∃ d, env.td e = some d) ∧ (∃ cs, RepEl env ρ Z e c.elems cs ∧ (∀ i x, cs[i]? = some x → w.cell? ⟨(ρ key).block, (ρ key).lo + i, none⟩ = some x) ∧ (ρ key).lo + cs.length ≤ (ρ key).hi) ∧
    ∀ i, (ρ key).lo ≤ i → i < (ρ key).hi → (w.cell? ⟨(ρ key).block, i, none⟩).isSome = true ∧ w.frozen? ⟨(ρ key).block, i, none⟩ = false := by
  have hB := hp.heap.blk key _ hb
  obtain ⟨cs, h1, h2, h3⟩ := hB.cells rfl
  have h1' : (∃ d, env.td e = some d) ∧ c.elems.length = (ρ key).len ∧ RepEl env ρ Z e c.elems cs ∧ c.good := by cases c <;> simp [Cont.isVar] at hv <;> exact h1
  exact ⟨hB.root, h1'.2.1, h1'.2.2.2, h1'.1, ⟨cs, h1'.2.2.1, h2, h3⟩, hB.own rfl⟩



theorem sw_of {n cap e : Nat} {ao : Option Addr} {pl : Place} (hr : pl.root = .row e) (hn : n ≤ cap) (hl : pl.len = n) (h : cap ≠ 0 → ao = some ⟨pl.block, pl.lo, none⟩ ∧ pl.lo + cap * env.sz e ≤ pl.hi) :
    RepV env (ρ.put base pl) Z (.sw base) (.slice ao n cap) := by
  simp only [RepV, AVal.isAgg, RepC, PMap.put_same]
  exact ⟨ao, cap, e, hr, by rw [hl], by omega, h⟩

theorem flat_el {e : Nat} : ∀ {l : List AVal} {cs : List Value}, RepEl env ρ Z e l cs → ∀ c, c ∈ cs → c.oneCell' = true
  | [], cs, h, c, hc => by simp [RepEl] at h; subst h; cases hc
  | v :: vs, cs, h, c, hc => by
    obtain ⟨c1, c2, rfl, h1, h2, h3⟩ := h
    rw [List.mem_append] at hc
    exact hc.elim (flat_cells h1.flat h2 c) (flat_el h3 c)

theorem EffOk.dropKey {key : Nat} {b b0 : Blk} {w' : World} {v : AVal} {x : Value} (h : EffOk env ρ Z u base H w ⟨some v, [(base, some b)]⟩ x w') (hk : H key = some b0) (hku : known u key) (hne : key ≠ base) :
    EffOk env ρ Z u base H w ⟨some v, [(key, none), (base, some b)]⟩ x w' := by
  obtain ⟨ρ', h⟩ := h
  have hH : updL H [(key, none), (base, some b)] = upd1 (updL H [(base, some b)]) key none := by
    funext j
    show upd1 (upd1 H key none) base (some b) j = upd1 (upd1 H base (some b)) key none j
    by_cases h1 : j = base
    · subst h1
      rw [upd1_same, upd1_other _ _ (Ne.symm hne), upd1_same]
    · rw [upd1_other _ _ h1]
      by_cases h2 : j = key
      · subst h2; rw [upd1_same, upd1_same]
      · rw [upd1_other _ _ h2, upd1_other _ _ h2, upd1_other _ _ h1]
  refine ⟨ρ', h.val, by rw [hH]; exact h.heap.drop key, h.old, fun k b' hm => ?_, h.keep, fun k b' hb' => ?_, fun k b' hm => ?_⟩
  · simp at hm
    exact h.keysU k b' (by simp [hm])
  · rw [hH] at hb'
    rcases upd1_inv hb' with ⟨_, h0⟩ | ⟨_, h0⟩
    · cases h0
    · exact h.reg k b' h0
  · simp at hm
    rcases hm with ⟨rfl, _⟩ | ⟨rfl, rfl⟩
    · exact .inl (by rw [hk]; simp)
    · exact h.dom _ _ (List.mem_singleton.2 rfl)

theorem zeroRow_elems {e : Nat} {c : Cont} (h : zeroRow env e 0 = some c) : c.elems = [] := by
  unfold zeroRow at h
  cases htd : env.td e with
  | none => simp [htd] at h
  | some d =>
    have other : (match env.codec e with
      | some c => some (Cont.recs c (List.replicate 0 c.dflt))
      | none => match zeroV env 8 e with
        | some v => some (.vals (List.replicate 0 v))
        | none => none) = some c → c.elems = [] := fun h => by
      cases hc : env.codec e with
      | some cc => simp [hc] at h; subst h; simp [Cont.elems]
      | none =>
        cases hz : zeroV env 8 e with
        | none => simp [hc, hz] at h
        | some v => simp [hc, hz] at h; subst h; simp [Cont.elems]
    cases d with
    | int k => simp [htd] at h; subst h; simp [Cont.elems]
    | _ => simp only [htd] at h; exact other h

theorem zeroRow_good (he : EnvOk P env) {e : Nat} {c : Cont} (h : zeroRow env e 0 = some c) : c.good ∧ c.keys = [] := by
  unfold zeroRow at h
  cases htd : env.td e with
  | none => simp [htd] at h
  | some d =>
    have other : (match env.codec e with
      | some c => some (Cont.recs c (List.replicate 0 c.dflt))
      | none => match zeroV env 8 e with
        | some v => some (.vals (List.replicate 0 v))
        | none => none) = some c → c.good ∧ c.keys = [] := fun h => by
      cases hc : env.codec e with
      | some cc => simp [hc] at h; subst h; exact ⟨⟨(he.cod e cc hc).dec, (he.cod e cc hc).keys⟩, rfl⟩
      | none =>
        cases hz : zeroV env 8 e with
        | none => simp [hc, hz] at h
        | some v => simp [hc, hz] at h; subst h; exact ⟨trivial, rfl⟩
    cases d with
    | int k => simp [htd] at h; subst h; exact ⟨trivial, rfl⟩
    | _ => simp only [htd] at h; exact other h

theorem headOf_good (he : EnvOk P env) (hp : Pre env ρ Z u tmps H a w) {e : Nat} {s : AVal} {c : Cont} (h : headOf env H e s = some c) : c.good ∧ ∀ k, k ∈ c.keys → known u k := by
  unfold headOf at h
  cases s <;> try (simp at h; done)
  · rename_i key
    simp only at h
    cases hb : H key with
    | none => simp [hb] at h
    | some b =>
      obtain ⟨root, cb⟩ := b
      cases root with
      | map => simp [hb] at h
      | var t0 => simp [hb] at h
      | row e' =>
        cases hee : Nat.beq e e' with
        | false => simp [hb, hee] at h
        | true =>
          simp [hb, hee] at h
          subst h
          obtain ⟨cs, h1, -⟩ := (hp.heap.blk key _ hb).cells rfl
          exact ⟨h1.good, (hp.keysH key _ hb).2⟩
  · obtain ⟨h1, h2⟩ := zeroRow_good he h
    exact ⟨h1, fun k hk => by rw [h2] at hk; cases hk⟩

theorem op_append (he : EnvOk P env) (hp : Pre env ρ Z u tmps H a w) (hbase : ∀ k, inBase base k → ¬ known u k) {o : Oper} {c : Call} (ho : o.op = .call c) (hc : c.callee = .builtin .append) {t t2 : Nat} {s x : AVal}
    (hts : c.argTypes.toList = [t, t2]) (hv : opVals tmps c.args.toList = some [s, x]) (h : chk (notInt env t2) (evalAppend env base H t s x K)) : OpPost P env ρ Z u base H w K KP ((execOp a.eval o).run P w) := by
  obtain ⟨hni, q1⟩ := chk_inv h
  obtain ⟨X, Y, hXY, hrs, hrx, hks, hkx⟩ := args_two hp hv
  have hts' : c.argTypes = #[t, t2] := Array.ext' hts
  obtain ⟨d2, h2, hd2⟩ : ∃ d2, P.underlying t2 = some d2 ∧ (d2 = .string ∨ ∃ e2, d2 = .slice e2) := by
    unfold notInt at hni
    cases ht2 : env.td t2 with
    | none => simp [ht2] at hni
    | some td =>
      have hu := he.und t2 td ht2
      cases td <;> simp [ht2] at hni
      · simp only [UndOk] at hu; exact ⟨_, hu, .inl rfl⟩
      · simp only [UndOk] at hu; exact ⟨_, hu, .inr ⟨_, rfl⟩⟩
  unfold evalAppend at q1
  cases ht : env.td t with
  | none => rw [ht] at q1; exact q1.elim
  | some td =>
    rw [ht] at q1
    cases td <;> try exact q1.elim
    rename_i e
    have hu := he.und t _ ht
    simp only [UndOk] at hu
    obtain ⟨dd, hdd⟩ := he.clo t _ ht
    obtain ⟨ct, hct, q2⟩ := ob_inv q1
    obtain ⟨q, hq, q3⟩ := ob_inv q2
    obtain ⟨ct', hj, q4⟩ := ob_inv q3
    obtain ⟨zv, hzv, q5⟩ := ob_inv q4
    obtain ⟨hroom, hK⟩ := chk_inv q5
    obtain ⟨hgood, hkct⟩ := headOf_good he hp hct
    have hroom := of_decide_eq_true hroom
    obtain ⟨hlen, news, hnr, hnk, hfirst⟩ := src_rep (P := P) he hp hq hrx
    obtain ⟨inf, hi1, hi2, hi3, hi4⟩ := he.info e dd hdd
    obtain ⟨z, hz, hzr⟩ := hi4 zv hzv
    have hzl : z.cells.size = env.sz e := by
      have ht : HT env e zv := ⟨8, he.zty e zv hzv⟩
      have := ht.len he.size ((hzr ρ Z).cells ht)
      simpa using this
    obtain ⟨g1, g2, g3, g4, g5, g6, g7⟩ := join_spec hj hgood
    have hjr : ∀ {cs}, RepEl env ρ Z e ct.elems cs → RepEl env ρ Z e ct'.elems (cs ++ news) := fun {cs} hcs => by
      rw [g1]; exact hcs.append (hnr.toEl g4)
    have hkb : ∀ k, k ∈ ct'.keys → known u k := fun k hk => by
      rcases g5 k hk with h | ⟨v, hv, h⟩
      · exact hkct k h
      · exact hnk v hv k h
    have hnl : news.length = q.len * env.sz e := by rw [hnr.len, Seq.len_elems]
    have hrunb : ∀ r, (Builtin.append_ #[t, t2] o.type #[X, Y]).run P w = r → (execOp a.eval o).run P w = r.andThen fun v w' => .ok (.value v) w' := fun r hr => by
      rw [run_builtin ho hc, hXY, hts']
      simp only [builtin, Sem.run_bind, hr, Sem.run_pure]
    have hcnt : ct.count = ct.elems.length := by cases ct <;> simp [Cont.count, Cont.elems] <;> simp [Cont.isVar] at g7
    -- a new block
    have grown : ∀ ao cap cs, RepEl env ρ Z e ct.elems cs → X = .slice ao ct.count cap → cap < ct.count + q.len →
        (∀ w', w'.heap = w.heap → (Builtin.firstCells (env.sz e) ct.count X).run P w' = .ok cs.toArray w') →
        ∃ w', (execOp a.eval o).run P w = .ok (.value (.slice (some ⟨w.heap.size, 0, none⟩) (ct.count + q.len) (grownCap w (ct.count + q.len) cap e))) w' ∧
          EffOk env ρ Z u base H w ⟨some (.sw base), [(base, some ⟨.row e, ct'⟩)]⟩ (.slice (some ⟨w.heap.size, 0, none⟩) (ct.count + q.len) (grownCap w (ct.count + q.len) cap e)) w' := by
      intro ao cap cs hcs hX hlt hold
      subst hX
      have hge := grownCap_ge w (ct.count + q.len) cap e
      have hr := run_append_more (P := P) (w := w) (ty := o.type) hu hi1 hz h2 hd2 (hlen w) (by rw [hi2]; exact hfirst w.drew rfl) (by rw [hi2]; exact hold w.drew rfl) hlt (by rw [hi3]; exact hroom)
      have e1 := hrunb _ hr
      simp only [Result.andThen_ok] at e1
      refine ⟨_, e1, ?_⟩
      have hcl : cs.length = ct.count * env.sz e := by rw [hcs.len he.size, hcnt]
      have htl : (cs.toArray ++ news.toArray ++ Builtin.zeroCells z.cells (grownCap w (ct.count + q.len) cap e - (ct.count + q.len))).size = grownCap w (ct.count + q.len) cap e * env.sz e := by
        simp only [Array.size_append, List.size_toArray, size_zeroCells, hzl, hcl, hnl, ← Nat.add_mul]
        congr 1
        omega
      refine EffOk.made (t := e) (b := ⟨.row e, ct'⟩) (len := ct.count + q.len) (cs := cs.toArray ++ news.toArray ++ Builtin.zeroCells z.cells (grownCap w (ct.count + q.len) cap e - (ct.count + q.len))) hp hbase (w' := _) (o := _) rfl ⟨_, rfl, fun i hi => by simp⟩ rfl rfl rfl
        (n := (cs ++ news).length) (by rw [htl, List.length_append, hcl, hnl, ← Nat.add_mul]; exact Nat.mul_le_mul_right _ hge) ?_ hkb ?_ (by simp [AVal.keys])
      · have : (cs.toArray ++ news.toArray ++ Builtin.zeroCells z.cells (grownCap w (ct.count + q.len) cap e - (ct.count + q.len))).toList.take (cs ++ news).length = cs ++ news := by
          simp only [Array.toList_append]
          exact List.take_left
        rw [this]
        have : (∃ d, env.td e = some d) ∧ ct'.elems.length = ct.count + q.len ∧ RepEl env ρ Z e ct'.elems (cs ++ news) ∧ ct'.good := ⟨⟨_, hdd⟩, g6.symm, hjr hcs, g2⟩
        cases ct' <;> simp [Cont.isVar] at g3 <;> exact this
      · exact sw_of rfl (by omega) rfl fun _ => ⟨rfl, by simp only [htl]; omega⟩
    unfold headOf at hct
    cases s <;> try (simp at hct; done)
    · -- sw
      rename_i key
      simp only at hct
      cases hb : H key with
      | none => simp [hb] at hct
      | some b =>
        obtain ⟨root, cb⟩ := b
        cases root with
        | map => simp [hb] at hct
        | var t0 => simp [hb] at hct
        | row e' =>
          cases hee : Nat.beq e e' with
          | false => simp [hb, hee] at hct
          | true =>
            simp [hb, hee] at hct
            subst hct
            obtain rfl := beq_eq hee
            obtain ⟨r1, r2, r3, r4, ⟨cs, r5, r6, r7⟩, r8⟩ := row_rep hp hb g7
            obtain ⟨ao, cap, e2, s1, rfl, s3, s4⟩ := sw_inv hrs
            have he2 : e2 = e := by rw [r1] at s1; cases s1; rfl
            subst he2
            have hn : (ρ key).len = cb.count := by rw [hcnt, r2]
            rw [hn] at s3 hrunb grown
            have hcl : cs.length = cb.count * env.sz e2 := by rw [r5.len he.size, hcnt]
            have hkn : key ≠ base := fun h0 => hbase base ⟨Nat.le_refl _, by omega⟩ (h0 ▸ (hp.keysH key _ hb).1)
            by_cases hcap : cb.count + q.len ≤ cap
            · -- in place
              have done : ∀ w' , (execOp a.eval o).run P w = .ok (.value (.slice ao (cb.count + q.len) cap)) w' → Keeps (fun x i => x = (ρ key).block ∧ (ρ key).lo ≤ i ∧ i < (ρ key).hi) w w' →
                  (∀ i x, (cs ++ news)[i]? = some x → w'.cell? ⟨(ρ key).block, (ρ key).lo + i, none⟩ = some x) → (ρ key).lo + (cs ++ news).length ≤ (ρ key).hi → OpPost P env ρ Z u base H w K KP ((execOp a.eval o).run P w) := by
                intro w' hrun hkeep hcells hhi
                rw [hrun]
                refine ⟨_, hK, EffOk.regrow (n := cb.count + q.len) hp hbase hb hkeep ⟨r1, fun _ => ⟨cs ++ news, ?_, hcells, hhi⟩, fun _ i h1 h2 => ?_, ?_, fun h => by cases h⟩ hkb ?_ (by simp [AVal.keys])⟩
                · have : (∃ d, env.td e2 = some d) ∧ ct'.elems.length = cb.count + q.len ∧ RepEl env (ρ.put base { ρ key with len := cb.count + q.len }) Z e2 ct'.elems (cs ++ news) ∧ ct'.good := by
                    refine ⟨r4, g6.symm, (hjr r5).congr fun v hv k hk => PMap.put_other _ _ ?_, g2⟩
                    rintro rfl
                    exact hbase k ⟨Nat.le_refl _, by omega⟩ (hkb k (Cont.keys_el g2 hv hk))
                  cases ct' <;> simp [Cont.isVar] at g3 <;> exact this
                · exact ⟨hkeep.cellSome (r8 i h1 h2).1, by rw [hkeep.frozen (hp.heap.blk key _ hb).there]; exact (r8 i h1 h2).2⟩
                · exact Nat.lt_of_lt_of_le (hp.heap.blk key _ hb).there hkeep.size
                · exact sw_of r1 hcap rfl fun h => s4 h
              cases ao with
              | none =>
                have hc0 : cap = 0 := by
                  rcases Nat.eq_zero_or_pos cap with h | h
                  · exact h
                  · have := (s4 (by omega)).1; cases this
                have hq0 : q.len = 0 := by omega
                have hn0 : cb.count = 0 := by omega
                have hr := run_append_none' (P := P) (w := w) (ty := o.type) hu hi1 h2 hd2 (hlen w) (by rw [hi2]; exact hfirst w rfl) hcap
                have e1 := hrunb _ hr
                simp only [Result.andThen_ok] at e1
                have hnews : news = [] := List.eq_nil_of_length_eq_zero (by rw [hnl, hq0]; simp)
                subst hnews
                exact done w e1 (Keeps.refl _ _) (by simpa using r6) (by simpa using r7)
              | some ad =>
                by_cases hc0 : cap = 0
                · subst hc0
                  have hq0 : q.len = 0 := by omega
                  have hnews : news = [] := List.eq_nil_of_length_eq_zero (by rw [hnl, hq0]; simp)
                  subst hnews
                  have hr := run_append_room (P := P) (w := w) (ty := o.type) (ad := ad) (w' := w) hu hi1 h2 hd2 (hlen w) (by rw [hi2]; exact hfirst w rfl) hcap rfl
                  have e1 := hrunb _ hr
                  simp only [Result.andThen_ok] at e1
                  exact done w e1 (Keeps.refl _ _) (by simpa using r6) (by simpa using r7)
                · obtain ⟨had, hhi⟩ := s4 hc0
                  cases had
                  have hfit : cb.count * env.sz e2 + news.length ≤ cap * env.sz e2 := by rw [hnl, ← Nat.add_mul]; exact Nat.mul_le_mul_right _ hcap
                  have hown : ∀ j, j < news.length → (ρ key).lo ≤ (ρ key).lo + cb.count * env.sz e2 + j ∧ (ρ key).lo + cb.count * env.sz e2 + j < (ρ key).hi := fun j hj => by omega
                  have hst := run_storeCells_cells (P := P) (ρ key).block ((ρ key).lo + cb.count * env.sz e2) news 0 w (fun j hj => (r8 _ (hown j hj).1 (hown j hj).2).1) (fun j hj => (r8 _ (hown j hj).1 (hown j hj).2).2) (flat_el (hnr.toEl g4))
                  have hr := run_append_room (P := P) (w := w) (ty := o.type) (ad := ⟨(ρ key).block, (ρ key).lo, none⟩) (news := news.toArray) hu hi1 h2 hd2 (hlen w) (by rw [hi2]; exact hfirst w rfl) hcap (by rw [hi2, add_addr]; exact hst)
                  have e1 := hrunb _ hr
                  simp only [Result.andThen_ok] at e1
                  refine done _ e1 (Keeps.setCells _ _ _ _ fun j h1 h2 => ⟨rfl, by omega, by have := hown (j - ((ρ key).lo + cb.count * env.sz e2)) (by omega); omega⟩) (fun i x hx => ?_) (by simp; omega)
                  by_cases hi : i < cs.length
                  · rw [World.cell?_setCells_out _ _ _ _ _ (fun _ _ => .inl (by simp only; omega))]
                    rw [List.getElem?_append_left hi] at hx
                    exact r6 i x hx
                  · rw [List.getElem?_append_right (by omega)] at hx
                    have hj := (List.getElem?_eq_some_iff.1 hx).1
                    rw [show (ρ key).lo + i = (ρ key).lo + cb.count * env.sz e2 + 0 + (i - cs.length) by omega]
                    rw [World.cell?_setCells_in _ _ _ _ (fun j hj => by rw [Nat.add_zero]; exact (r8 _ (hown j hj).1 (hown j hj).2).1) _ hj]
                    rw [List.getElem?_eq_getElem hj] at hx; exact hx
            · -- a new block
              obtain ⟨w', hrun, heff⟩ := grown ao cap cs r5 rfl (by omega) (fun w' hw => by
                by_cases h0 : cb.count = 0
                · have : cs = [] := List.eq_nil_of_length_eq_zero (by rw [hcl, h0]; simp)
                  subst this
                  rw [h0]
                  cases ao with
                  | none => rfl
                  | some ad => simp only [Builtin.firstCells, Nat.zero_mul]; rfl
                · have hc0 : cap ≠ 0 := by omega
                  rw [(s4 hc0).1]
                  exact run_firstCells_some w' _ _ _ _ _ cs hcl (fun j c hj => by
                    rw [add_addr]
                    have := r6 j c hj
                    unfold World.cell? at *
                    rw [hw]; exact this))
              rw [hrun]
              exact ⟨_, hK, heff.dropKey hb (hp.keysH key _ hb).1 hkn⟩
    · -- nil
      rw [repV_nilsl] at hrs
      subst hrs
      have hcz := zeroRow_elems hct
      by_cases h0 : q.len = 0
      · have hr := run_append_none' (P := P) (w := w) (ty := o.type) (n := 0) (cap := 0) hu hi1 h2 hd2 (hlen w) (by rw [hi2]; exact hfirst w rfl) (by omega)
        have e1 := hrunb _ hr
        simp only [Result.andThen_ok, h0] at e1
        rw [e1]
        have hcn : ct.count = 0 := by rw [hcnt, hcz]; rfl
        exact ⟨_, hK, EffOk.empty hp hbase ⟨_, hdd⟩ (List.eq_nil_of_length_eq_zero (by omega)) g3 g2 hkb⟩
      · have hcn : ct.count = 0 := by rw [hcnt, hcz]; rfl
        obtain ⟨w', hrun, heff⟩ := grown none 0 [] (by rw [hcz]; simp [RepEl]) (by rw [hcn]) (by omega) (fun w' _ => by rw [hcn]; rfl)
        rw [hrun]
        exact ⟨_, hK, heff⟩
end
end Go.Abs

namespace Go.Abs
universe v
section
variable {P : Program} {env : Env} {C : Tab} {ρ : PMap} {Z : Zone} {u : Nat → Bool} {base : Nat} {tmps : List (Option AVal)} {H : Heap} {a : Act} {w : World} {K : Eff → Prop} {KP : AVal → List (Nat × Option Blk) → Prop}

theorem getObj_map {w : World} {r : Nat} {es : Array MapEntry} {c : Nat} (hb : w.heap[r]? = some (.map es c)) : (getObj r).run P w = .ok (.map es c) w := by simp [getObj, Sem.run, hb]

theorem sameNow_run {kt : Nat} {d : TypeDesc} (hd : P.underlying kt = some d) {x y : Value} {b : Bool} (h : Instr.sameNow d x y = some b) (w : World) : (Op.equal kt x y).run P w = .ok b w := by
  show (Op.equalIn (9999 + 1) kt x y).run P w = .ok b w
  unfold Instr.sameNow at h
  split at h
  · split at h
    · rename_i hk; cases h; subst hk; rw [run_equalIn_int w 9999 kt _ _ _ _ hd]
    · cases h
  · cases h
    rename_i a' b'
    generalize 9999 = D
    simp [Op.equalIn, run_underlying' hd]
  · cases h
    rw [run_equalIn_bool' w 9999 kt _ _ hd]
  · cases h

variable {kt vt : Nat} {kc : Codec} {f : kc.α → kc.α → Bool} {β : Type v} {V : β → AVal}

def entsOf (kc : Codec) (V : β → AVal) (l : List (kc.α × β)) : List (AVal × AVal) := l.map fun p => (kc.enc p.1, V p.2)

def foundAt (f : kc.α → kc.α → Bool) (x : kc.α) (l : List (kc.α × β)) (es : List MapEntry) (i : Nat) : Option (Nat × Value) := match hasM f x l with
  | true => (es[idxM f x l]?).map fun e => (i + idxM f x l, e.val)
  | false => none

theorem findAsking_run (hk : KeyOk P env kt kc f) {x : kc.α} {X : Value} (hX : RepV env ρ Z (kc.enc x) X) (w : World) : ∀ (l : List (kc.α × β)) (n : Nat) (es : List MapEntry) (i : Nat), RepMs env ρ Z kt vt n (entsOf kc V l) es →
    (Instr.findAsking kt X es i).run P w = .ok (foundAt f x l es i) w
  | [], n, es, i, h => by
    simp only [entsOf, List.map_nil, RepMs] at h
    subst h
    rfl
  | (b, y) :: l, n, es, i, h => by
    obtain ⟨e, es', rfl, h1, h2, h3, h4, h5, h6⟩ := h
    obtain ⟨q1, -, -⟩ := hk ρ Z x b X e.key w hX h3
    have ih := findAsking_run hk hX w l (n + 1) es' (i + 1) h6
    simp only [Instr.findAsking, Sem.run_bind, q1, Result.andThen_ok]
    cases hf : f x b with
    | true => simp [foundAt, hasM, idxM, hf]
    | false =>
      simp only [Bool.false_eq_true, if_false, ih]
      congr 1
      simp only [foundAt, hasM, idxM, hf]
      cases hasM f x l
      · rfl
      · simp only [List.getElem?_cons_succ]
        congr 1
        funext e
        rw [show i + 1 + idxM f x l = i + (idxM f x l + 1) by omega]

theorem findNow_asking {d : TypeDesc} (hd : P.underlying kt = some d) (X : Value) (w : World) : ∀ (es : List MapEntry) (i : Nat) (r : Option (Nat × Value)), Instr.findNow d X es i = some r → (Instr.findAsking kt X es i).run P w = .ok r w
  | [], i, r, h => by simp [Instr.findNow] at h; subst h; rfl
  | e :: es, i, r, h => by
    simp only [Instr.findNow] at h
    cases hs : Instr.sameNow d X e.key with
    | none => simp [hs] at h
    | some b =>
      have := sameNow_run (P := P) hd hs w
      simp only [Instr.findAsking, Sem.run_bind, this, Result.andThen_ok]
      cases b with
      | true => simp [hs] at h; subst h; rfl
      | false =>
        simp [hs] at h
        simp only [Bool.false_eq_true, if_false]
        exact findNow_asking hd X w es (i + 1) r h

theorem findKey_run (hk : KeyOk P env kt kc f) {d : TypeDesc} (hd : P.underlying kt = some d) {x : kc.α} {X : Value} (hX : RepV env ρ Z (kc.enc x) X) (w : World) {l : List (kc.α × β)} {n : Nat} {es : List MapEntry} (h : RepMs env ρ Z kt vt n (entsOf kc V l) es) :
    (Instr.findKey kt X es).run P w = .ok (foundAt f x l es 0) w := by
  have h1 := findAsking_run hk hX w l n es 0 h
  unfold Instr.findKey
  simp only [Sem.run_bind, run_underlying' hd, Result.andThen_ok]
  cases hn : Instr.findNow d X es 0 with
  | none => exact h1
  | some r =>
    have := findNow_asking (P := P) hd X w es 0 r hn
    rw [h1] at this
    simp only [Result.ok.injEq, and_true] at this
    subst this
    rfl

/-- What is found. -/
theorem found_val (hk : KeyOk P env kt kc f) : ∀ {l : List (kc.α × β)} {n : Nat} {es : List MapEntry} {x : kc.α}, RepMs env ρ Z kt vt n (entsOf kc V l) es → hasM f x l = true →
    ∃ b y e, l[idxM f x l]? = some (b, y) ∧ es[idxM f x l]? = some e ∧ f x b = true ∧ RepV env ρ Z (kc.enc b) e.key ∧ RepV env ρ Z (V y) e.val ∧ e.born = n + idxM f x l
  | [], n, es, x, h, hh => by simp [hasM] at hh
  | (b, y) :: l, n, es, x, h, hh => by
    obtain ⟨e, es', rfl, h1, h2, h3, h4, h5, h6⟩ := h
    cases hf : f x b with
    | true => exact ⟨b, y, e, by simp [idxM, hf], by simp [idxM, hf], hf, h3, h5, by simp [idxM, hf, h1]⟩
    | false =>
      simp only [hasM, hf] at hh
      obtain ⟨b', y', e', q1, q2, q3, q4, q5, q6⟩ := found_val hk h6 hh
      exact ⟨b', y', e', by simpa [idxM, hf] using q1, by simpa [idxM, hf] using q2, q3, q4, q5, by simp [idxM, hf, q6]; omega⟩

theorem findM_eq {β : Type 1} {x : kc.α} : ∀ {l : List (kc.α × β)} {b : kc.α} {y : β}, hasM f x l = true → l[idxM f x l]? = some (b, y) → findM f x l = some y
  | [], b, y, hh, _ => by simp [hasM] at hh
  | (b', y') :: l, b, y, hh, h => by
    cases hf : f x b' with
    | true => simp [idxM, hf] at h; simp [findM, hf, h.2]
    | false => simp [hasM, hf] at hh; simp [idxM, hf] at h; simp [findM, hf]; exact findM_eq hh h

theorem findM_none {β : Type 1} {x : kc.α} : ∀ {l : List (kc.α × β)}, hasM f x l = false → findM f x l = none
  | [], _ => rfl
  | (b', y') :: l, hh => by
    cases hf : f x b' with
    | true => simp [hasM, hf] at hh
    | false => simp [hasM, hf] at hh; simp [findM, hf]; exact findM_none hh

theorem getM_eq {β : Type} {x : kc.α} {d : β} : ∀ {l : List (kc.α × β)} {b : kc.α} {y : β}, hasM f x l = true → l[idxM f x l]? = some (b, y) → getM f x d l = y
  | [], b, y, hh, _ => by simp [hasM] at hh
  | (b', y') :: l, b, y, hh, h => by
    cases hf : f x b' with
    | true => simp [idxM, hf] at h; simp [getM, hf, h.2]
    | false => simp [hasM, hf] at hh; simp [idxM, hf] at h; simp [getM, hf]; exact getM_eq hh h

theorem getM_none {β : Type} {x : kc.α} {d : β} : ∀ {l : List (kc.α × β)}, hasM f x l = false → getM f x d l = d
  | [], _ => rfl
  | (b', y') :: l, hh => by
    cases hf : f x b' with
    | true => simp [hasM, hf] at hh
    | false => simp [hasM, hf] at hh; simp [getM, hf]; exact getM_none hh

theorem RepMs.length : ∀ {n : Nat} {l : List (AVal × AVal)} {es : List MapEntry}, RepMs env ρ Z kt vt n l es → es.length = l.length
  | n, [], es, h => by simp only [RepMs] at h; simp [h]
  | n, (k, v) :: l, es, h => by
    obtain ⟨e, es', rfl, h1, h2, h3, h4, h5, h6⟩ := h
    simp [h6.length]

/-- A value put at its name, in the model. -/
theorem RepMs.putHas (hk : KeyOk P env kt kc f) {X Y : Value} {x : kc.α} {y : β} (hX : RepV env ρ Z (kc.enc x) X) (hY : RepV env ρ Z (V y) Y) (hyt : HT env vt (V y)) (w : World) : ∀ {l : List (kc.α × β)} {n : Nat} {es : List MapEntry},
    RepMs env ρ Z kt vt n (entsOf kc V l) es → hasM f x l = true → RepMs env ρ Z kt vt n (entsOf kc V (putM f x y l)) (es.modify (idxM f x l) fun e => { e with key := X, val := Y })
  | [], n, es, h, hh => by simp [hasM] at hh
  | (b, y') :: l, n, es, h, hh => by
    obtain ⟨e, es', rfl, h1, h2, h3, h4, h5, h6⟩ := h
    cases hf : f x b with
    | true =>
      simp only [putM, hf, idxM, List.modify_zero_cons, entsOf, List.map_cons, RepMs]
      obtain ⟨-, q2, -⟩ := hk ρ Z x b X e.key w hX h3
      have := (q2 hf).1
      exact ⟨_, es', rfl, h1, h2, this ▸ h3, hyt, hY, h6⟩
    | false =>
      simp only [hasM, hf] at hh
      simp only [putM, hf, idxM, List.modify_succ_cons, entsOf, List.map_cons, RepMs]
      exact ⟨e, _, rfl, h1, h2, h3, h4, h5, h6.putHas hk hX hY hyt w hh⟩

theorem RepMs.putNew {X Y : Value} {x : kc.α} {y : β} (hX : RepV env ρ Z (kc.enc x) X) (hxt : HT env kt (kc.enc x)) (hY : RepV env ρ Z (V y) Y) (hyt : HT env vt (V y)) : ∀ {l : List (kc.α × β)} {n : Nat} {es : List MapEntry},
    RepMs env ρ Z kt vt n (entsOf kc V l) es → hasM f x l = false → RepMs env ρ Z kt vt n (entsOf kc V (putM f x y l)) (es ++ [{ key := X, val := Y, born := n + es.length }])
  | [], n, es, h, hh => by
    simp only [entsOf, List.map_nil, RepMs] at h
    subst h
    exact ⟨_, [], rfl, by simp, hxt, hX, hyt, hY, rfl⟩
  | (b, y') :: l, n, es, h, hh => by
    obtain ⟨e, es', rfl, h1, h2, h3, h4, h5, h6⟩ := h
    cases hf : f x b with
    | true => simp [hasM, hf] at hh
    | false =>
      simp only [hasM, hf] at hh
      simp only [putM, hf, entsOf, List.map_cons, RepMs]
      refine ⟨e, _, rfl, h1, h2, h3, h4, h5, ?_⟩
      have := h6.putNew hX hxt hY hyt hh
      rw [show n + 1 + es'.length = n + (e :: es').length by simp; omega] at this
      exact this

theorem RepMs.putAt {Y : Value} {y : β} (hY : RepV env ρ Z (V y) Y) (hyt : HT env vt (V y)) : ∀ {m : Nat} {l : List (kc.α × β)} {n : Nat} {es : List MapEntry},
    RepMs env ρ Z kt vt n (entsOf kc V l) es → RepMs env ρ Z kt vt n (entsOf kc V (putAt y m l)) (es.modify m fun e => { e with val := Y })
  | m, [], n, es, h => by
    simp only [entsOf, List.map_nil, RepMs] at h
    subst h
    cases m <;> simp [Go.Abs.putAt, entsOf, RepMs]
  | 0, (b, y') :: l, n, es, h => by
    obtain ⟨e, es', rfl, h1, h2, h3, h4, h5, h6⟩ := h
    exact ⟨_, es', rfl, h1, h2, h3, hyt, hY, h6⟩
  | m + 1, (b, y') :: l, n, es, h => by
    obtain ⟨e, es', rfl, h1, h2, h3, h4, h5, h6⟩ := h
    exact ⟨e, _, rfl, h1, h2, h3, h4, h5, RepMs.putAt hY hyt h6⟩

/-! ### the map in memory -/
theorem map_blk (hp : Pre env ρ Z u tmps H a w) {key : Nat} {c : Cont} (hb : H key = some ⟨.map kt vt, c⟩) :
    ∃ es : Array MapEntry, (ρ key).root = .map kt vt ∧ (ρ key).lo = 0 ∧ (ρ key).hi = 1 ∧ w.heap[(ρ key).block]? = some (.map es es.size) ∧ RepMs env ρ Z kt vt 0 c.ents es.toList ∧ c.good ∧ c.ofMap env kt vt := by
  have hB := hp.heap.blk key _ hb
  obtain ⟨kt', vt', es, h1, h2, h3, h4, h5, h6, h7⟩ := hB.map rfl
  cases h1
  exact ⟨es, hB.root, h2, h3, h4, h5, h6, h7⟩

theorem keyOf_inv {k : AVal} {K' : (kc.α → kc.α → Bool) → kc.α → Prop} (h : keyOf env kt kc k K') : ∃ f x, kc.eq = some f ∧ kc.dec k = some x ∧ K' f x := by
  unfold keyOf at h
  cases hf : kc.eq with
  | none => rw [hf] at h; exact h.elim
  | some f =>
    cases hx : kc.dec k with
    | none => rw [hf, hx] at h; exact h.elim
    | some x =>
      cases hc : env.codec kt with
      | none => rw [hf, hx, hc] at h; exact h.elim
      | some c => rw [hf, hx, hc] at h; exact ⟨f, x, rfl, rfl, h⟩

theorem repV_ok {ok : Bool} {v : AVal} {x : Value} {b : Bool} (h : RepV env ρ Z v x) : RepV env ρ Z (okV ok v b) (if ok then .tuple #[x, .bool b] else x) := by
  cases ok
  · exact h
  · exact repV_tup2 h

theorem keys_ok {ok : Bool} {v : AVal} {b : Bool} : (okV ok v b).keys = v.keys := by cases ok <;> simp [okV, AVal.tup, AVal.keys]

theorem und_of (he : EnvOk P env) {t : Nat} {d : TD} (h : env.td t = some d) : ∃ D, P.underlying t = some D := by
  have hu := he.und t d h
  cases d with
  | struct fs => obtain ⟨_, hu, _⟩ := hu; exact ⟨_, hu⟩
  | func => obtain ⟨_, _, _, hu⟩ := hu; exact ⟨_, hu⟩
  | iface => obtain ⟨_, hu⟩ := hu; exact ⟨_, hu⟩
  | _ => simp only [UndOk] at hu; exact ⟨_, hu⟩

/-- A map that is asked. -/
theorem run_lookup (he : EnvOk P env) {t : Nat} (ht : env.td t = some (.map kt vt)) (hkc : env.codec kt = some kc) (hf : kc.eq = some f) {x : kc.α} {X : Value} (hX : RepV env ρ Z (kc.enc x) X) {r : Nat} {es : Array MapEntry} {n c : Nat} {l : List (kc.α × β)}
    (hr : w.heap[r]? = some (.map es c)) (h : RepMs env ρ Z kt vt n (entsOf kc V l) es.toList) {z : AVal} {zv : Value} (hz : ∀ w, (zeroValue vt).run P w = .ok zv w) (ok : Bool) :
    (Instr.lookup t (.map (some r)) X ok).run P w = .ok (if ok then .tuple #[match foundAt f x l es.toList 0 with | some p => p.2 | none => zv, .bool (hasM f x l)] else match foundAt f x l es.toList 0 with | some p => p.2 | none => zv) w := by
  have hu := he.und t _ ht
  simp only [UndOk] at hu
  obtain ⟨⟨dk, hdk⟩, -⟩ := he.clo t _ ht
  obtain ⟨D, hD⟩ := und_of he hdk
  have hk := he.key kt kc f hkc hf
  obtain ⟨-, -, hck⟩ := hk ρ Z x x X X w hX hX
  have hfd := findKey_run (P := P) hk hD hX w h
  have hhas : ∀ p, foundAt f x l es.toList 0 = some p → hasM f x l = true := fun p hp => by
    unfold foundAt at hp
    cases hh : hasM f x l <;> simp [hh] at hp ⊢
  have hno : foundAt f x l es.toList 0 = none → hasM f x l = false := fun hp => by
    cases hh : hasM f x l with
    | false => rfl
    | true =>
      obtain ⟨b, y, e, _, q2, _⟩ := found_val hk h hh
      unfold foundAt at hp
      simp [hh, q2] at hp
  simp only [Instr.lookup, Sem.run_bind, run_underlying' hu, Result.andThen_ok, getObj_map hr, Sem.run_pure, hck, hfd]
  cases hfa : foundAt f x l es.toList 0 with
  | none => simp only [Sem.run_bind, hz, Result.andThen_ok, Sem.run_pure, hno hfa]
  | some p => obtain ⟨j, v⟩ := p; simp only [Sem.run_bind, Sem.run_pure, Result.andThen_ok, hhas _ hfa]

theorem run_lookup_nil (he : EnvOk P env) {t : Nat} (ht : env.td t = some (.map kt vt)) (hkc : env.codec kt = some kc) (hf : kc.eq = some f) {x : kc.α} {X : Value} (hX : RepV env ρ Z (kc.enc x) X) {zv : Value} (hz : ∀ w, (zeroValue vt).run P w = .ok zv w) (ok : Bool) :
    (Instr.lookup t (.map none) X ok).run P w = .ok (if ok then .tuple #[zv, .bool false] else zv) w := by
  have hu := he.und t _ ht
  simp only [UndOk] at hu
  obtain ⟨⟨dk, hdk⟩, -⟩ := he.clo t _ ht
  obtain ⟨D, hD⟩ := und_of he hdk
  have hk := he.key kt kc f hkc hf
  obtain ⟨-, -, hck⟩ := hk ρ Z x x X X w hX hX
  have hfd : (Instr.findKey kt X []).run P w = .ok none w := by
    unfold Instr.findKey
    simp only [Sem.run_bind, run_underlying' hD, Result.andThen_ok]
    rfl
  simp only [Instr.lookup, Sem.run_bind, run_underlying' hu, Result.andThen_ok, Sem.run_pure, hck, List.toList_toArray, hfd, hz]

theorem zero_run (he : EnvOk P env) {t : Nat} {v : AVal} (h : zeroV env 8 t = some v) : ∃ z, (∀ w, (zeroValue t).run P w = .ok z w) ∧ (∀ ρ Z, RepV env ρ Z v z) ∧ HT env t v := by
  obtain ⟨d, hd⟩ : ∃ d, env.td t = some d := by
    cases hd : env.td t with
    | none => simp [zeroV, hd] at h
    | some d => exact ⟨d, rfl⟩
  obtain ⟨i, h1, h2, h3, h4⟩ := he.info t d hd
  obtain ⟨z, h5, h6⟩ := h4 v h
  exact ⟨z, fun w => by simp [zeroValue, typeInfo, h1, h5], h6, ⟨8, he.zty t v h⟩⟩

theorem ofMap_map {kc' vc : Codec} {l : List (kc'.α × vc.α)} (h : (Cont.map kc' vc l).ofMap env kt vt) : env.codec kt = some kc' ∧ env.codec vt = some vc := ⟨h.1, h.2.1⟩

theorem op_lookup (he : EnvOk P env) (hp : Pre env ρ Z u tmps H a w) {o : Oper} {t : Nat} {mx kx : Operand} {ok : Bool} (ho : o.op = .lookup t mx kx ok)
    (h : ob (opVal tmps mx) fun m => ob (opVal tmps kx) fun k => evalLookup env H t m k ok (K1 K)) : OpPost P env ρ Z u base H w K KP ((execOp a.eval o).run P w) := by
  obtain ⟨m, hm, q1⟩ := ob_inv h
  obtain ⟨k, hk, q2⟩ := ob_inv q1
  obtain ⟨m1, m2⟩ := hp.opVal hm
  obtain ⟨k1, k2⟩ := hp.opVal hk
  unfold evalLookup at q2
  cases ht : env.td t with
  | none => rw [ht] at q2; exact q2.elim
  | some td =>
    rw [ht] at q2
    cases td <;> try exact q2.elim
    rename_i kt vt
    have fin : ∀ x v, (Instr.lookup t (a.eval mx) (a.eval kx) ok).run P w = .ok x w → RepV env ρ Z v x → (∀ k, k ∈ v.keys → known u k) → K1 K v → OpPost P env ρ Z u base H w K KP ((execOp a.eval o).run P w) := fun x v hr h1 h2 hK =>
      OpPost.val hp (by simp only [execOp, ho, Sem.run_bind, hr, Result.andThen_ok, Sem.run_pure]) hK h1 h2
    cases m <;> try exact q2.elim
    · -- a map
      rename_i key
      obtain ⟨b, hb, q3⟩ := ob_inv q2
      obtain ⟨_, em⟩ := repV_mp.1 m1
      obtain ⟨root, c⟩ := b
      cases root <;> try exact q3.elim
      rename_i kt' vt'
      cases c <;> try exact q3.elim
      · rename_i kc vc l
        obtain ⟨e1, q4⟩ := chk_inv q3
        obtain ⟨e2, q5⟩ := chk_inv q4
        obtain rfl := beq_eq e1
        obtain rfl := beq_eq e2
        obtain ⟨f, x, hf, hx, hK⟩ := keyOf_inv q5
        obtain ⟨es, r1, r2, r3, r4, r5, r6, r7⟩ := map_blk hp hb
        obtain ⟨c1, c2⟩ := ofMap_map r7
        have cod := he.cod vt vc c2
        have hX : RepV env ρ Z (kc.enc x) (a.eval kx) := by rw [(he.cod kt kc c1).dec _ _ hx]; exact k1
        obtain ⟨zv, z1, z2, z3⟩ := zero_run he cod.zero
        have hr := run_lookup (P := P) (V := vc.enc) he ht c1 hf hX r4 r5 (z := vc.enc vc.dflt) z1 ok
        rw [← em] at hr
        refine fin _ _ hr (repV_ok ?_) (fun k hk => ?_) hK
        · have hkk := he.key kt kc f c1 hf
          cases hh : hasM f x l with
          | true =>
            obtain ⟨b, y, e, p1, p2, p3, p4, p5, p6⟩ := found_val (V := vc.enc) hkk r5 hh
            rw [getM_eq hh p1]
            simp only [foundAt, hh, p2, Option.map_some]
            exact p5
          | false =>
            rw [getM_none hh]
            simp only [foundAt, hh]
            exact z2 ρ Z
        · rw [keys_ok, cod.keys] at hk; cases hk
      · rename_i kc l
        obtain ⟨e1, q4⟩ := chk_inv q3
        obtain ⟨e2, q5⟩ := chk_inv q4
        obtain rfl := beq_eq e1
        obtain rfl := beq_eq e2
        obtain ⟨f, x, hf, hx, q6⟩ := keyOf_inv q5
        obtain ⟨z, hz, hK⟩ := ob_inv q6
        obtain ⟨es, r1, r2, r3, r4, r5, r6, r7⟩ := map_blk hp hb
        have c1 := r7.1
        have hX : RepV env ρ Z (kc.enc x) (a.eval kx) := by rw [(he.cod kt kc c1).dec _ _ hx]; exact k1
        obtain ⟨zv, z1, z2, z3⟩ := zero_run he hz
        have hr := run_lookup (P := P) (V := fun v : AVal => v) he ht c1 hf hX r4 r5 (z := z) z1 ok
        rw [← em] at hr
        have hkk := he.key kt kc f c1 hf
        cases hh : hasM f x l with
        | true =>
          obtain ⟨b, y, e, p1, p2, p3, p4, p5, p6⟩ := found_val (V := fun v : AVal => v) hkk r5 hh
          rw [findM_eq hh p1] at hK
          rw [hh] at hr
          refine fin _ _ hr (repV_ok ?_) (fun k hk => ?_) hK
          · simp only [foundAt, hh, p2, Option.map_some]
            exact p5
          · rw [keys_ok] at hk
            exact (hp.keysH key _ hb).2 k ((keysM_map l k).2 ⟨(b, y), List.mem_of_getElem? p1, hk⟩)
        | false =>
          rw [findM_none hh] at hK
          rw [hh] at hr
          refine fin _ _ hr (repV_ok ?_) (fun k hk => ?_) hK
          · simp only [foundAt, hh]
            exact z2 ρ Z
          · rw [keys_ok, zeroV_keys env 8 vt z hz] at hk; cases hk
    · -- nil
      obtain ⟨kc, c1, q3⟩ := ob_inv q2
      obtain ⟨f, x, hf, hx, q4⟩ := keyOf_inv q3
      obtain ⟨z, hz, hK⟩ := ob_inv q4
      rw [repV_nilmap] at m1
      have hX : RepV env ρ Z (kc.enc x) (a.eval kx) := by rw [(he.cod kt kc c1).dec _ _ hx]; exact k1
      obtain ⟨zv, z1, z2, z3⟩ := zero_run he hz
      have hr := run_lookup_nil (P := P) (w := w) he ht c1 hf hX z1 ok
      rw [← m1] at hr
      exact fin _ _ hr (repV_ok (z2 ρ Z)) (fun k hk => by rw [keys_ok, zeroV_keys env 8 vt z hz] at hk; cases hk) hK

/-! ### a map is written -/
theorem Keeps.setMap {R : Nat → Nat → Prop} {w : World} {r : Nat} {es es' : Array MapEntry} {c c' : Nat} (hr : w.heap[r]? = some (.map es c)) (hR : R r 0) : Keeps R w { w with heap := w.heap.setIfInBounds r (.map es' c') } := by
  refine ⟨rfl, rfl, rfl, by simp, fun b o ho => ?_⟩
  by_cases hb : b = r
  · subst hb
    rw [hr] at ho; cases ho
    have hlt : b < w.heap.size := (Array.getElem?_eq_some_iff.1 hr).1
    exact ⟨.map es' c', by simp [hlt], fun h => absurd hR h⟩
  · exact ⟨o, by simp only []; rw [Array.getElem?_setIfInBounds_ne (Ne.symm hb)]; exact ho, ObjKeeps.refl _ _⟩

theorem heap_setMap {w : World} {r : Nat} {o o' : Obj} (hr : w.heap[r]? = some o) : ({ w with heap := w.heap.setIfInBounds r o' } : World).heap[r]? = some o' := by
  have hlt : r < w.heap.size := (Array.getElem?_eq_some_iff.1 hr).1
  simp [hlt]

/-- A map's block with other entries. -/
theorem EffOk.mapTurn (hp : Pre env ρ Z u tmps H a w) {key kt vt : Nat} {c c' : Cont} {es es' : Array MapEntry} {ov : Option AVal} {x : Value} (hb : H key = some ⟨.map kt vt, c⟩) (hr : w.heap[(ρ key).block]? = some (.map es es.size))
    (h : RepMs env ρ Z kt vt 0 c'.ents es'.toList) (hg : c'.good) (hm : c'.ofMap env kt vt) (hkb : ∀ k, k ∈ c'.keys → known u k) (hv : ∀ v, ov = some v → RepV env ρ Z v x ∧ ∀ k, k ∈ v.keys → known u k) :
    EffOk env ρ Z u base H w ⟨ov, [(key, some ⟨.map kt vt, c'⟩)]⟩ x { w with heap := w.heap.setIfInBounds (ρ key).block (.map es' es'.size) } := by
  have hB := hp.heap.blk key _ hb
  obtain ⟨_, _, _, h1, h2, h3, -⟩ := hB.map rfl
  have hkeep : Keeps (fun y i => y = (ρ key).block ∧ (ρ key).lo ≤ i ∧ i < (ρ key).hi) w { w with heap := w.heap.setIfInBounds (ρ key).block (.map es' es'.size) } := Keeps.setMap hr ⟨rfl, by omega, by omega⟩
  refine EffOk.turn hp hb hkeep ⟨hB.root, fun h => (by cases h), fun h => (by cases h), Nat.lt_of_lt_of_le hB.there hkeep.size, fun _ => ⟨kt, vt, es', rfl, h2, h3, heap_setMap hr, h, hg, hm⟩⟩ hkb hv

theorem keyThat {k : Nat} {x y : kc.α} {X Y : Value} (hk : KeyOk P env k kc f) (hX : RepV env ρ Z (kc.enc x) X) (hY : RepV env ρ Z (kc.enc y) Y) (hf : f x y = true) (w : World) : (Instr.keyThatStays Y X).run P w = .ok X w := by
  obtain ⟨-, q, -⟩ := hk ρ Z x y X Y w hX hY
  obtain ⟨rfl, q2⟩ := q hf
  simp [Instr.keyThatStays, q2]

theorem putM_keys {α : Type} {f : α → α → Bool} {x : α} {v : AVal} : ∀ {l : List (α × AVal)} {k : Nat}, k ∈ keysM (putM f x v l) → k ∈ keysM l ∨ k ∈ v.keys
  | [], k, h => by simp [putM, keysM] at h; exact .inr h
  | (b, y) :: l, k, h => by
    cases hf : f x b with
    | true => simp [putM, hf, keysM] at h ⊢; exact h.elim .inr fun h => .inl (.inr h)
    | false =>
      simp [putM, hf, keysM] at h ⊢
      rcases h with h | h
      · exact .inl (.inl h)
      · exact (putM_keys h).imp .inr id

theorem run_mapUpdate (he : EnvOk P env) {t : Nat} (ht : env.td t = some (.map kt vt)) (hkc : env.codec kt = some kc) (hf : kc.eq = some f) {x : kc.α} {X Y : Value} {y : β} (hX : RepV env ρ Z (kc.enc x) X) (hxt : HT env kt (kc.enc x))
    (hY : RepV env ρ Z (V y) Y) (hyt : HT env vt (V y)) {r : Nat} {es : Array MapEntry} {l : List (kc.α × β)} (hr : w.heap[r]? = some (.map es es.size)) (h : RepMs env ρ Z kt vt 0 (entsOf kc V l) es.toList) :
    ∃ es' : Array MapEntry, (Instr.mapUpdate t (.map (some r)) X Y).run P w = .ok () { w with heap := w.heap.setIfInBounds r (.map es' es'.size) } ∧ RepMs env ρ Z kt vt 0 (entsOf kc V (putM f x y l)) es'.toList := by
  have hu := he.und t _ ht
  simp only [UndOk] at hu
  obtain ⟨⟨dk, hdk⟩, -⟩ := he.clo t _ ht
  obtain ⟨D, hD⟩ := und_of he hdk
  have hk := he.key kt kc f hkc hf
  obtain ⟨-, -, hck⟩ := hk ρ Z x x X X w hX hX
  have hfd := findKey_run (P := P) hk hD hX w h
  have hset : ∀ o, (setObj r o).run P w = .ok () { w with heap := w.heap.setIfInBounds r o } := fun o => by simp [setObj, Sem.run, hr]
  cases hh : hasM f x l with
  | true =>
    obtain ⟨b, y', e, p1, p2, p3, p4, p5, p6⟩ := found_val (V := V) hk h hh
    have hfa : foundAt f x l es.toList 0 = some (idxM f x l, e.val) := by simp [foundAt, hh, p2]
    have p2' : es[idxM f x l]? = some e := by simpa using p2
    have hkt := keyThat (P := P) hk hX p4 p3 w
    refine ⟨es.modify (idxM f x l) fun e => { e with key := X, val := Y }, ?_, ?_⟩
    · simp only [Instr.mapUpdate, Sem.run_bind, run_underlying' hu, Result.andThen_ok, getObj_map hr, hck, hfd, hfa, p2', Option.map_some, Option.getD_some, hkt, hset, Array.size_modify]
    · rw [Array.toList_modify]
      exact h.putHas hk hX hY hyt w hh
  | false =>
    have hfa : foundAt f x l es.toList 0 = none := by simp [foundAt, hh]
    refine ⟨es.push { key := X, val := Y, born := es.size }, ?_, ?_⟩
    · simp only [Instr.mapUpdate, Sem.run_bind, run_underlying' hu, Result.andThen_ok, getObj_map hr, hck, hfd, hfa, hset, Array.size_push]
    · have := h.putNew hX hxt hY hyt hh
      simpa using this

theorem key_ty (he : EnvOk P env) {c : Codec} {t : Nat} (hc : env.codec t = some c) : HT env t (c.enc c.dflt) := ⟨8, (he.cod t c hc).ty⟩

theorem op_mapUpdate (he : EnvOk P env) (hp : Pre env ρ Z u tmps H a w) {o : Oper} {t : Nat} {mx kx vx : Operand} (ho : o.op = .mapUpdate t mx kx vx)
    (h : ob (opVal tmps mx) fun m => ob (opVal tmps kx) fun k => ob (opVal tmps vx) fun v => evalMapUpdate env H t m k v K) : OpPost P env ρ Z u base H w K KP ((execOp a.eval o).run P w) := by
  obtain ⟨m, hm, q1⟩ := ob_inv h
  obtain ⟨k, hk, q2⟩ := ob_inv q1
  obtain ⟨v, hv, q2⟩ := ob_inv q2
  obtain ⟨m1, m2⟩ := hp.opVal hm
  obtain ⟨k1, k2⟩ := hp.opVal hk
  obtain ⟨v1, v2⟩ := hp.opVal hv
  unfold evalMapUpdate at q2
  cases ht : env.td t with
  | none => rw [ht] at q2; exact q2.elim
  | some td =>
    rw [ht] at q2
    cases td <;> try exact q2.elim
    rename_i kt vt
    obtain ⟨hvt, q21⟩ := chk_inv q2
    obtain ⟨hkt, q22⟩ := chk_inv q21
    clear q2 q21
    cases m <;> try exact q22.elim
    rename_i key
    obtain ⟨b, hb, q3⟩ := ob_inv q22
    obtain ⟨_, em⟩ := repV_mp.1 m1
    have fin : ∀ {w' : World} {e : Eff}, (Instr.mapUpdate t (a.eval mx) (a.eval kx) (a.eval vx)).run P w = .ok () w' → K e → EffOk env ρ Z u base H w e undef w' → OpPost P env ρ Z u base H w K KP ((execOp a.eval o).run P w) := fun {w' e} hr hK he => by
      have : (execOp a.eval o).run P w = .ok .skip _ := (by simp only [execOp, ho, Sem.run_bind, hr, Result.andThen_ok, Sem.run_pure] : _ = Result.ok Next.skip w')
      rw [this]; exact ⟨_, hK, he⟩
    obtain ⟨root, c⟩ := b
    cases root <;> try exact q3.elim
    rename_i kt' vt'
    cases c <;> try exact q3.elim
    · rename_i kc vc l
      obtain ⟨e1, q4⟩ := chk_inv q3
      obtain ⟨e2, q5⟩ := chk_inv q4
      obtain rfl := beq_eq e1
      obtain rfl := beq_eq e2
      obtain ⟨f, x, hf, hx, q6⟩ := keyOf_inv q5
      obtain ⟨y, hy, hK⟩ := ob0_inv q6
      obtain ⟨es, r1, r2, r3, r4, r5, r6, r7⟩ := map_blk hp hb
      obtain ⟨c1, c2⟩ := ofMap_map r7
      have ek := (he.cod kt kc c1).dec _ _ hx
      have ev := (he.cod vt vc c2).dec _ _ hy
      obtain ⟨es', hr, hrep⟩ := run_mapUpdate (P := P) (V := vc.enc) (w := w) (X := a.eval kx) (Y := a.eval vx) (x := x) (y := y) he ht c1 hf (by rw [ek]; exact k1) (by rw [ek]; exact ⟨8, hkt⟩) (by rw [ev]; exact v1) (by rw [ev]; exact ⟨8, hvt⟩) r4 r5
      rw [← em] at hr
      exact fin hr hK (EffOk.mapTurn hp hb r4 hrep r6 r7 (fun k hk => by simp [Cont.keys] at hk) (fun v e => by cases e))
    · rename_i kc l
      obtain ⟨e1, q4⟩ := chk_inv q3
      obtain ⟨e2, q5⟩ := chk_inv q4
      obtain rfl := beq_eq e1
      obtain rfl := beq_eq e2
      obtain ⟨f, x, hf, hx, hK⟩ := keyOf_inv q5
      obtain ⟨es, r1, r2, r3, r4, r5, r6, r7⟩ := map_blk hp hb
      have c1 := r7.1
      have ek := (he.cod kt kc c1).dec _ _ hx
      obtain ⟨es', hr, hrep⟩ := run_mapUpdate (P := P) (V := fun v : AVal => v) (w := w) (X := a.eval kx) (Y := a.eval vx) (x := x) (y := v) he ht c1 hf (by rw [ek]; exact k1) (by rw [ek]; exact ⟨8, hkt⟩) v1 ⟨8, hvt⟩ r4 r5
      rw [← em] at hr
      refine fin hr hK (EffOk.mapTurn hp hb r4 hrep r6 r7 (fun k hk => ?_) (fun v e => by cases e))
      rcases putM_keys hk with h | h
      · exact (hp.keysH key _ hb).2 k h
      · exact v2 k h

theorem op_makeMap (he : EnvOk P env) (hp : Pre env ρ Z u tmps H a w) (hbase : ∀ k, inBase base k → ¬ known u k) {o : Oper} {t : Nat} (ho : o.op = .makeMap t none)
    (h : evalMakeMap env base t K) : OpPost P env ρ Z u base H w K KP ((execOp a.eval o).run P w) := by
  unfold evalMakeMap at h
  cases ht : env.td t with
  | none => rw [ht] at h; exact h.elim
  | some td =>
    rw [ht] at h
    cases td <;> try exact h.elim
    rename_i kt vt
    obtain ⟨kc, hkc, q1⟩ := ob_inv h
    have hrun : (execOp a.eval o).run P w = .ok (.value (.map (some w.heap.size))) (w.alloc (.map #[] 0)) := by
      have : ∀ w0 : World, (newObj (.map #[] 0)).run P w0 = .ok w0.heap.size (w0.alloc (.map #[] 0)) := fun _ => rfl
      simp only [execOp, ho, Option.map_none, Instr.makeMap, Sem.run_bind, Sem.run_pure, Result.andThen_ok, this]
    have fresh : ∀ c : Cont, c.ents = [] → c.keys = [] → c.good → c.ofMap env kt vt → EffOk env ρ Z u base H w ⟨some (.mp base), [(base, some ⟨.map kt vt, c⟩)]⟩ (.map (some w.heap.size)) (w.alloc (.map #[] 0)) := fun c hc hk hg hm => by
      have hkeep : ∀ R, Keeps R w (w.alloc (.map #[] 0)) := fun R => Keeps.alloc w _
      refine EffOk.fresh (pl := ⟨w.heap.size, 0, 1, .map kt vt, 0⟩) hp hbase (hkeep _) (hp.heap.later (hkeep _)) (Nat.le_refl _) ?_ (by simp [hk]) (fun i => zone_fresh hp.heap (Nat.le_refl _)) ?_ (by simp [AVal.keys])
      · refine ⟨rfl, fun h => (by cases h), fun h => (by cases h), by simp, fun _ => ⟨kt, vt, #[], rfl, rfl, rfl, by show (w.heap.push _)[w.heap.size]? = _; rw [Array.getElem?_push_size]; rfl, by rw [hc]; simp [RepMs], hg, hm⟩⟩
      · rw [repV_mp, PMap.put_same]; exact ⟨⟨_, _, rfl⟩, rfl⟩
    rw [hrun]
    have ck := he.cod kt kc hkc
    cases hf : kc.eq with
    | none => rw [hf] at q1; exact q1.elim
    | some f =>
      rw [hf] at q1
      cases hvc : env.codec vt with
      | none =>
        rw [hvc] at q1
        exact ⟨_, q1, fresh _ rfl rfl ⟨ck.dec, ck.keys⟩ ⟨hkc, by rw [hf]; simp⟩⟩
      | some vc =>
        rw [hvc] at q1
        have cv := he.cod vt vc hvc
        exact ⟨_, q1, fresh _ rfl rfl ⟨⟨ck.dec, ck.keys⟩, ⟨cv.dec, cv.keys⟩⟩ ⟨hkc, hvc, by rw [hf]; simp⟩⟩
end
end Go.Abs

namespace Go.Abs

theorem memN_iff {k : Nat} : ∀ {l : List Nat}, memN k l = true ↔ k ∈ l
  | [] => by simp [memN]
  | j :: js => by
    cases h : Nat.beq k j with
    | true => have := beq_eq h; subst this; simp [memN, h]
    | false =>
      have hne := Nat.ne_of_beq_eq_false h
      simp [memN, h, memN_iff, hne]

theorem memN_false {k : Nat} {l : List Nat} : memN k l = false ↔ k ∉ l := by
  rw [← memN_iff]; simp

theorem subN_iff {l : List Nat} : ∀ {ks : List Nat}, subN ks l = true ↔ ∀ k, k ∈ ks → k ∈ l
  | [] => by simp [subN]
  | k :: ks => by
    cases h : memN k l with
    | true => simp [subN, h, subN_iff, memN_iff.1 h]
    | false => simp only [subN, h]; simp; intro h'; exact absurd h' (memN_false.1 h)

theorem disj_iff {l : List Nat} : ∀ {ks : List Nat}, disj ks l = true ↔ ∀ k, k ∈ ks → k ∉ l
  | [] => by simp [disj]
  | k :: ks => by
    cases h : memN k l with
    | false => simp [disj, h, disj_iff, memN_false.1 h]
    | true => simp only [disj, h]; simp; intro h'; exact absurd (memN_iff.1 h) h'

theorem nodupN_iff : ∀ {ks : List Nat}, nodupN ks = true ↔ ks.Nodup
  | [] => by simp [nodupN]
  | k :: ks => by
    cases h : memN k ks with
    | false => simp [nodupN, h, nodupN_iff, memN_false.1 h]
    | true => simp [nodupN, h, memN_iff.1 h]

theorem allLt_iff {n : Nat} : ∀ {ks : List Nat}, allLt n ks = true ↔ ∀ k, k ∈ ks → k < n
  | [] => by simp [allLt]
  | k :: ks => by
    cases h : Nat.blt k n with
    | true =>
      have hlt : k < n := by simpa [Nat.blt_eq] using h
      simp [allLt, h, allLt_iff, hlt]
    | false =>
      simp only [allLt, h]
      simp
      intro h'
      have : Nat.blt k n = true := by simpa [Nat.blt_eq] using h'
      rw [h] at this; cases this

theorem nth_idx {k : Nat} : ∀ {ks : List Nat}, k ∈ ks → nthN ks (idxN k ks) = k ∧ idxN k ks < ks.length
  | [], h => by cases h
  | j :: js, h => by
    cases hb : Nat.beq k j with
    | true => have := beq_eq hb; subst this; simp [idxN, hb, nthN]
    | false =>
      have hne := Nat.ne_of_beq_eq_false hb
      have := nth_idx (k := k) (ks := js) (by simpa [hne] using h)
      simp [idxN, hb, nthN, this.1, this.2]

theorem nthN_mem : ∀ {ks : List Nat} {i : Nat}, i < ks.length → nthN ks i ∈ ks
  | [], i, h => by simp at h
  | k :: ks, 0, _ => by simp [nthN]
  | k :: ks, i + 1, h => by simp [nthN, nthN_mem (by simpa using h)]

theorem nthN_inj : ∀ {ks : List Nat} {i j : Nat}, ks.Nodup → i < ks.length → j < ks.length → nthN ks i = nthN ks j → i = j
  | [], i, j, _, h, _, _ => by simp at h
  | k :: ks, 0, 0, _, _, _, _ => rfl
  | k :: ks, 0, j + 1, hn, _, hj, h => by
    simp only [nthN] at h
    rw [List.nodup_cons] at hn
    exact absurd (h ▸ nthN_mem (by simpa using hj)) hn.1
  | k :: ks, i + 1, 0, hn, hi, _, h => by
    simp only [nthN] at h
    rw [List.nodup_cons] at hn
    exact absurd (h ▸ nthN_mem (by simpa using hi)) hn.1
  | k :: ks, i + 1, j + 1, hn, hi, hj, h => by
    simp only [nthN] at h
    rw [List.nodup_cons] at hn
    rw [nthN_inj hn.2 (by simpa using hi) (by simpa using hj) h]

theorem keysAt_mem {h : Heap} {k j : Nat} {b : Blk} : ∀ {ks : List Nat}, k ∈ ks → h k = some b → j ∈ b.c.keys → j ∈ keysAt h ks
  | [], hk, _, _ => by cases hk
  | i :: is, hk, hb, hj => by
    rw [List.mem_cons] at hk
    simp only [keysAt]
    rcases hk with rfl | hk
    · rw [hb]; simp [hj]
    · cases hi : h i with
      | none => exact keysAt_mem hk hb hj
      | some b' => simp [keysAt_mem hk hb hj]

/-! ### other names -/
theorem rename_none (r : Nat → Nat) : ∀ {v : AVal}, v.keys = [] → v.rename r = v := by
  intro v
  induction v with
  | pair a b iha ihb => intro h; simp [AVal.keys] at h; simp [AVal.rename, iha h.1, ihb h.2]
  | tcons a b iha ihb => intro h; simp [AVal.keys] at h; simp [AVal.rename, iha h.1, ihb h.2]
  | fn f a b iha ihb => intro h; simp [AVal.keys] at h; simp [AVal.rename, iha h.1, ihb h.2]
  | iface t v ih => intro h; simp [AVal.keys] at h; simp [AVal.rename, ih h]
  | ptr | sl | sw | kp | mp => intro h; simp [AVal.keys] at h
  | _ => intro _; rfl

theorem renameL_map (r : Nat → Nat) (l : List AVal) : renameL r l = l.map (AVal.rename r) := by
  induction l with
  | nil => rfl
  | cons v l ih => simp [renameL, ih]

theorem renameM_map {α : Type} (r : Nat → Nat) (l : List (α × AVal)) : renameM r l = l.map fun p => (p.1, p.2.rename r) := by
  induction l with
  | nil => rfl
  | cons p l ih => obtain ⟨a, v⟩ := p; simp [renameM, ih]

theorem keysL_rename (r : Nat → Nat) (l : List AVal) : keysL (renameL r l) = (keysL l).map r := by
  induction l with
  | nil => rfl
  | cons v l ih => simp [renameL, keysL, keys_rename, ih]

theorem keysM_rename {α : Type} (r : Nat → Nat) (l : List (α × AVal)) : keysM (renameM r l) = (keysM l).map r := by
  induction l with
  | nil => rfl
  | cons p l ih => obtain ⟨a, v⟩ := p; simp [renameM, keysM, keys_rename, ih]

theorem cont_keys_rename (r : Nat → Nat) (c : Cont) : (c.rename r).keys = c.keys.map r := by
  cases c <;> simp [Cont.rename, Cont.keys, keys_rename, keysL_rename, keysM_rename]

theorem elems_rename (r : Nat → Nat) {c : Cont} (hg : c.good) : (c.rename r).elems = c.elems.map (AVal.rename r) := by
  cases c with
  | var v => rfl
  | ints k l => simp [Cont.rename, Cont.elems, AVal.rename, Function.comp_def]
  | recs c l =>
    simp only [Cont.rename, Cont.elems, List.map_map]
    exact List.map_congr_left fun a _ => (rename_none r (hg.2 a)).symm
  | vals l => simp [Cont.rename, Cont.elems, renameL_map]
  | map => rfl
  | mapv => rfl

theorem ents_rename (r : Nat → Nat) {c : Cont} (hg : c.good) : (c.rename r).ents = c.ents.map fun p => (p.1.rename r, p.2.rename r) := by
  cases c with
  | map k v l =>
    simp only [Cont.rename, Cont.ents, List.map_map]
    exact List.map_congr_left fun a _ => by simp [rename_none r (hg.1.2 a.1), rename_none r (hg.2.2 a.2)]
  | mapv k l =>
    simp only [Cont.rename, Cont.ents, List.map_map, renameM_map]
    exact List.map_congr_left fun a _ => by simp [rename_none r (hg.2 a.1)]
  | _ => rfl

theorem good_rename (r : Nat → Nat) {c : Cont} (hg : c.good) : (c.rename r).good := by
  cases c <;> exact hg

theorem hasTy_rename (r : Nat → Nat) {env : Env} : ∀ (d t : Nat) (v : AVal), hasTy env d t (v.rename r) = hasTy env d t v := by
  have hL : ∀ {h : Nat → AVal → Bool} (fs : List Nat) (v : AVal), (∀ t v, h t (AVal.rename r v) = h t v) → hasL h fs (v.rename r) = hasL h fs v := by
    intro h fs
    induction fs with
    | nil => intro v _; cases v <;> rfl
    | cons t ts ih =>
      intro v hh
      cases v with
      | pair a b => simp only [AVal.rename, hasL, hh]; rw [ih b hh]
      | _ => rfl
  intro d
  induction d with
  | zero => intro t v; rfl
  | succ d ih =>
    intro t v
    unfold hasTy
    cases htd : env.td t with
    | none => cases v <;> rfl
    | some td =>
      cases td with
      | struct fs => exact hL fs v ih
      | arr n e =>
        simp only
        cases hte : env.td e with
        | none => cases v <;> rfl
        | some te => cases te <;> first | (cases v <;> rfl) | exact hL _ v ih
      | _ => cases v <;> rfl

theorem HT.rename (r : Nat → Nat) {env : Env} {t : Nat} {v : AVal} (h : HT env t v) : HT env t (v.rename r) :=
  let ⟨d, h⟩ := h; ⟨d, by rw [hasTy_rename]; exact h⟩

section
variable {env : Env} {ρ ρ' : PMap} {Z : Zone} {r : Nat → Nat} {w : World}

theorem RepEl.rename {e : Nat} : ∀ {l : List AVal} {cs : List Value}, RepEl env ρ Z e l cs → (∀ v, v ∈ l → ∀ k, k ∈ v.keys → ρ' (r k) = ρ k) → RepEl env ρ' Z e (l.map (AVal.rename r)) cs
  | [], _, h, _ => h
  | v :: vs, cs, h, hk => by
    obtain ⟨c1, c2, rfl, h1, h2, h3⟩ := h
    exact ⟨c1, c2, rfl, h1.rename r, h2.rename (hk v (by simp)), h3.rename fun u hu => hk u (by simp [hu])⟩

theorem RepMs.rename {kt vt : Nat} : ∀ {n : Nat} {l : List (AVal × AVal)} {es : List MapEntry}, RepMs env ρ Z kt vt n l es → (∀ p, p ∈ l → ∀ k, k ∈ p.1.keys ∨ k ∈ p.2.keys → ρ' (r k) = ρ k) →
    RepMs env ρ' Z kt vt n (l.map fun p => (p.1.rename r, p.2.rename r)) es
  | _, [], _, h, _ => h
  | n, (k, v) :: l, es, h, hk => by
    obtain ⟨e, es', rfl, h1, h2, h3, h4, h5, h6⟩ := h
    exact ⟨e, es', rfl, h1, h2.rename r, h3.rename (fun j hj => hk (k, v) (by simp) j (.inl hj)), h4.rename r, h5.rename (fun j hj => hk (k, v) (by simp) j (.inr hj)), h6.rename fun p hp => hk p (by simp [hp])⟩

theorem RepB.rename {b : Blk} {cs : List Value} {n : Nat} (h : RepB env ρ Z b cs n) (hk : ∀ k, k ∈ b.c.keys → ρ' (r k) = ρ k) : RepB env ρ' Z (b.rename r) cs n := by
  obtain ⟨root, c⟩ := b
  have row : ∀ {e}, c.good → RepEl env ρ Z e c.elems cs → RepEl env ρ' Z e (c.rename r).elems cs := fun {e} hg h => by
    rw [elems_rename r hg]
    exact h.rename fun v hv k hkv => hk k (Cont.keys_el hg hv hkv)
  cases root with
  | map => simp only [RepB] at h
  | var t =>
    cases c with
    | var v => simp only [RepB, Blk.rename, Cont.rename] at h ⊢; exact ⟨h.1.rename r, h.2.rename hk⟩
    | _ =>
      obtain ⟨m, e, h1, h2, h3, h4⟩ := h
      exact ⟨m, e, h1, (congrArg List.length (elems_rename r h4)).trans (by simpa using h2), row h4 h3, good_rename r h4⟩
  | row e =>
    cases c with
    | var v => simp only [RepB] at h
    | _ =>
      obtain ⟨h1, h2, h3, h4⟩ := h
      exact ⟨h1, (congrArg List.length (elems_rename r h4)).trans (by simpa using h2), row h4 h3, good_rename r h4⟩

theorem BlkOk.rename {pl : Place} {b : Blk} (h : BlkOk env ρ Z w pl b) (hk : ∀ k, k ∈ b.c.keys → ρ' (r k) = ρ k) : BlkOk env ρ' Z w pl (b.rename r) := by
  obtain ⟨h1, h2, h3, h4, h5⟩ := h
  refine ⟨h1, fun hm => ?_, h3, h4, fun hm => ?_⟩
  · obtain ⟨cs, g1, g2, g3⟩ := h2 hm
    exact ⟨cs, g1.rename hk, g2, g3⟩
  · obtain ⟨kt, vt, es, g1, g2, g3, g4, g5, g6, g7⟩ := h5 hm
    refine ⟨kt, vt, es, g1, g2, g3, g4, ?_, good_rename r g6, ?_⟩
    · show RepMs env ρ' Z kt vt 0 (b.c.rename r).ents es.toList
      rw [ents_rename r g6]
      exact g5.rename fun p hp k hkp => hk k (Cont.keys_ents g6 hp hkp)
    · obtain ⟨root, c⟩ := b
      cases c <;> exact g7

theorem RepVs.rename : ∀ {vs : List AVal} {xs : List Value}, RepVs env ρ Z vs xs → (∀ k, k ∈ keysL vs → ρ' (r k) = ρ k) → RepVs env ρ' Z (renameL r vs) xs
  | [], _, h, _ => h
  | v :: vs, xs, h, hk => by
    obtain ⟨x, ys, rfl, h1, h2⟩ := h
    exact ⟨x, ys, rfl, h1.rename fun k hm => hk k (by simp [keysL, hm]), h2.rename fun k hm => hk k (by simp [keysL, hm])⟩
end

/-! ### blocks in a row -/
theorem blksOf_spec {h : Heap} {r : Nat → Nat} : ∀ {ks : List Nat} {bs : List Blk}, blksOf h r ks = some bs → bs.length = ks.length ∧ ∀ i, i < ks.length → ∃ b, h (nthN ks i) = some b ∧ bs[i]? = some (b.rename r)
  | [], bs, hb => by simp [blksOf] at hb; subst hb; simp
  | k :: ks, bs, hb => by
    simp only [blksOf] at hb
    cases h1 : h k with
    | none => simp [h1] at hb
    | some b =>
      cases h2 : blksOf h r ks with
      | none => simp [h1, h2] at hb
      | some bs' =>
        simp [h1, h2] at hb; subst hb
        obtain ⟨e1, e2⟩ := blksOf_spec h2
        refine ⟨by simp [e1], fun i hi => ?_⟩
        cases i with
        | zero => exact ⟨b, h1, rfl⟩
        | succ i => simpa [nthN] using e2 i (by simpa using hi)

theorem ofBlks_spec : ∀ {bs : List Blk} {i j : Nat} {b : Blk}, ofBlks i bs j = some b ↔ i ≤ j ∧ bs[j - i]? = some b
  | [], i, j, b => by simp [ofBlks]
  | b0 :: bs, i, j, b => by
    cases h : Nat.beq j i with
    | true =>
      have := beq_eq h; subst this
      simp [ofBlks, h]
    | false =>
      have hne := Nat.ne_of_beq_eq_false h
      simp only [ofBlks, h, ofBlks_spec (bs := bs) (i := i + 1)]
      constructor
      · rintro ⟨h1, h2⟩
        refine ⟨by omega, ?_⟩
        rw [show j - i = (j - (i + 1)) + 1 by omega]; simpa using h2
      · rintro ⟨h1, h2⟩
        refine ⟨by omega, ?_⟩
        rw [show j - i = (j - (i + 1)) + 1 by omega] at h2; simpa using h2

theorem lookL_mem {h : List (Nat × Blk)} {k : Nat} {b : Blk} (hl : lookL h k = some b) : (k, b) ∈ h ∧ k ∈ fstH h := by
  induction h with
  | nil => simp [lookL] at hl
  | cons p h ih =>
    obtain ⟨j, b'⟩ := p
    cases hb : Nat.beq k j with
    | true => have := beq_eq hb; subst this; simp [lookL, hb] at hl; subst hl; simp [fstH]
    | false => simp [lookL, hb] at hl; have := ih hl; simp [fstH, this]

theorem lookL_some {h : List (Nat × Blk)} {k : Nat} (hm : k ∈ fstH h) : ∃ b, lookL h k = some b := by
  induction h with
  | nil => cases hm
  | cons p h ih =>
    obtain ⟨j, b'⟩ := p
    cases hb : Nat.beq k j with
    | true => exact ⟨b', by simp [lookL, hb]⟩
    | false =>
      have hne := Nat.ne_of_beq_eq_false hb
      obtain ⟨b, hb'⟩ := ih (by simpa [fstH, hne] using hm)
      exact ⟨b, by simp [lookL, hb, hb']⟩

theorem keysB_mem {h : List (Nat × Blk)} {k j : Nat} {b : Blk} (hl : (k, b) ∈ h) (hj : j ∈ b.c.keys) : j ∈ keysB h := by
  induction h with
  | nil => cases hl
  | cons p h ih =>
    obtain ⟨k', b'⟩ := p
    simp only [keysB, List.mem_append]
    rw [List.mem_cons] at hl
    rcases hl with e | hl
    · cases e; exact .inl hj
    · exact .inr (ih hl)

theorem updL_append (H : Heap) (a b : List (Nat × Option Blk)) : updL H (a ++ b) = updL (updL H a) b := by
  induction a generalizing H with
  | nil => rfl
  | cons p a ih => obtain ⟨k, o⟩ := p; simp [updL, ih]

/-- Blocks laid at new names. -/
theorem updL_puts {r : Nat → Nat} : ∀ {l : List (Nat × Blk)} {H : Heap} {k : Nat} {B : Blk}, (fstH l).Nodup → updL H (putsOf r l) k = some B →
    (∃ j b, lookL l j = some b ∧ k = r j ∧ B = b.rename r) ∨ ((∀ j, j ∈ fstH l → r j ≠ k) ∧ H k = some B)
  | [], H, k, B, _, h => .inr ⟨fun j hj => absurd hj (by simp [fstH]), h⟩
  | (j, b) :: l, H, k, B, hn, h => by
    simp only [fstH, List.nodup_cons] at hn
    simp only [putsOf, updL] at h
    rcases updL_puts hn.2 h with ⟨j', b', h1, h2, h3⟩ | ⟨h1, h2⟩
    · left
      refine ⟨j', b', ?_, h2, h3⟩
      have hne : j' ≠ j := by rintro rfl; exact hn.1 (lookL_mem h1).2
      simp [lookL, beq_false_of_ne hne, h1]
    · rcases upd1_inv h2 with ⟨e, e2⟩ | ⟨e, e2⟩
      · left
        cases e2
        exact ⟨j, b, by simp [lookL], e, rfl⟩
      · right
        refine ⟨fun j' hj' => ?_, e2⟩
        simp only [fstH, List.mem_cons] at hj'
        rcases hj' with rfl | hj'
        · exact fun h => e h.symm
        · exact h1 j' hj'

theorem updL_gone {h2 : List (Nat × Blk)} : ∀ {ks : List Nat} {i : Nat} {H : Heap} {k : Nat} {B : Blk}, ks.Nodup → updL H (goneOf h2 i ks) k = some B → H k = some B ∧ (k ∈ ks → ∃ b, lookL h2 (i + idxN k ks) = some b)
  | [], i, H, k, B, _, h => ⟨h, fun hk => absurd hk (by simp)⟩
  | k0 :: ks, i, H, k, B, hn, h => by
    rw [List.nodup_cons] at hn
    cases hl : lookL h2 i with
    | some b =>
      simp only [goneOf, hl] at h
      obtain ⟨h1, h3⟩ := updL_gone hn.2 h
      refine ⟨h1, fun hk => ?_⟩
      cases hb : Nat.beq k k0 with
      | true => exact ⟨b, by simp [idxN, hb, hl]⟩
      | false =>
        have hne := Nat.ne_of_beq_eq_false hb
        obtain ⟨b', hb'⟩ := h3 (by simpa [hne] using hk)
        exact ⟨b', by simp only [idxN, hb]; rw [show i + (idxN k ks + 1) = i + 1 + idxN k ks by omega]; exact hb'⟩
    | none =>
      simp only [goneOf, hl, updL] at h
      obtain ⟨h1, h3⟩ := updL_gone hn.2 h
      rcases upd1_inv h1 with ⟨_, e⟩ | ⟨hne, e⟩
      · cases e
      · refine ⟨e, fun hk => ?_⟩
        have hb := beq_false_of_ne hne
        obtain ⟨b', hb'⟩ := h3 (by simpa [hne] using hk)
        exact ⟨b', by simp only [idxN, hb]; rw [show i + (idxN k ks + 1) = i + 1 + idxN k ks by omega]; exact hb'⟩

theorem goneOf_mem {h2 : List (Nat × Blk)} : ∀ {ks : List Nat} {i k : Nat} {o : Option Blk}, (k, o) ∈ goneOf h2 i ks → k ∈ ks ∧ o = none
  | [], i, k, o, h => by simp [goneOf] at h
  | k0 :: ks, i, k, o, h => by
    simp only [goneOf] at h
    cases hl : lookL h2 i with
    | some b => rw [hl] at h; have := goneOf_mem h; simp [this]
    | none =>
      rw [hl] at h
      simp only [List.mem_cons, Prod.mk.injEq] at h
      rcases h with ⟨rfl, rfl⟩ | h
      · simp
      · have := goneOf_mem h; simp [this]

theorem putsOf_mem {r : Nat → Nat} : ∀ {l : List (Nat × Blk)} {k : Nat} {o : Option Blk}, (k, o) ∈ putsOf r l → ∃ j b, (j, b) ∈ l ∧ j ∈ fstH l ∧ k = r j ∧ o = some (b.rename r)
  | [], k, o, h => by simp [putsOf] at h
  | (j, b) :: l, k, o, h => by
    simp only [putsOf, List.mem_cons, Prod.mk.injEq] at h
    rcases h with ⟨rfl, rfl⟩ | h
    · exact ⟨j, b, by simp, by simp [fstH], rfl, rfl⟩
    · obtain ⟨j', b', h1, h2, h3⟩ := putsOf_mem h
      exact ⟨j', b', by simp [h1], by simp [fstH, h2], h3⟩
end Go.Abs
