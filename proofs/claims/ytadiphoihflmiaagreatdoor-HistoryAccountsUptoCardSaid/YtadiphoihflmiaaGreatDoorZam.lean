/- Lists of numbers of blocks; blocks under other names. A call: what a contract says in the model, and what it comes to for the caller. All operations in one. -/
import Derived.Test.YtadiphoihflmiaaGreatDoorZal
set_option linter.all false
namespace Go.Abs

theorem memN_iff {k : Nat} : ∀ {l : List Nat}, memN k l = true ↔ k ∈ l
  | [] => by simp [memN]
  | j :: js => by
    cases h : Nat.beq k j with
    | true => have := beq_eq h; subst this; simp [memN, h]
    | false =>
      have hne := Nat.ne_of_beq_eq_false h
      simp [memN, h, memN_iff, hne]

theorem memN_false {k : Nat} {l : List Nat} : memN k l = false ↔ k ∉ l := by
  rw [← memN_iff]; simp

theorem subN_iff {l : List Nat} : ∀ {ks : List Nat}, subN ks l = true ↔ ∀ k, k ∈ ks → k ∈ l
  | [] => by simp [subN]
  | k :: ks => by
    cases h : memN k l with
    | true => simp [subN, h, subN_iff, memN_iff.1 h]
    | false => simp only [subN, h]; simp; intro h'; exact absurd h' (memN_false.1 h)

theorem disj_iff {l : List Nat} : ∀ {ks : List Nat}, disj ks l = true ↔ ∀ k, k ∈ ks → k ∉ l
  | [] => by simp [disj]
  | k :: ks => by
    cases h : memN k l with
    | false => simp [disj, h, disj_iff, memN_false.1 h]
    | true => simp only [disj, h]; simp; intro h'; exact absurd (memN_iff.1 h) h'

theorem nodupN_iff : ∀ {ks : List Nat}, nodupN ks = true ↔ ks.Nodup
  | [] => by simp [nodupN]
  | k :: ks => by
    cases h : memN k ks with
    | false => simp [nodupN, h, nodupN_iff, memN_false.1 h]
    | true => simp [nodupN, h, memN_iff.1 h]

theorem allLt_iff {n : Nat} : ∀ {ks : List Nat}, allLt n ks = true ↔ ∀ k, k ∈ ks → k < n
  | [] => by simp [allLt]
  | k :: ks => by
    cases h : Nat.blt k n with
    | true =>
      have hlt : k < n := by simpa [Nat.blt_eq] using h
      simp [allLt, h, allLt_iff, hlt]
    | false =>
      simp only [allLt, h]
      simp
      intro h'
      have : Nat.blt k n = true := by simpa [Nat.blt_eq] using h'
      rw [h] at this; cases this

theorem nth_idx {k : Nat} : ∀ {ks : List Nat}, k ∈ ks → nthN ks (idxN k ks) = k ∧ idxN k ks < ks.length
  | [], h => by cases h
  | j :: js, h => by
    cases hb : Nat.beq k j with
    | true => have := beq_eq hb; subst this; simp [idxN, hb, nthN]
    | false =>
      have hne := Nat.ne_of_beq_eq_false hb
      have := nth_idx (k := k) (ks := js) (by simpa [hne] using h)
      simp [idxN, hb, nthN, this.1, this.2]

theorem nthN_mem : ∀ {ks : List Nat} {i : Nat}, i < ks.length → nthN ks i ∈ ks
  | [], i, h => by simp at h
  | k :: ks, 0, _ => by simp [nthN]
  | k :: ks, i + 1, h => by simp [nthN, nthN_mem (by simpa using h)]

theorem nthN_inj : ∀ {ks : List Nat} {i j : Nat}, ks.Nodup → i < ks.length → j < ks.length → nthN ks i = nthN ks j → i = j
  | [], i, j, _, h, _, _ => by simp at h
  | k :: ks, 0, 0, _, _, _, _ => rfl
  | k :: ks, 0, j + 1, hn, _, hj, h => by
    simp only [nthN] at h
    rw [List.nodup_cons] at hn
    exact absurd (h ▸ nthN_mem (by simpa using hj)) hn.1
  | k :: ks, i + 1, 0, hn, hi, _, h => by
    simp only [nthN] at h
    rw [List.nodup_cons] at hn
    exact absurd (h ▸ nthN_mem (by simpa using hi)) hn.1
  | k :: ks, i + 1, j + 1, hn, hi, hj, h => by
    simp only [nthN] at h
    rw [List.nodup_cons] at hn
    rw [nthN_inj hn.2 (by simpa using hi) (by simpa using hj) h]

theorem keysAt_mem {h : Heap} {k j : Nat} {b : Blk} : ∀ {ks : List Nat}, k ∈ ks → h k = some b → j ∈ b.c.keys → j ∈ keysAt h ks
  | [], hk, _, _ => by cases hk
  | i :: is, hk, hb, hj => by
    rw [List.mem_cons] at hk
    simp only [keysAt]
    rcases hk with rfl | hk
    · rw [hb]; simp [hj]
    · cases hi : h i with
      | none => exact keysAt_mem hk hb hj
      | some b' => simp [keysAt_mem hk hb hj]

/-! ### other names -/
theorem rename_none (r : Nat → Nat) : ∀ {v : AVal}, v.keys = [] → v.rename r = v := by
  intro v
  induction v with
  | pair a b iha ihb => intro h; simp [AVal.keys] at h; simp [AVal.rename, iha h.1, ihb h.2]
  | tcons a b iha ihb => intro h; simp [AVal.keys] at h; simp [AVal.rename, iha h.1, ihb h.2]
  | fn f a b iha ihb => intro h; simp [AVal.keys] at h; simp [AVal.rename, iha h.1, ihb h.2]
  | iface t v ih => intro h; simp [AVal.keys] at h; simp [AVal.rename, ih h]
  | ptr | sl | sw | kp | mp => intro h; simp [AVal.keys] at h
  | _ => intro _; rfl

theorem renameL_map (r : Nat → Nat) (l : List AVal) : renameL r l = l.map (AVal.rename r) := by
  induction l with
  | nil => rfl
  | cons v l ih => simp [renameL, ih]

theorem renameM_map {α : Type} (r : Nat → Nat) (l : List (α × AVal)) : renameM r l = l.map fun p => (p.1, p.2.rename r) := by
  induction l with
  | nil => rfl
  | cons p l ih => obtain ⟨a, v⟩ := p; simp [renameM, ih]

theorem keysL_rename (r : Nat → Nat) (l : List AVal) : keysL (renameL r l) = (keysL l).map r := by
  induction l with
  | nil => rfl
  | cons v l ih => simp [renameL, keysL, keys_rename, ih]

theorem keysM_rename {α : Type} (r : Nat → Nat) (l : List (α × AVal)) : keysM (renameM r l) = (keysM l).map r := by
  induction l with
  | nil => rfl
  | cons p l ih => obtain ⟨a, v⟩ := p; simp [renameM, keysM, keys_rename, ih]

theorem cont_keys_rename (r : Nat → Nat) (c : Cont) : (c.rename r).keys = c.keys.map r := by
  cases c <;> simp [Cont.rename, Cont.keys, keys_rename, keysL_rename, keysM_rename]

theorem elems_rename (r : Nat → Nat) {c : Cont} (hg : c.good) : (c.rename r).elems = c.elems.map (AVal.rename r) := by
  cases c with
  | var v => rfl
  | ints k l => simp [Cont.rename, Cont.elems, AVal.rename, Function.comp_def]
  | recs c l =>
    simp only [Cont.rename, Cont.elems, List.map_map]
    exact List.map_congr_left fun a _ => (rename_none r (hg.2.1 a)).symm
  | vals l => simp [Cont.rename, Cont.elems, renameL_map]
  | map => rfl
  | mapv => rfl

theorem ents_rename (r : Nat → Nat) {c : Cont} (hg : c.good) : (c.rename r).ents = c.ents.map fun p => (p.1.rename r, p.2.rename r) := by
  cases c with
  | map k v l =>
    simp only [Cont.rename, Cont.ents, List.map_map]
    exact List.map_congr_left fun a _ => by simp [rename_none r (hg.1.2 a.1), rename_none r (hg.2.2 a.2)]
  | mapv k l =>
    simp only [Cont.rename, Cont.ents, List.map_map, renameM_map]
    exact List.map_congr_left fun a _ => by simp [rename_none r (hg.2 a.1)]
  | _ => rfl

theorem good_rename (r : Nat → Nat) {c : Cont} (hg : c.good) : (c.rename r).good := by
  cases c <;> exact hg

theorem hasTy_rename (r : Nat → Nat) {env : Env} : ∀ (d t : Nat) (v : AVal), hasTy env d t (v.rename r) = hasTy env d t v := by
  have hL : ∀ {h : Nat → AVal → Bool} (fs : List Nat) (v : AVal), (∀ t v, h t (AVal.rename r v) = h t v) → hasL h fs (v.rename r) = hasL h fs v := by
    intro h fs
    induction fs with
    | nil => intro v _; cases v <;> rfl
    | cons t ts ih =>
      intro v hh
      cases v with
      | pair a b => simp only [AVal.rename, hasL, hh]; rw [ih b hh]
      | _ => rfl
  intro d
  induction d with
  | zero => intro t v; rfl
  | succ d ih =>
    intro t v
    unfold hasTy
    cases htd : env.td t with
    | none => cases v <;> rfl
    | some td =>
      cases td with
      | struct fs => exact hL fs v ih
      | arr n e =>
        simp only
        cases hte : env.td e with
        | none => cases v <;> rfl
        | some te => cases te <;> first | (cases v <;> rfl) | exact hL _ v ih
      | _ => cases v <;> rfl

theorem HT.rename (r : Nat → Nat) {env : Env} {t : Nat} {v : AVal} (h : HT env t v) : HT env t (v.rename r) :=
  let ⟨d, h⟩ := h; ⟨d, by rw [hasTy_rename]; exact h⟩

section
variable {env : Env} {ρ ρ' : PMap} {Z : Zone} {r : Nat → Nat} {w : World}

theorem RepEl.rename {e : Nat} : ∀ {l : List AVal} {cs : List Value}, RepEl env ρ Z e l cs → (∀ v, v ∈ l → ∀ k, k ∈ v.keys → ρ' (r k) = ρ k) → RepEl env ρ' Z e (l.map (AVal.rename r)) cs
  | [], _, h, _ => h
  | v :: vs, cs, h, hk => by
    obtain ⟨c1, c2, rfl, h1, h2, h3⟩ := h
    exact ⟨c1, c2, rfl, h1.rename r, h2.rename (hk v (by simp)), h3.rename fun u hu => hk u (by simp [hu])⟩

theorem RepMs.rename {kt vt : Nat} : ∀ {n : Nat} {l : List (AVal × AVal)} {es : List MapEntry}, RepMs env ρ Z kt vt n l es → (∀ p, p ∈ l → ∀ k, k ∈ p.1.keys ∨ k ∈ p.2.keys → ρ' (r k) = ρ k) →
    RepMs env ρ' Z kt vt n (l.map fun p => (p.1.rename r, p.2.rename r)) es
  | _, [], _, h, _ => h
  | n, (k, v) :: l, es, h, hk => by
    obtain ⟨e, es', rfl, h1, h2, h3, h4, h5, h6⟩ := h
    exact ⟨e, es', rfl, h1, h2.rename r, h3.rename (fun j hj => hk (k, v) (by simp) j (.inl hj)), h4.rename r, h5.rename (fun j hj => hk (k, v) (by simp) j (.inr hj)), h6.rename fun p hp => hk p (by simp [hp])⟩

theorem RepB.rename {b : Blk} {cs : List Value} {n : Nat} (h : RepB env ρ Z b cs n) (hk : ∀ k, k ∈ b.c.keys → ρ' (r k) = ρ k) : RepB env ρ' Z (b.rename r) cs n := by
  obtain ⟨root, c⟩ := b
  have row : ∀ {e}, c.good → RepEl env ρ Z e c.elems cs → RepEl env ρ' Z e (c.rename r).elems cs := fun {e} hg h => by
    rw [elems_rename r hg]
    exact h.rename fun v hv k hkv => hk k (Cont.keys_el hg hv hkv)
  cases root with
  | map => simp only [RepB] at h
  | var t =>
    cases c with
    | var v => simp only [RepB, Blk.rename, Cont.rename] at h ⊢; exact ⟨h.1.rename r, h.2.rename hk⟩
    | _ =>
      obtain ⟨m, e, h1, h2, h3, h4⟩ := h
      exact ⟨m, e, h1, (congrArg List.length (elems_rename r h4)).trans (by simpa using h2), row h4 h3, good_rename r h4⟩
  | row e =>
    cases c with
    | var v => simp only [RepB] at h
    | _ =>
      obtain ⟨h1, h2, h3, h4⟩ := h
      exact ⟨h1, (congrArg List.length (elems_rename r h4)).trans (by simpa using h2), row h4 h3, good_rename r h4⟩

theorem BlkOk.rename {pl : Place} {b : Blk} (h : BlkOk env ρ Z w pl b) (hk : ∀ k, k ∈ b.c.keys → ρ' (r k) = ρ k) : BlkOk env ρ' Z w pl (b.rename r) := by
  obtain ⟨h1, h2, h3, h4, h5⟩ := h
  refine ⟨h1, fun hm => ?_, h3, h4, fun hm => ?_⟩
  · obtain ⟨cs, g1, g2, g3⟩ := h2 hm
    exact ⟨cs, g1.rename hk, g2, g3⟩
  · obtain ⟨kt, vt, es, g1, g2, g3, g4, g5, g6, g7⟩ := h5 hm
    refine ⟨kt, vt, es, g1, g2, g3, g4, ?_, good_rename r g6, ?_⟩
    · show RepMs env ρ' Z kt vt 0 (b.c.rename r).ents es.toList
      rw [ents_rename r g6]
      exact g5.rename fun p hp k hkp => hk k (Cont.keys_ents g6 hp hkp)
    · obtain ⟨root, c⟩ := b
      cases c <;> exact g7

theorem RepVs.rename : ∀ {vs : List AVal} {xs : List Value}, RepVs env ρ Z vs xs → (∀ k, k ∈ keysL vs → ρ' (r k) = ρ k) → RepVs env ρ' Z (renameL r vs) xs
  | [], _, h, _ => h
  | v :: vs, xs, h, hk => by
    obtain ⟨x, ys, rfl, h1, h2⟩ := h
    exact ⟨x, ys, rfl, h1.rename fun k hm => hk k (by simp [keysL, hm]), h2.rename fun k hm => hk k (by simp [keysL, hm])⟩
end

/-! ### blocks in a row -/
theorem blksOf_spec {h : Heap} {r : Nat → Nat} : ∀ {ks : List Nat} {bs : List Blk}, blksOf h r ks = some bs → bs.length = ks.length ∧ ∀ i, i < ks.length → ∃ b, h (nthN ks i) = some b ∧ bs[i]? = some (b.rename r)
  | [], bs, hb => by simp [blksOf] at hb; subst hb; simp
  | k :: ks, bs, hb => by
    simp only [blksOf] at hb
    cases h1 : h k with
    | none => simp [h1] at hb
    | some b =>
      cases h2 : blksOf h r ks with
      | none => simp [h1, h2] at hb
      | some bs' =>
        simp [h1, h2] at hb; subst hb
        obtain ⟨e1, e2⟩ := blksOf_spec h2
        refine ⟨by simp [e1], fun i hi => ?_⟩
        cases i with
        | zero => exact ⟨b, h1, rfl⟩
        | succ i => simpa [nthN] using e2 i (by simpa using hi)

theorem ofBlks_spec : ∀ {bs : List Blk} {i j : Nat} {b : Blk}, ofBlks i bs j = some b ↔ i ≤ j ∧ bs[j - i]? = some b
  | [], i, j, b => by simp [ofBlks]
  | b0 :: bs, i, j, b => by
    cases h : Nat.beq j i with
    | true =>
      have := beq_eq h; subst this
      simp [ofBlks, h]
    | false =>
      have hne := Nat.ne_of_beq_eq_false h
      simp only [ofBlks, h, ofBlks_spec (bs := bs) (i := i + 1)]
      constructor
      · rintro ⟨h1, h2⟩
        refine ⟨by omega, ?_⟩
        rw [show j - i = (j - (i + 1)) + 1 by omega]; simpa using h2
      · rintro ⟨h1, h2⟩
        refine ⟨by omega, ?_⟩
        rw [show j - i = (j - (i + 1)) + 1 by omega] at h2; simpa using h2

theorem lookL_mem {h : List (Nat × Blk)} {k : Nat} {b : Blk} (hl : lookL h k = some b) : (k, b) ∈ h ∧ k ∈ fstH h := by
  induction h with
  | nil => simp [lookL] at hl
  | cons p h ih =>
    obtain ⟨j, b'⟩ := p
    cases hb : Nat.beq k j with
    | true => have := beq_eq hb; subst this; simp [lookL, hb] at hl; subst hl; simp [fstH]
    | false => simp [lookL, hb] at hl; have := ih hl; simp [fstH, this]

theorem lookL_some {h : List (Nat × Blk)} {k : Nat} (hm : k ∈ fstH h) : ∃ b, lookL h k = some b := by
  induction h with
  | nil => cases hm
  | cons p h ih =>
    obtain ⟨j, b'⟩ := p
    cases hb : Nat.beq k j with
    | true => exact ⟨b', by simp [lookL, hb]⟩
    | false =>
      have hne := Nat.ne_of_beq_eq_false hb
      obtain ⟨b, hb'⟩ := ih (by simpa [fstH, hne] using hm)
      exact ⟨b, by simp [lookL, hb, hb']⟩

theorem keysB_mem {h : List (Nat × Blk)} {k j : Nat} {b : Blk} (hl : (k, b) ∈ h) (hj : j ∈ b.c.keys) : j ∈ keysB h := by
  induction h with
  | nil => cases hl
  | cons p h ih =>
    obtain ⟨k', b'⟩ := p
    simp only [keysB, List.mem_append]
    rw [List.mem_cons] at hl
    rcases hl with e | hl
    · cases e; exact .inl hj
    · exact .inr (ih hl)

theorem updL_append (H : Heap) (a b : List (Nat × Option Blk)) : updL H (a ++ b) = updL (updL H a) b := by
  induction a generalizing H with
  | nil => rfl
  | cons p a ih => obtain ⟨k, o⟩ := p; simp [updL, ih]

/-- Blocks laid at new names. -/
theorem updL_puts {r : Nat → Nat} : ∀ {l : List (Nat × Blk)} {H : Heap} {k : Nat} {B : Blk}, (fstH l).Nodup → updL H (putsOf r l) k = some B →
    (∃ j b, lookL l j = some b ∧ k = r j ∧ B = b.rename r) ∨ ((∀ j, j ∈ fstH l → r j ≠ k) ∧ H k = some B)
  | [], H, k, B, _, h => .inr ⟨fun j hj => absurd hj (by simp [fstH]), h⟩
  | (j, b) :: l, H, k, B, hn, h => by
    simp only [fstH, List.nodup_cons] at hn
    simp only [putsOf, updL] at h
    rcases updL_puts hn.2 h with ⟨j', b', h1, h2, h3⟩ | ⟨h1, h2⟩
    · left
      refine ⟨j', b', ?_, h2, h3⟩
      have hne : j' ≠ j := by rintro rfl; exact hn.1 (lookL_mem h1).2
      simp [lookL, beq_false_of_ne hne, h1]
    · rcases upd1_inv h2 with ⟨e, e2⟩ | ⟨e, e2⟩
      · left
        cases e2
        exact ⟨j, b, by simp [lookL], e, rfl⟩
      · right
        refine ⟨fun j' hj' => ?_, e2⟩
        simp only [fstH, List.mem_cons] at hj'
        rcases hj' with rfl | hj'
        · exact fun h => e h.symm
        · exact h1 j' hj'

theorem updL_gone {h2 : List (Nat × Blk)} : ∀ {ks : List Nat} {i : Nat} {H : Heap} {k : Nat} {B : Blk}, ks.Nodup → updL H (goneOf h2 i ks) k = some B → H k = some B ∧ (k ∈ ks → ∃ b, lookL h2 (i + idxN k ks) = some b)
  | [], i, H, k, B, _, h => ⟨h, fun hk => absurd hk (by simp)⟩
  | k0 :: ks, i, H, k, B, hn, h => by
    rw [List.nodup_cons] at hn
    cases hl : lookL h2 i with
    | some b =>
      simp only [goneOf, hl] at h
      obtain ⟨h1, h3⟩ := updL_gone hn.2 h
      refine ⟨h1, fun hk => ?_⟩
      cases hb : Nat.beq k k0 with
      | true => exact ⟨b, by simp [idxN, hb, hl]⟩
      | false =>
        have hne := Nat.ne_of_beq_eq_false hb
        obtain ⟨b', hb'⟩ := h3 (by simpa [hne] using hk)
        exact ⟨b', by simp only [idxN, hb]; rw [show i + (idxN k ks + 1) = i + 1 + idxN k ks by omega]; exact hb'⟩
    | none =>
      simp only [goneOf, hl, updL] at h
      obtain ⟨h1, h3⟩ := updL_gone hn.2 h
      rcases upd1_inv h1 with ⟨_, e⟩ | ⟨hne, e⟩
      · cases e
      · refine ⟨e, fun hk => ?_⟩
        have hb := beq_false_of_ne hne
        obtain ⟨b', hb'⟩ := h3 (by simpa [hne] using hk)
        exact ⟨b', by simp only [idxN, hb]; rw [show i + (idxN k ks + 1) = i + 1 + idxN k ks by omega]; exact hb'⟩

theorem goneOf_mem {h2 : List (Nat × Blk)} : ∀ {ks : List Nat} {i k : Nat} {o : Option Blk}, (k, o) ∈ goneOf h2 i ks → k ∈ ks ∧ o = none
  | [], i, k, o, h => by simp [goneOf] at h
  | k0 :: ks, i, k, o, h => by
    simp only [goneOf] at h
    cases hl : lookL h2 i with
    | some b => rw [hl] at h; have := goneOf_mem h; simp [this]
    | none =>
      rw [hl] at h
      simp only [List.mem_cons, Prod.mk.injEq] at h
      rcases h with ⟨rfl, rfl⟩ | h
      · simp
      · have := goneOf_mem h; simp [this]

theorem putsOf_mem {r : Nat → Nat} : ∀ {l : List (Nat × Blk)} {k : Nat} {o : Option Blk}, (k, o) ∈ putsOf r l → ∃ j b, (j, b) ∈ l ∧ j ∈ fstH l ∧ k = r j ∧ o = some (b.rename r)
  | [], k, o, h => by simp [putsOf] at h
  | (j, b) :: l, k, o, h => by
    simp only [putsOf, List.mem_cons, Prod.mk.injEq] at h
    rcases h with ⟨rfl, rfl⟩ | h
    · exact ⟨j, b, by simp, by simp [fstH], rfl, rfl⟩
    · obtain ⟨j', b', h1, h2, h3⟩ := putsOf_mem h
      exact ⟨j', b', by simp [h1], by simp [fstH, h2], h3⟩
end Go.Abs

namespace Go.Abs

/-! ### one outcome -/
/-- What goes on with an outcome goes on with one, and that one serves whatever follows. -/
def Det {α : Type 1} (F : (α → Prop) → Prop) : Prop := ∀ K, F K → ∃ a, K a ∧ ∀ K', K' a → F K'

structure Out : Type 1 where
  v : AVal
  h : List (Nat × Blk)

/-- What a call leaves. -/
structure ResOk (env : Env) (ρ ρ' : PMap) (Z : Zone) (n : Nat) (w : World) (H0 : Heap) (v : AVal) (h2 : List (Nat × Blk)) (x : Value) (w' : World) : Prop where
  val : RepV env ρ' Z v x
  heap : HeapOk env ρ' Z w' (lookL h2)
  old : ∀ k, k < n → ρ' k = ρ k
  keep : Keeps (inReg ρ H0) w w'
  reg : ∀ k b, lookL h2 k = some b → ∀ i, (ρ' k).lo ≤ i → i < (ρ' k).hi → w.heap.size ≤ (ρ' k).block ∨ inReg ρ H0 (ρ' k).block i

def CallPost (P : Program) (R : Value → World → Prop) : Result Next → Prop
  | .ok (.enter g args) w1 => Calls P g args w1 fun en w' => ∃ x, en = .returned x ∧ R x w'
  | .ok (.value x) w' => R x w'
  | _ => False

theorem CallPost.mono {P : Program} {R R' : Value → World → Prop} (h : ∀ x w, R x w → R' x w) : ∀ {r : Result Next}, CallPost P R r → CallPost P R' r
  | .ok (.enter g args) w1, hr => Calls.mono hr fun en w' ⟨x, e, hx⟩ => ⟨x, e, h _ _ hx⟩
  | .ok (.value x) w', hr => h _ _ hr

structure CtrOk (P : Program) (env : Env) (f : Nat) (c : Ctr) : Prop where
  run : ∀ {ρ : PMap} {Z : Zone} {w : World} {us : List AVal} {bs : List Blk} {xs : Array Value} {K : AVal → List (Nat × Blk) → Prop}, HeapOk env ρ Z w (ofBlks 0 bs) → RepVs env ρ Z us xs.toList → (∀ k, k ∈ keysL us → k < bs.length) →
    (∀ i b, ofBlks 0 bs i = some b → ∀ k, k ∈ b.c.keys → k < bs.length) → c.run us bs K →
    CallPost P (fun x w' => ∃ v h2 Z' ρ', K v h2 ∧ Grow (inReg ρ (ofBlks 0 bs)) w Z Z' ∧ ResOk env ρ ρ' Z' bs.length w (ofBlks 0 bs) v h2 x w') ((callFunc f xs).run P w)
  det : ∀ us bs, Det fun (K : Out → Prop) => c.run us bs fun v h => K ⟨v, h⟩

section
variable {P : Program} {env : Env} {C : Tab} {ρ : PMap} {Z : Zone} {u : Nat → Bool} {base : Nat} {tmps : List (Option AVal)} {H : Heap} {a : Act} {w : World} {K : Eff → Prop}

theorem call_sound {f : Nat} {c : Ctr} (hC : CtrOk P env f c) (hp : Pre env ρ Z u tmps H a w) (hbase : ∀ k, inBase base k → ¬ known u k) {us : List AVal} {xs : Array Value} (hx : RepVs env ρ Z us xs.toList) (hku : ∀ k, k ∈ keysL us → known u k)
    (h : callBase c base H us fun v upd => K ⟨some v, upd⟩) : CallPost P (fun x w' => ∃ e, K e ∧ EffOk env ρ Z u base H w e x w') ((callFunc f xs).run P w) := by
  unfold callBase at h
  generalize hks : reach H 512 (keysL us) [] = ks at h
  clear hks
  obtain ⟨h1, h⟩ := chk_inv h
  obtain ⟨h2, h⟩ := chk_inv h
  obtain ⟨h3, h⟩ := chk_inv h
  obtain ⟨bs, h4, h⟩ := ob_inv h
  have hnd := nodupN_iff.1 h1
  have hsub := subN_iff.1 h2
  have hsubH := subN_iff.1 h3
  obtain ⟨hbl, hbs⟩ := blksOf_spec h4
  -- the places, by the callee's numbers
  have hblk : ∀ i B, ofBlks 0 bs i = some B → i < ks.length ∧ ∃ b, H (nthN ks i) = some b ∧ B = b.rename fun k => idxN k ks := fun i B hB => by
    have hB := (ofBlks_spec.1 hB).2
    simp only [Nat.sub_zero] at hB
    have hi : i < ks.length := by rw [← hbl]; exact (List.getElem?_eq_some_iff.1 hB).1
    obtain ⟨b, g1, g2⟩ := hbs i hi
    rw [g2] at hB; cases hB
    exact ⟨hi, b, g1, rfl⟩
  have hkH : ∀ i b k, i < ks.length → H (nthN ks i) = some b → k ∈ b.c.keys → k ∈ ks := fun i b k hi hb hk => hsubH k (keysAt_mem (nthN_mem hi) hb hk)
  have hknown : ∀ k, k ∈ ks → ∃ b, H k = some b := fun k hk => by
    obtain ⟨e1, e2⟩ := nth_idx hk
    obtain ⟨b, g1, _⟩ := hbs _ e2
    rw [e1] at g1; exact ⟨b, g1⟩
  have hkk : ∀ k, k ∈ ks → known u k := fun k hk => let ⟨b, hb⟩ := hknown k hk; (hp.keysH k b hb).1
  have hH0 : HeapOk env (fun i => ρ (nthN ks i)) Z w (ofBlks 0 bs) := by
    refine ⟨fun i B hB => ?_, fun i j B B' hne hB hB' => ?_, fun i B hB => ?_, hp.heap.zone, hp.heap.pos, hp.heap.gok⟩
    · obtain ⟨hi, b, g1, rfl⟩ := hblk i B hB
      exact (hp.heap.blk _ b g1).rename fun k hk => by
        show ρ (nthN ks (idxN k ks)) = ρ k
        rw [(nth_idx (hkH i b k hi g1 hk)).1]
    · obtain ⟨hi, b, g1, rfl⟩ := hblk i B hB
      obtain ⟨hj, b', g2, rfl⟩ := hblk j B' hB'
      exact hp.heap.dis _ _ b b' (fun e => hne (nthN_inj hnd hi hj e)) g1 g2
    · obtain ⟨hi, b, g1, rfl⟩ := hblk i B hB
      exact hp.heap.zdis _ b g1
  have hus : RepVs env (fun i => ρ (nthN ks i)) Z (renameL (fun k => idxN k ks) us) xs.toList := hx.rename fun k hk => by
    show ρ (nthN ks (idxN k ks)) = ρ k
    rw [(nth_idx (hsub k hk)).1]
  have hlt : ∀ k, k ∈ keysL (renameL (fun k => idxN k ks) us) → k < bs.length := fun k hk => by
    rw [keysL_rename, List.mem_map] at hk
    obtain ⟨j, hj, rfl⟩ := hk
    rw [hbl]; exact (nth_idx (hsub j hj)).2
  have hltH : ∀ i B, ofBlks 0 bs i = some B → ∀ k, k ∈ B.c.keys → k < bs.length := fun i B hB k hk => by
    obtain ⟨hi, b, g1, rfl⟩ := hblk i B hB
    simp only [Blk.rename, cont_keys_rename, List.mem_map] at hk
    obtain ⟨j, hj, rfl⟩ := hk
    rw [hbl]; exact (nth_idx (hkH i b j hi g1 hj)).2
  refine (hC.run hH0 hus hlt hltH h).mono ?_
  rintro x w' ⟨v, l2, Z', ρ', hK, hgr, hr⟩
  obtain ⟨k1, hK⟩ := chk_inv hK
  obtain ⟨k2, hK⟩ := chk_inv hK
  obtain ⟨k3, hK⟩ := chk_inv hK
  obtain ⟨k4, hK⟩ := chk_inv hK
  have k1 := nodupN_iff.1 k1
  have k2 := allLt_iff.1 k2
  have k3 := allLt_iff.1 k3
  have k4 := allLt_iff.1 k4
  refine ⟨_, hK, ?_⟩
  clear hK h
  -- the places, by the caller's
  have hc : ∃ ρc : PMap, (∀ k, ¬ inBase base k → ρc k = ρ k) ∧ ∀ k, base ≤ k → k < base + 256 → ρc k = ρ' (ks.length + (k - base)) := by
    classical
    refine ⟨fun k => if base ≤ k ∧ k < base + 256 then ρ' (ks.length + (k - base)) else ρ k, fun k hk => if_neg hk, fun k h1 h2 => if_pos ⟨h1, h2⟩⟩
  obtain ⟨ρc, rc1, rc2⟩ := hc
  have nb : ∀ k, known u k → ¬ inBase base k := fun k hk hb => hbase k hb hk
  have back1 : ∀ j, j < ks.length → backOf ks ks.length base j = nthN ks j := fun j hj => by
    have : Nat.blt j ks.length = true := by simpa [Nat.blt_eq] using hj
    simp [backOf, this]
  have back2 : ∀ j, ¬ j < ks.length → backOf ks ks.length base j = base + (j - ks.length) := fun j hj => by
    have : Nat.blt j ks.length = false := by
      cases hb : Nat.blt j ks.length with
      | false => rfl
      | true => exact absurd (by simpa [Nat.blt_eq] using hb) hj
    simp [backOf, this]
  have fA : ∀ j, j < ks.length + 256 → ρc (backOf ks ks.length base j) = ρ' j := fun j hj => by
    by_cases hj' : j < ks.length
    · rw [back1 j hj', rc1 _ (nb _ (hkk _ (nthN_mem hj')))]
      exact (hr.old j (by rw [hbl]; exact hj')).symm
    · rw [back2 j hj', rc2 _ (by omega) (by omega)]
      congr 1; omega
  have fB : ∀ j, j < ks.length + 256 → known u (backOf ks ks.length base j) ∨ inBase base (backOf ks ks.length base j) := fun j hj => by
    by_cases hj' : j < ks.length
    · rw [back1 j hj']; exact .inl (hkk _ (nthN_mem hj'))
    · rw [back2 j hj']; exact .inr ⟨by omega, by omega⟩
  have hl : ∀ j b, lookL l2 j = some b → j < ks.length + 256 ∧ ∀ k, k ∈ b.c.keys → k < ks.length + 256 := fun j b hj => by
    obtain ⟨m1, m2⟩ := lookL_mem hj
    exact ⟨k2 j m2, fun k hk => k3 k (keysB_mem m1 hk)⟩
  have regOld : ∀ b i, inReg (fun i => ρ (nthN ks i)) (ofBlks 0 bs) b i → ∃ k B, k ∈ ks ∧ H k = some B ∧ (ρ k).block = b ∧ (ρ k).lo ≤ i ∧ i < (ρ k).hi := fun b i ⟨j, B, hB, e1, e2, e3⟩ => by
    obtain ⟨hi, b', g1, rfl⟩ := hblk j B hB
    exact ⟨_, b', nthN_mem hi, g1, e1, e2, e3⟩
  have regUp : ∀ b i, inReg (fun i => ρ (nthN ks i)) (ofBlks 0 bs) b i → inReg ρ H b i := fun b i hR => by
    obtain ⟨k, B, _, g1, g2⟩ := regOld b i hR
    exact ⟨k, B, g1, g2⟩
  -- what stands in the caller's memory behind the call
  have hupd : ∀ k B, updL H (goneOf l2 0 ks ++ putsOf (backOf ks ks.length base) l2) k = some B →
      (∃ j b, lookL l2 j = some b ∧ k = backOf ks ks.length base j ∧ B = b.rename (backOf ks ks.length base)) ∨ (H k = some B ∧ k ∉ ks) := fun k B hB => by
    rw [updL_append] at hB
    rcases updL_puts k1 hB with h | ⟨g1, g2⟩
    · exact .inl h
    · obtain ⟨g3, g4⟩ := updL_gone hnd g2
      refine .inr ⟨g3, fun hk => ?_⟩
      obtain ⟨b, hb⟩ := g4 hk
      simp only [Nat.zero_add] at hb
      refine g1 _ (lookL_mem hb).2 ?_
      rw [back1 _ (nth_idx hk).2, (nth_idx hk).1]
  have apart2 : ∀ j b k B, lookL l2 j = some b → H k = some B → k ∉ ks → Apart (ρ' j) (ρ k) := fun j b k B hj hk hnk i e h1 h2 h3 h4 => by
    rcases hr.reg j b hj i h1 h2 with h | h
    · have := (hp.heap.blk k B hk).there
      rw [e] at h; omega
    · obtain ⟨k', B', g1, g2, g3, g4, g5⟩ := regOld _ _ h
      refine hp.heap.dis k' k B' B ?_ g2 hk i (by rw [g3, e]) g4 g5 h3 h4
      rintro rfl; exact hnk g1
  have keepsOff : ∀ k B, H k = some B → k ∉ ks → ∀ i, (ρ k).lo ≤ i → i < (ρ k).hi → ¬ inReg (fun i => ρ (nthN ks i)) (ofBlks 0 bs) (ρ k).block i := fun k B hk hnk i h1 h2 hR => by
    obtain ⟨k', B', g1, g2, g3, g4, g5⟩ := regOld _ _ hR
    exact hp.heap.dis k' k B' B (by rintro rfl; exact hnk g1) g2 hk i g3 g4 g5 h1 h2
  refine ⟨Z', ρc, hgr.mono regUp, ?_, ?_, fun k hk => rc1 k (nb k hk), ?_, hr.keep.mono fun b i _ h => regUp b i h, ?_, ?_⟩
  · intro v' e; cases e
    refine ⟨hr.val.rename fun k hk => fA k (k4 k hk), fun k hk => ?_⟩
    rw [keys_rename, List.mem_map] at hk
    obtain ⟨j, hj, rfl⟩ := hk
    exact fB j (k4 j hj)
  · refine ⟨fun k B hB => ?_, fun k k' B B' hne hB hB' => ?_, fun k B hB => ?_, hr.heap.zone, hr.heap.pos, hr.heap.gok⟩
    · rcases hupd k B hB with ⟨j, b, g1, rfl, rfl⟩ | ⟨g1, g2⟩
      · obtain ⟨m1, m2⟩ := hl j b g1
        rw [fA j m1]
        exact (hr.heap.blk j b g1).rename fun k hk => fA k (m2 k hk)
      · have := ((hp.heap.blk k B g1).zone hgr.g hgr.le).keeps hr.keep (keepsOff k B g1 g2)
        rw [rc1 k (nb k (hp.keysH k B g1).1)]
        exact this.congr fun j hj => rc1 j (nb j ((hp.keysH k B g1).2 j hj))
    · rcases hupd k B hB with ⟨j, b, g1, rfl, rfl⟩ | ⟨g1, g2⟩ <;> rcases hupd k' B' hB' with ⟨j', b', g3, rfl, rfl⟩ | ⟨g3, g4⟩
      · rw [fA j (hl j b g1).1, fA j' (hl j' b' g3).1]
        exact hr.heap.dis j j' b b' (by rintro rfl; exact hne rfl) g1 g3
      · rw [fA j (hl j b g1).1, rc1 k' (nb k' (hp.keysH k' B' g3).1)]
        exact apart2 j b k' B' g1 g3 g4
      · rw [fA j' (hl j' b' g3).1, rc1 k (nb k (hp.keysH k B g1).1)]
        exact (apart2 j' b' k B g3 g1 g2).symm
      · rw [rc1 k (nb k (hp.keysH k B g1).1), rc1 k' (nb k' (hp.keysH k' B' g3).1)]
        exact hp.heap.dis k k' B B' hne g1 g3
    · rcases hupd k B hB with ⟨j, b, g1, rfl, rfl⟩ | ⟨g1, g2⟩
      · rw [fA j (hl j b g1).1]; exact hr.heap.zdis j b g1
      · rw [rc1 k (nb k (hp.keysH k B g1).1)]
        intro i h1 h2
        cases hz : Z' (ρ k).block i with
        | none => rfl
        | some c =>
          rcases hgr.new _ _ (hp.heap.zdis k B g1 i h1 h2) (by rw [hz]; simp) with h | h
          · have := (hp.heap.blk k B g1).there; omega
          · exact absurd h (keepsOff k B g1 g2 i h1 h2)
  · intro k b hm
    rw [List.mem_append] at hm
    rcases hm with hm | hm
    · have := (goneOf_mem hm).2; cases this
    · obtain ⟨j, b', m1, m2, rfl, e⟩ := putsOf_mem hm
      cases e
      refine ⟨fB j (k2 j m2), fun k' hk' => ?_⟩
      simp only [Blk.rename, cont_keys_rename, List.mem_map] at hk'
      obtain ⟨i, hi, rfl⟩ := hk'
      exact fB i (k3 i (keysB_mem m1 hi))
  · intro k B hB i h1 h2
    rcases hupd k B hB with ⟨j, b, g1, rfl, rfl⟩ | ⟨g1, g2⟩
    · rw [fA j (hl j b g1).1] at h1 h2 ⊢
      exact (hr.reg j b g1 i h1 h2).imp id (regUp _ _)
    · rw [rc1 k (nb k (hp.keysH k B g1).1)] at h1 h2 ⊢
      exact .inr ⟨k, B, g1, rfl, h1, h2⟩
  · intro k o hm
    rw [List.mem_append] at hm
    rcases hm with hm | hm
    · obtain ⟨m1, _⟩ := goneOf_mem hm
      obtain ⟨b, hb⟩ := hknown k m1
      exact .inl (by rw [hb]; simp)
    · obtain ⟨j, b', m1, m2, rfl, e⟩ := putsOf_mem hm
      by_cases hj : j < ks.length
      · rw [back1 j hj]
        obtain ⟨b, hb⟩ := hknown _ (nthN_mem hj)
        exact .inl (by rw [hb]; simp)
      · have := k2 j m2
        rw [back2 j hj]; exact .inr ⟨by omega, by omega⟩
end
end Go.Abs

namespace Go.Abs
section
variable {P : Program} {env : Env} {C : Tab} {ρ : PMap} {Z : Zone} {u : Nat → Bool} {base : Nat} {tmps : List (Option AVal)} {H : Heap} {a : Act} {w : World} {K : Eff → Prop}

theorem RepVs.append : ∀ {vs us : List AVal} {xs ys : List Value}, RepVs env ρ Z vs xs → RepVs env ρ Z us ys → RepVs env ρ Z (vs ++ us) (xs ++ ys)
  | [], us, xs, ys, h, h' => by simp only [RepVs] at h; subst h; exact h'
  | v :: vs, us, xs, ys, h, h' => by
    obtain ⟨x, xs', rfl, h1, h2⟩ := h
    exact ⟨x, xs' ++ ys, rfl, h1, h2.append h'⟩

theorem RepA_toList : ∀ {v : AVal} {xs : List Value}, RepA env ρ Z v xs → (∃ vs, v = .ofList vs) → RepVs env ρ Z v.toList xs := by
  intro v
  induction v with
  | unit => intro xs h _; simpa [RepA, AVal.toList, RepVs] using h
  | pair a b iha ihb =>
    rintro xs h ⟨vs, e⟩
    cases vs with
    | nil => cases e
    | cons v vs =>
      cases e
      simp only [RepA] at h
      obtain ⟨x, ys, rfl, h1, h2⟩ := h
      exact ⟨x, ys, rfl, h1, ihb h2 ⟨vs, rfl⟩⟩
  | _ => rintro xs h ⟨vs, e⟩; cases vs <;> cases e

theorem isList_of : ∀ {v : AVal}, isList v = true → ∃ vs, v = .ofList vs := by
  intro v
  induction v with
  | unit => exact fun _ => ⟨[], rfl⟩
  | pair a b iha ihb => intro h; obtain ⟨vs, e⟩ := ihb h; exact ⟨a :: vs, by rw [e]; rfl⟩
  | _ => intro h; simp [isList] at h

theorem RepA_isList : ∀ {v : AVal} {xs : List Value}, RepA env ρ Z v xs → (∃ vs, v = .ofList vs) ∨ ∃ a b, v = .tcons a b ∨ v = .tnil ∨ ∃ c, v = .pair c b := by
  intro v xs h
  cases v <;> simp only [RepA] at h
  · exact .inl ⟨[], rfl⟩
  · exact .inr ⟨.unit, _, .inr (.inr ⟨_, rfl⟩)⟩
  · exact .inr ⟨.unit, .unit, .inr (.inl rfl)⟩
  · exact .inr ⟨_, _, .inl rfl⟩

theorem keys_toList : ∀ {v : AVal} {k : Nat}, k ∈ keysL v.toList → k ∈ v.keys := by
  intro v
  induction v with
  | pair a b iha ihb =>
    intro k h
    simp only [AVal.toList, keysL, List.mem_append] at h
    simp only [AVal.keys, List.mem_append]
    exact h.imp id ihb
  | _ => intro k h; simp [AVal.toList, keysL] at h

theorem keysL_append (l m : List AVal) : keysL (l ++ m) = keysL l ++ keysL m := by
  induction l with
  | nil => rfl
  | cons v l ih => simp [keysL, ih]

theorem OpPost.of_call {r : Result Next} (h : CallPost P (fun x w' => ∃ e, K e ∧ EffOk env ρ Z u base H w e x w') r) : OpPost P env ρ Z u base H w K (fun _ _ => False) r := by
  cases r with
  | halt => exact h
  | ok n w' =>
    cases n with
    | value x => exact h
    | enter g args => exact Calls.mono h fun en w' ⟨x, e, e', hK, he⟩ => .inl ⟨e', x, e, hK, he⟩
    | _ => exact h.elim

theorem op_builtin (he : EnvOk P env) (hp : Pre env ρ Z u tmps H a w) (hbase : ∀ k, inBase base k → ¬ known u k) {o : Oper} {c : Call} {b : Builtin} (ho : o.op = .call c) (hc : c.callee = .builtin b) {vs : List AVal}
    (hv : opVals tmps c.args.toList = some vs) (h : evalBuiltin env base H b c.argTypes.toList vs K) : OpPost P env ρ Z u base H w K (fun _ _ => False) ((execOp a.eval o).run P w) := by
  unfold evalBuiltin at h
  split at h
  · rename_i t ts v hts
    exact op_len he hp ho hc hts hv h
  · exact op_min hp ho hc hv h
  · rename_i t t2 s x hts
    exact op_appendV he hp hbase ho hc hts hv h
  · exact h.elim

theorem op_any (hC : ∀ f c, C f = some c → CtrOk P env f c) (he : EnvOk P env) (hp : Pre env ρ Z u tmps H a w) {o : Oper} (hb : makes o = true → ∀ k, inBase base k → ¬ known u k)
    (h : evalOp env C base tmps H o K) : OpPost P env ρ Z u base H w K (fun _ _ => False) ((execOp a.eval o).run P w) := by
  unfold evalOp at h
  split at h
  all_goals rename_i ho
  · exact op_move hp (.inl ho) h
  · exact op_move hp (.inr ho) h
  · exact op_pick hp ho h
  · exact op_alloc he hp (hb (by simp [makes, ho])) ho h
  · exact op_box he hp (hb (by simp [makes, ho])) ho h
  · exact op_build he hp ho h
  · exact op_buildSlice he hp (hb (by simp [makes, ho])) ho h
  · exact op_load he hp ho h
  · exact op_store he hp ho h
  · exact op_nilCheck hp ho h
  · exact op_binOp2 he hp ⟨_, ho⟩ h
  · exact op_unOp hp ho h
  · exact op_convert he hp (hb (by simp [makes, ho])) ho h
  · exact op_s2ap he hp ho h
  · exact op_makeInterface he hp ho h
  · exact op_makeFunc hp ho h
  · exact op_makeSlice he hp (hb (by simp [makes, ho])) ho h
  · rename_i t x lo hi mx
    cases mx with
    | none => exact op_slice he hp ho h
    | some _ => exact h.elim
  · exact op_fieldAddr he hp ho h
  · exact op_field he hp ho h
  · exact op_indexAddr he hp ho h
  · exact op_index he hp ho h
  · rename_i t r
    cases r with
    | none => exact op_makeMap he hp (hb (by simp [makes, ho])) ho h
    | some _ => exact h.elim
  · exact op_lookup he hp ho h
  · exact op_mapUpdate he hp ho h
  · rename_i x xt t ok
    refine op_typeAssert he hp ho ?_
    revert h
    generalize env.td t = d
    cases ok with
    | false => exact id
    | true =>
      cases d with
      | none => exact id
      | some td => cases td <;> exact id
  · exact op_extract hp ho h
  · rename_i c
    have hbase := hb (by simp [makes, ho])
    obtain ⟨vs, hvs, q1⟩ := ob_inv h
    obtain ⟨g1, g2⟩ := hp.opVals hvs
    cases hc : c.callee with
    | builtin b => rw [hc] at q1; exact op_builtin he hp hbase ho hc hvs q1
    | value f =>
      rw [hc] at q1
      obtain ⟨fv, hf, q2⟩ := ob_inv q1
      obtain ⟨f1, f2⟩ := hp.opVal hf
      cases fv <;> try exact q2.elim
      rename_i fn x y
      cases fn <;> try exact q2.elim
      rename_i g
      obtain ⟨hl, q3⟩ := chk_inv q2
      obtain ⟨ct, hct, q4⟩ := ob_inv q3
      obtain ⟨xs, ys, e, hx, hy⟩ := repV_fn.1 f1
      have hl1 : isList x = true := by cases hx' : isList x <;> simp [hx', andB] at hl ⊢
      have hl2 : isList y = true := by cases hx' : isList x <;> simp [hx', andB] at hl ⊢; exact hl
      have hrep : RepVs env ρ Z (x.toList ++ vs ++ y.toList) (xs ++ c.args.map a.eval ++ ys).toList := by
        simp only [Array.toList_append, Array.toList_map]
        exact ((RepA_toList hx (isList_of hl1)).append g1).append (RepA_toList hy (isList_of hl2))
      have hk : ∀ k, k ∈ keysL (x.toList ++ vs ++ y.toList) → known u k := fun k hk => by
        rw [keysL_append, keysL_append] at hk
        simp only [List.mem_append] at hk
        rcases hk with (hk | hk) | hk
        · exact f2 k (by simp only [AVal.keys, List.mem_append]; exact .inl (keys_toList hk))
        · exact g2 k hk
        · exact f2 k (by simp only [AVal.keys, List.mem_append]; exact .inr (keys_toList hk))
      have := call_sound (hC g ct hct) hp hbase hrep hk q4
      have hrun : (execOp a.eval o).run P w = (callFunc g (xs ++ c.args.map a.eval ++ ys)).run P w := by
        simp only [execOp, ho, resolve, hc, e, Deferred.ofValue, pure_bind, invoke]
      rw [hrun]
      exact OpPost.of_call this
    | invoke r name =>
      rw [hc] at q1
      obtain ⟨rv, hr, q2⟩ := ob_inv q1
      obtain ⟨r1, r2⟩ := hp.opVal hr
      cases rv <;> try exact q2.elim
      rename_i t v
      obtain ⟨g, hg, q3⟩ := ob0_inv q2
      obtain ⟨ct, hct, q4⟩ := ob_inv q3
      obtain ⟨x, e, hx⟩ := repV_iface.1 r1
      have hrep : RepVs env ρ Z (v :: vs) (#[x] ++ c.args.map a.eval).toList := by
        simp only [Array.toList_append, Array.toList_map]
        exact ⟨x, _, rfl, hx, g1⟩
      have hk : ∀ k, k ∈ keysL (v :: vs) → known u k := fun k hk => by
        simp only [keysL, List.mem_append] at hk
        exact hk.elim (fun h => r2 k (by simpa [AVal.keys] using h)) (g2 k)
      have := call_sound (hC g ct hct) hp hbase hrep hk q4
      have hm := he.meth t name g hg x w
      have hrun : (execOp a.eval o).run P w = (callFunc g (#[x] ++ c.args.map a.eval)).run P w := by
        simp only [execOp, ho, resolve, hc, pure_bind, invoke, e]
        simp only [Array.getElem?_append, List.size_toArray, List.length_singleton, Nat.lt_one_iff, if_true, callMethod]
        have hx0 : (#[Value.iface t x] ++ Array.map a.eval c.args).extract 1 (#[Value.iface t x] ++ Array.map a.eval c.args).size = Array.map a.eval c.args := by
          apply Array.ext'
          simp only [Array.toList_extract, Array.toList_append, Array.toList_map]
          simp [List.extract, List.take_of_length_le]
        simp only [hx0]
        simp [Sem.run_bind, hm]
      rw [hrun]
      exact OpPost.of_call this
  · exact h.elim
end
end Go.Abs
