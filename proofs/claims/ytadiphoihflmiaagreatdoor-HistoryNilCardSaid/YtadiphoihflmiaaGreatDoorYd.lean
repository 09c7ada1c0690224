/- What the row's condition gives: the sentinels' cells, and with them the package-level variables as the evaluator knows them. -/
import Derived.Test.YtadiphoihflmiaaGreatDoorZm
import Derived.Stop.LaidErr
import Derived.LaidLaws
set_option linter.all false
set_option maxRecDepth 1000000
namespace Go.Abs
open Go Go.Proofs

/-- A sentinel, its text behind a pointer. -/
structure Sent (W : World) (ps : List MemPlace) (g : Nat) (text : List UInt8) (a : Nat × Nat) : Prop where
  var : W.cell? ⟨g, 0, none⟩ = some (.iface 455 (.pointer (some ⟨a.1, a.2, none⟩)))
  cell : W.cell? ⟨a.1, a.2, none⟩ = some (.string ⟨text.toArray⟩)
  row : ∃ c t, W.heap[a.1]? = some (.cells c t (0, 0))
  place : MemPlace.cell a.1 a.2 ∈ ps

theorem Sent.mono {W : World} {ps qs : List MemPlace} {g : Nat} {text : List UInt8} {a : Nat × Nat} (h : Sent W ps g text a) (hq : ∀ p, p ∈ ps → p ∈ qs) : Sent W qs g text a := ⟨h.var, h.cell, h.row, hq _ h.place⟩

def Sents (W : World) (ps : List MemPlace) : List (String × Nat × List UInt8) → List (Nat × Nat) → Prop
  | [], [] => True
  | x :: l, a :: az => Sent W ps x.2.1 x.2.2 a ∧ Sents W ps l az
  | _, _ => False
theorem Sents.mono {W : World} {ps qs : List MemPlace} (hq : ∀ p, p ∈ ps → p ∈ qs) : ∀ {l : List (String × Nat × List UInt8)} {az : List (Nat × Nat)}, Sents W ps l az → Sents W qs l az
  | [], [], _ => trivial
  | _ :: _, _ :: _, h => ⟨h.1.mono hq, Sents.mono hq h.2⟩
  | [], _ :: _, h => h.elim
  | _ :: _, [], h => h.elim
theorem Sents.places {W : World} {ps : List MemPlace} : ∀ {l : List (String × Nat × List UInt8)} {az : List (Nat × Nat)}, Sents W ps l az → ∀ a, a ∈ az → MemPlace.cell a.1 a.2 ∈ ps
  | [], [], _, _, h => by cases h
  | _ :: _, _ :: _, h, a, ha => by
    rcases List.mem_cons.1 ha with rfl | ha
    · exact h.1.place
    · exact Sents.places h.2 a ha
  | [], _ :: _, h, _, _ => h.elim
  | _ :: _, [], h, _, _ => h.elim

def sentD (x : String × Nat × List UInt8) : String × DataW Unit := (x.1, .iface "*errors.errorString" (.ptr (.agg [.lit (.string x.2.2)])))

theorem ty_cells479 : Tryz.prog.cellsOf 479 = 1 := by kernel_rfl
theorem ty_cells9 : Tryz.prog.cellsOf 9 = 1 := by kernel_rfl
theorem ty_row455 (u : TypeId) (h : Tryz.prog.typeName? 3 u = some "*errors.errorString") : u = 455 :=
  have hs : "*" ++ "errors.errorString" = "*errors.errorString" := by decide
  typeName_ptr_named (nm := "errors.errorString") (by rw [hs]; kernel_rfl) (by kernel_rfl) (by decide) u (by rw [hs]; exact h)

theorem sents_of {W : World} : ∀ (l : List (String × Nat × List UInt8)) (ps : List MemPlace), (∀ x, x ∈ l → Tryz.prog.globalNamed x.1 = some x.2.1 ∧ (Tryz.prog.globals[x.2.1]?).map (·.type) = some 96) →
    DataW.LaidVars Tryz.prog W (l.map sentD) ps → ps.Nodup →
    (∀ b off, MemPlace.cell b off ∈ ps → (∃ c t, W.heap[b]? = some (.cells c t (0, 0))) ∧ ∀ u v, W.cell? ⟨b, off, none⟩ = some (.iface u v) → Value.okWide Tryz.prog W .any 0 u v) →
    ∃ az : List (Nat × Nat), Sents W ps l az ∧ az.Nodup
  | [], ps, _, _, _, _ => ⟨[], trivial, List.nodup_nil⟩
  | x :: l, ps, hg, hv, hnd, hrows => by
    obtain ⟨hg1, hg2⟩ := hg x (by simp)
    obtain ⟨g0, t0, cs0, f0, p0, q0, hg0, ht0, hv0, hd0, hq, rfl⟩ := hv
    obtain rfl := Option.some.inj (hg1.symm.trans hg0)
    obtain rfl := Option.some.inj (hg2.symm.trans ht0)
    obtain ⟨l0⟩ := cs0
    have ok0 : ∀ u v, l0 = [.iface u v] → Value.okWide Tryz.prog W .any 0 u v := fun u v e => by
      subst e
      exact (hrows x.2.1 0 (by simp [MemPlace.row])).2 u v (by simpa using World.var?_cell hg0 hv0 0)
    obtain ⟨a0, s0, rfl, hc0, hs0, hz0, rfl⟩ := errorString_of_trod Tryz.underlying96 ty_row455 Tryz.underlying455 Tryz.underlying479 rfl rfl Tryz.underlying9 ty_cells479 ty_cells9 hd0 ok0
    have hspot : a0.spot = none := by
      cases hs : a0.spot with
      | none => rfl
      | some n =>
        exfalso
        unfold World.cell? at hc0
        rw [hs] at hc0
        split at hc0 <;> simp at hc0
    obtain ⟨ab, ao, asp⟩ := a0
    simp only at hspot
    subst hspot
    have hpl : MemPlace.cell ab ao ∈ MemPlace.row ⟨x.2.1, 0, none⟩ (List.toArray [Value.iface 455 (.pointer (some ⟨ab, ao, none⟩))]).size ++ MemPlace.row ⟨ab, ao, none⟩ 1 ++ q0 := by simp [MemPlace.row]
    obtain ⟨az, h1, h2⟩ := sents_of l q0 (fun y hy => hg y (by simp [hy])) hq (List.Nodup.sublist (List.sublist_append_right _ _) hnd) (fun b off hm => hrows b off (List.mem_append_right _ hm))
    refine ⟨(ab, ao) :: az, ⟨⟨?_, ?_, (hrows ab ao hpl).1, hpl⟩, h1.mono fun p hp => List.mem_append_right _ hp⟩, List.nodup_cons.2 ⟨fun hm => ?_, h2⟩⟩
    · simpa using World.var?_cell hg0 hv0 0
    · rw [hc0, ← hs0]
    · have hp := h1.places _ hm
      have := (List.nodup_append.1 hnd).2.2 (MemPlace.cell ab ao) (by simp [MemPlace.row]) _ hp
      exact this rfl

theorem Sents.get {W : World} {ps : List MemPlace} : ∀ {l : List (String × Nat × List UInt8)} {az : List (Nat × Nat)} {i : Nat} {x : String × Nat × List UInt8}, Sents W ps l az → l[i]? = some x → ∃ a, az[i]? = some a ∧ Sent W ps x.2.1 x.2.2 a
  | [], [], _, _, _, h => by simp at h
  | y :: l, a :: az, i, x, h, hx => by
    cases i with
    | zero => simp at hx; subst hx; exact ⟨a, rfl, h.1⟩
    | succ i =>
      simp at hx
      exact Sents.get (i := i) h.2 hx
  | [], _ :: _, _, _, h, _ => h.elim
  | _ :: _, [], _, _, h, _ => h.elim
theorem nodup_idx {α : Type} {x : α} : ∀ {l : List α} {i j : Nat}, l.Nodup → l[i]? = some x → l[j]? = some x → i = j
  | [], _, _, _, h, _ => by simp at h
  | y :: l, 0, 0, _, _, _ => rfl
  | y :: l, 0, j + 1, hn, h, h' => by
    simp at h h'
    subst h
    exact absurd (List.mem_of_getElem? h') (List.nodup_cons.1 hn).1
  | y :: l, i + 1, 0, hn, h, h' => by
    simp at h h'
    subst h'
    exact absurd (List.mem_of_getElem? h) (List.nodup_cons.1 hn).1
  | y :: l, i + 1, j + 1, hn, h, h' => by
    simp at h h'
    rw [nodup_idx (List.nodup_cons.1 hn).2 h h']

def sentL : List (String × Nat × List UInt8) := [("rime/history.ErrRows", 1, textN texts 1), ("rime/history.ErrAgain", 2, textN texts 2), ("rime/history.ErrPair", 3, textN texts 3), ("rime/history.ErrUnknown", 4, textN texts 4), ("rime/history.ErrTwice", 5, textN texts 5), ("rime/history.ErrPackage", 6, textN texts 6), ("rime/history.ErrShare", 7, textN texts 7), ("rime/history.ErrSession", 8, textN texts 8), ("rime/history.ErrOver", 0, textN texts 0), ("rime/history.ErrSignature", 9, textN texts 9), ("rime/history.ErrInnocent", 10, textN texts 10), ("rime/history.ErrNobody", 11, textN texts 11), ("rime/history.ErrLife", 12, textN texts 12), ("rime/history.ErrForged", 13, textN texts 13)]
def posL : List Nat := [8, 0, 1, 2, 3, 4, 5, 6, 7, 9, 10, 11, 12, 13]
def posOk (id : Nat) : Bool := match sentL[posL.getD id 0]? with
  | some (_, g, t) => Nat.beq g id && t == textN texts id
  | none => false
theorem posOk_all : allB posOk 14 = true := by kernel_rfl
theorem pos_spec {id : Nat} (h : id < 14) : ∃ nm, sentL[posL.getD id 0]? = some (nm, id, textN texts id) := by
  have := allB_spec posOk_all id h
  unfold posOk at this
  cases hs : sentL[posL.getD id 0]? with
  | none => rw [hs] at this; cases this
  | some x =>
    obtain ⟨nm, g, t⟩ := x
    rw [hs] at this
    simp only [Bool.and_eq_true] at this
    have h1 := beq_eq this.1
    have h2 := eq_of_beq this.2
    subst h1 h2
    exact ⟨nm, rfl⟩
def gAt (az : List (Nat × Nat)) (id : Nat) : Nat × Nat := match Nat.blt id 1000 with
  | true => (id, 0)
  | false => az.getD (posL.getD (id - 1000) 0) (0, 0)
/-- All that was there is only read. -/
def zoneOf (W : World) (az : List (Nat × Nat)) : Zone := ⟨fun b o => W.cell? ⟨b, o, none⟩, gAt az⟩

theorem gv_inv {id t : Nat} {v : AVal} (h : gvOf id = some (t, v)) : (id < 14 ∧ v = .iface 455 (.gp (1000 + id))) ∨ (1000 ≤ id ∧ id < 1014 ∧ v = .pair (.str (textN texts (id - 1000))) .unit) ∨ (id = 14 ∧ withET = true ∧ v = .iface 211 (.pair (.th 96) .unit)) := by
  unfold gvOf at h
  cases h1 : Nat.blt id 14 with
  | true => rw [h1] at h; cases h; exact .inl ⟨Nat.le_of_ble_eq_true h1, rfl⟩
  | false =>
    rw [h1] at h
    cases h2 : andB (Nat.ble 1000 id) (Nat.blt id 1014) with
    | true =>
      rw [h2] at h; cases h
      obtain ⟨h3, h4⟩ := andB_iff.1 h2
      exact .inr (.inl ⟨Nat.le_of_ble_eq_true h3, Nat.le_of_ble_eq_true h4, rfl⟩)
    | false =>
      rw [h2] at h
      cases h3 : andB withET (Nat.beq id 14) with
      | true =>
        rw [h3] at h; cases h
        obtain ⟨h4, h5⟩ := andB_iff.1 h3
        exact .inr (.inr ⟨beq_eq h5, h4, rfl⟩)
      | false => rw [h3] at h; cases h
theorem gAt_low {az : List (Nat × Nat)} {id : Nat} (h : id < 1000) : gAt az id = (id, 0) := by
  unfold gAt
  rw [show Nat.blt id 1000 = true from Nat.ble_eq_true_of_le h]
theorem gAt_high {W : World} {ps : List MemPlace} {az : List (Nat × Nat)} (h : Sents W ps sentL az) {id : Nat} (hid : id < 14) : az[posL.getD id 0]? = some (gAt az (1000 + id)) ∧ Sent W ps id (textN texts id) (gAt az (1000 + id)) := by
  obtain ⟨nm, h1⟩ := pos_spec hid
  obtain ⟨a, h2, h3⟩ := h.get h1
  have e : gAt az (1000 + id) = a := by
    unfold gAt
    have : Nat.blt (1000 + id) 1000 = false := by
      cases hb : Nat.blt (1000 + id) 1000 with
      | false => rfl
      | true => have := Nat.le_of_ble_eq_true hb; omega
    rw [this]
    simp only [Nat.add_sub_cancel_left]
    rw [List.getD_eq_getElem?_getD, h2]
    rfl
  rw [e]
  exact ⟨h2, h3⟩

theorem gok_of {W : World} {ps : List MemPlace} {az : List (Nat × Nat)} (h : Sents W ps sentL az) (hnd : az.Nodup) (hET : withET = true → W.cell? ⟨14, 0, none⟩ = some (.iface 211 (.agg #[.pointer (some ⟨18, 96, none⟩)]))) : GOk env (zoneOf W az) W := by
  have hig : ∀ id, env.gv id ≠ none → 1000 ≤ id → ∃ k, k < 14 ∧ id = 1000 + k := fun id hne hle => by
    cases hg : env.gv id with
    | none => exact absurd hg hne
    | some p =>
      obtain ⟨t, v⟩ := p
      rcases gv_inv hg with ⟨h1, _⟩ | ⟨h1, h2, _⟩ | ⟨h1, _⟩
      · omega
      · exact ⟨id - 1000, by omega, by omega⟩
      · omega
  refine ⟨fun id t v hg => ?_, fun id hid => gAt_low hid, fun i j hi hj h1 h2 he => ?_, fun id hi h1 => ?_⟩
  · rcases gv_inv hg with ⟨h1, rfl⟩ | ⟨h1, h2, rfl⟩ | ⟨rfl, h2, rfl⟩
    · refine ⟨rfl, [.iface 455 (.pointer (some ⟨(gAt az (1000 + id)).1, (gAt az (1000 + id)).2, none⟩))], fun ρ => ⟨_, rfl, rfl⟩, fun j c hj => ?_⟩
      cases j with
      | succ j => simp at hj
      | zero =>
        simp at hj; subst hj
        show W.cell? ⟨(gAt az id).1, (gAt az id).2 + 0, none⟩ = _
        rw [gAt_low (by omega)]
        exact (gAt_high h h1).2.var
    · obtain ⟨k, rfl⟩ : ∃ k, id = 1000 + k := ⟨id - 1000, by omega⟩
      refine ⟨rfl, [.string ⟨(textN texts k).toArray⟩], fun ρ => ⟨[_], [], rfl, by simp [RepC], rfl⟩, fun j c hj => ?_⟩
      cases j with
      | succ j => simp at hj
      | zero =>
        simp at hj; subst hj
        exact (gAt_high h (id := k) (by omega)).2.cell
    · refine ⟨rfl, [.iface 211 (.agg #[.pointer (some ⟨18, 96, none⟩)])], fun ρ => ⟨_, rfl, _, rfl, [.pointer (some ⟨18, 96, none⟩)], [], rfl, rfl, rfl⟩, fun j c hj => ?_⟩
      cases j with
      | succ j => simp at hj
      | zero =>
        simp at hj; subst hj
        show W.cell? ⟨(gAt az 14).1, (gAt az 14).2 + 0, none⟩ = _
        rw [gAt_low (by omega)]
        exact hET h2
  · obtain ⟨k, hk, rfl⟩ := hig i hi h1
    obtain ⟨m, hm, rfl⟩ := hig j hj h2
    have e1 := (gAt_high h hk).1
    have e2 := (gAt_high h hm).1
    have he' : gAt az (1000 + k) = gAt az (1000 + m) := he
    rw [he'] at e1
    have hp := nodup_idx hnd e1 e2
    obtain ⟨n1, q1⟩ := pos_spec hk
    obtain ⟨n2, q2⟩ := pos_spec hm
    rw [hp, q2] at q1
    simp only [Option.some.injEq, Prod.mk.injEq] at q1
    omega
  · obtain ⟨k, hk, rfl⟩ := hig id hi h1
    exact (gAt_high h hk).2.row

theorem heap_of {W : World} {ps : List MemPlace} {az : List (Nat × Nat)} (h : Sents W ps sentL az) (hnd : az.Nodup) (hET : withET = true → W.cell? ⟨14, 0, none⟩ = some (.iface 211 (.agg #[.pointer (some ⟨18, 96, none⟩)]))) (ρ : PMap) : HeapOk env ρ (zoneOf W az) W (ofBlks 0 []) := by
  refine ⟨fun k b hb => (by cases hb), fun k k' b b' _ hb => (by cases hb), fun k b hb => (by cases hb), fun b o v hz => hz, ?_, gok_of h hnd hET⟩
  have := (gAt_high h (id := 0) (by omega)).2.var
  rcases Nat.eq_zero_or_pos W.heap.size with h0 | h0
  · simp [World.cell?, h0] at this
  · exact h0
end Go.Abs
