/- An argument that reads as rows, as a view of rows; how much it holds. What the row's condition gives: the sentinels' cells, and with them the package-level variables as the evaluator knows them. -/
import Derived.Test.YtadiphoihflmiaaGreatDoorZbc
import Derived.Test.YtadiphoihflmiaaGreatDoorRows
import Derived.OpenShut
import Derived.Test.YtadiphoihflmiaaGreatDoorZas
import Derived.Stop.LaidErr
import Derived.LaidLaws
set_option linter.all false
set_option maxRecDepth 1000000
namespace Go.Abs
open Go Go.Proofs Go.Proofs.YtadiphoihflmiaaGreatDoor

section
variable {H : Type} {ench : TypeId × Value → H} {W : World} {fuel : Nat} {t : TypeId} {cs : List Value} {x : DataW H × List MemPlace} {spare : Nat → Bool} {held : Bool} {ρ : PMap} {Z : Zone}

/-! ### bulk -/
theorem one_le (d : DataW H) : 1 ≤ Rows.uptoBulk d := by
  cases d with
  | lit l => cases l <;> simp [Rows.uptoBulk]
  | nil => simp [Rows.uptoBulk]
  | ptr d => simp [Rows.uptoBulk]
  | slice elems spare => simp [Rows.uptoBulk]
  | agg parts => simp [Rows.uptoBulk]
  | iface t d => simp [Rows.uptoBulk]
  | map entries => simp [Rows.uptoBulk]
  | held h => simp [Rows.uptoBulk]
theorem part_le {d : DataW H} {l : List (DataW H)} (h : d ∈ l) : Rows.uptoBulk d ≤ Rows.uptoBulkAll l := by
  induction l with
  | nil => cases h
  | cons x r ih =>
    simp only [Rows.uptoBulkAll]
    cases List.mem_cons.1 h with
    | inl e => subst e; omega
    | inr e => have := ih e; omega
theorem length_le (l : List (DataW H)) : l.length ≤ Rows.uptoBulkAll l := by
  induction l with
  | nil => simp [Rows.uptoBulkAll]
  | cons x r ih => have := one_le x; simp only [Rows.uptoBulkAll, List.length_cons]; omega
theorem bulk_slice (elems spare : List (DataW H)) : Rows.uptoBulk (.slice elems spare) = Rows.uptoBulkAll elems + Rows.uptoBulkAll spare + 1 := by simp only [Rows.uptoBulk]
theorem bulk_agg (parts : List (DataW H)) : Rows.uptoBulk (.agg parts) = Rows.uptoBulkAll parts + 1 := by simp only [Rows.uptoBulk]

/-! ### numbers, arrays of bytes -/
theorem int_back {k : IntKind} {n : Int} (h : (Lit.int k n).wf = true) (hk : k = .i64 ∨ k = .u8) : toI k (rawI k n) = n := by
  rcases hk with rfl | rfl
  · rfl
  · simp [Lit.wf, IntKind.min, IntKind.max, IntKind.signed, IntKind.bits] at h
    show ((UInt8.ofNat (n % 256).toNat).toNat : Int) = n
    rw [UInt8.toNat_ofNat']
    omega
theorem addr_add (a : Addr) (i : Nat) (hs : a.spot = none) : a.add i = ⟨a.block, a.off + i, none⟩ := by
  obtain ⟨b, o, s⟩ := a
  simp only at hs
  subst hs
  unfold Addr.add
  split
  · rename_i h; subst h; rfl
  · rfl
theorem spot_of {a : Addr} {v : Value} (h : W.cell? a = some v) : a.spot = none := by
  cases hs : a.spot with
  | none => rfl
  | some n =>
    exfalso
    unfold World.cell? at h
    rw [hs] at h
    split at h <;> simp at h

theorem rd_int (ht : Tryz.prog.underlying t = some (.int .i64)) (h : DataW.trod ench Tryz.prog W 0 spare held fuel t cs = some x) : ∃ n : Int, cs = [.int .i64 n] := by
  obtain ⟨n, h1, -⟩ := DataW.trod_int ht h
  exact ⟨n, h1⟩
def byteOf : Value → UInt8
  | .int _ n => rawI .u8 n
  | _ => 0
theorem cells5' : Tryz.prog.cellsOf 5 = 1 := by kernel_rfl
theorem rd_arr {n : Nat} (ht : Tryz.prog.underlying t = some (.array n 5)) (hc : Tryz.prog.cellsOf t = n) (h : DataW.trod ench Tryz.prog W 0 spare held fuel t cs = some x) : RepC env ρ Z (.arr .u8 n (cs.map byteOf)) cs := by
  obtain ⟨xs, m, -, -, hl, hxl, hel⟩ := DataW.trod_array ht h
  rw [hc] at hl
  refine ⟨by simp [hl], ?_⟩
  refine List.ext_getElem? fun i => ?_
  rcases Nat.lt_or_ge i cs.length with hi | hi
  · have h1 := hel i (by omega)
    rw [cells5', Nat.mul_one, List.getElem?_eq_getElem (by omega)] at h1
    obtain ⟨v, hv, -, hw⟩ := DataW.trod_int Tryz.underlying5 h1
    have h2 : cs[i]? = some (.int .u8 v) := by
      have := congrArg (fun l : List Value => l[0]?) hv
      simpa [List.getElem?_take, List.getElem?_drop] using this
    rw [h2]
    simp only [List.getElem?_map, h2, Option.map_some, byteOf]
    rw [int_back hw (.inr rfl)]
  · rw [List.getElem?_eq_none hi, List.getElem?_eq_none (by simpa using hi)]

/-! ### slices of numbers -/
def numOf (k : IntKind) : Option Value → TT k
  | some (.int _ n) => rawI k n
  | _ => zeroT k
theorem rd_ints {k : IntKind} {e : TypeId} (hk : k = .i64 ∨ k = .u8) (ht : Tryz.prog.underlying t = some (.slice e)) (he : Tryz.prog.underlying e = some (.int k)) (hc : Tryz.prog.cellsOf e = 1) (hZ : ∀ b o v, W.cell? ⟨b, o, none⟩ = some v → Z b o = some v)
    (h : DataW.trod ench Tryz.prog W 0 spare held fuel t cs = some x) : ∃ l : List (TT k), RepC env ρ Z (.vw k l) cs ∧ l.length ≤ Rows.uptoBulk x.1 := by
  rcases DataW.trod_slice ht h with ⟨rfl, rfl⟩ | ⟨a, len, cap, elems, rest, n, -, rfl, rfl, -, hlc, -, hel, hget, -, -⟩
  · exact ⟨[], ⟨none, 0, rfl, Nat.le_refl _, fun h => (h rfl).elim⟩, Nat.zero_le _⟩
  · have cell : ∀ i, i < len → ∃ v, W.cell? (a.add i) = some (.int k v) ∧ (Lit.int k v).wf = true := fun i hi => by
      have h1 := hget i hi
      rw [hc, Nat.mul_one, List.getElem?_eq_getElem (by omega)] at h1
      obtain ⟨cs', h2, h3⟩ := Option.bind_eq_some_iff.1 h1
      obtain ⟨v, hv, -, hw⟩ := DataW.trod_int he h3
      subst hv
      have := (World.cells?_some h2).2.2 0 (by omega)
      refine ⟨v, ?_, hw⟩
      simpa [Addr.add] using this
    refine ⟨(List.range len).map fun i => numOf k (W.cell? (a.add i)), ⟨some a, cap, by simp, by simpa using hlc, fun hne => ?_⟩, ?_⟩
    · have hpos : 0 < len := by
        rcases Nat.eq_zero_or_pos len with h0 | h0
        · subst h0; exact (hne rfl).elim
        · exact h0
      obtain ⟨v0, c0, -⟩ := cell 0 hpos
      have hsp : a.spot = none := spot_of (show W.cell? a = some (.int k v0) by simpa [Addr.add] using c0)
      refine ⟨a.block, a.off, by obtain ⟨b, o, s⟩ := a; simp only at hsp; subst hsp; rfl, fun i y hy => ?_⟩
      have hi : i < len := by have := (List.getElem?_eq_some_iff.1 hy).1; simpa using this
      obtain ⟨v, cv, hw⟩ := cell i hi
      have hy' : y = rawI k v := by
        simp only [List.getElem?_map, List.getElem?_range hi, Option.map_some, cv, numOf, Option.some.injEq] at hy
        exact hy.symm
      rw [hy', int_back hw hk]
      exact hZ _ _ _ (by rw [← addr_add a i hsp]; exact cv)
    · have h1 := length_le (elems.map (·.1))
      simp only [bulk_slice, List.length_map] at h1 ⊢
      simp only [List.length_map, List.length_range]
      omega

/-! ### structs -/
/-- Cells part by part. -/
def segs (cs : List Value) : Nat → List Nat → List (List Value)
  | _, [] => []
  | o, s :: ss => (cs.drop o).take s :: segs cs (o + s) ss
def RepSegs (env : Env) (ρ : PMap) (Z : Zone) : List AVal → List (List Value) → Prop
  | [], [] => True
  | v :: vs, c :: cs => RepC env ρ Z v c ∧ RepSegs env ρ Z vs cs
  | _, _ => False
theorem segs_flat (cs : List Value) : ∀ (ss : List Nat) (o : Nat), o + ss.sum = cs.length → cs.drop o = (segs cs o ss).flatten
  | [], o, h => by simp at h; simp [segs, h]
  | s :: ss, o, h => by
    simp only [segs, List.flatten_cons]
    rw [← segs_flat cs ss (o + s) (by simp at h; omega), ← List.drop_drop, List.take_append_drop]
theorem rep_flat : ∀ {vs : List AVal} {cc : List (List Value)}, RepSegs env ρ Z vs cc → RepC env ρ Z (AVal.ofList vs) cc.flatten
  | [], [], _ => by simp [AVal.ofList, RepC]
  | v :: vs, c :: cc, h => by
    simp only [AVal.ofList, RepC, List.flatten_cons]
    exact ⟨c, cc.flatten, rfl, h.1, rep_flat h.2⟩
  | [], _ :: _, h => h.elim
  | _ :: _, [], h => h.elim
theorem rep_segs {vs : List AVal} {ss : List Nat} (hl : ss.sum = cs.length) (h : RepSegs env ρ Z vs (segs cs 0 ss)) : RepC env ρ Z (AVal.ofList vs) cs := by
  have := segs_flat cs ss 0 (by omega)
  rw [List.drop_zero] at this
  rw [this]
  exact rep_flat h

theorem cells3 : Tryz.prog.cellsOf 3 = 1 := by kernel_rfl
theorem cells83 : Tryz.prog.cellsOf 83 = 1 := by kernel_rfl
theorem cells31 : Tryz.prog.cellsOf 31 = 1 := by kernel_rfl
theorem cells86 : Tryz.prog.cellsOf 86 = 32 := by kernel_rfl
theorem cells76 : Tryz.prog.cellsOf 76 = 32 := by kernel_rfl
theorem cells90 : Tryz.prog.cellsOf 90 = 32 := by kernel_rfl
theorem cells79 : Tryz.prog.cellsOf 79 = 64 := by kernel_rfl
theorem cells77 : Tryz.prog.cellsOf 77 = 1 := by kernel_rfl
theorem cells89 : Tryz.prog.cellsOf 89 = 1 := by kernel_rfl
theorem cells23 : Tryz.prog.cellsOf 23 = 1 := by kernel_rfl
theorem cells85 : Tryz.prog.cellsOf 85 = 3 := by kernel_rfl
theorem cells88 : Tryz.prog.cellsOf 88 = 65 := by kernel_rfl
theorem cells92 : Tryz.prog.cellsOf 92 = 203 := by kernel_rfl
theorem sz88 : env.sz 88 = 65 := by kernel_rfl
theorem sz92 : env.sz 92 = 203 := by kernel_rfl

/-- A field of a struct that is read. -/
theorem fld {n : Nat} {fs : Array Field} {xs : List (DataW H × List MemPlace)} (hx : xs.length = fs.size) (hget : ∀ (i : Nat) (f : Field), fs[i]? = some f → DataW.trod ench Tryz.prog W 0 spare held n f.type ((cs.drop f.offset).take (Tryz.prog.cellsOf f.type)) = xs[i]?)
    (i t o s : Nat) (hf : (fs[i]?).map (fun f => (f.type, f.offset)) = some (t, o)) (hs : Tryz.prog.cellsOf t = s) : ∃ y, DataW.trod ench Tryz.prog W 0 spare held n t ((cs.drop o).take s) = some y ∧ Rows.uptoBulk y.1 ≤ Rows.uptoBulk (.agg (xs.map (·.1))) := by
  obtain ⟨f, hf1, he⟩ := Option.map_eq_some_iff.1 hf
  cases he
  subst hs
  have hi : i < xs.length := by rw [hx]; exact (Array.getElem?_eq_some_iff.1 hf1).1
  refine ⟨xs[i], by rw [hget i f hf1, List.getElem?_eq_getElem hi], ?_⟩
  have := part_le (d := xs[i].1) (l := xs.map (·.1)) (List.mem_map.2 ⟨xs[i], List.getElem_mem hi, rfl⟩)
  rw [bulk_agg]; omega

theorem rd_comm (h : DataW.trod ench Tryz.prog W 0 spare held fuel 88 cs = some x) : ∃ c : CommD, RepC env ρ Z (commE c) cs ∧ cs.length = 65 := by
  obtain ⟨xs, n, -, rfl, hl, hxl, hget⟩ := DataW.trod_struct Tryz.underlying88 h
  rw [cells88] at hl
  obtain ⟨y0, h0, -⟩ := fld hxl hget 0 3 0 1 rfl cells3
  obtain ⟨y1, h1, -⟩ := fld hxl hget 1 86 1 32 rfl cells86
  obtain ⟨y2, h2, -⟩ := fld hxl hget 2 86 33 32 rfl cells86
  obtain ⟨n0, e0⟩ := rd_int Tryz.underlying3 h0
  exact ⟨⟨n0, _, _⟩, rep_segs (vs := [_, _, _]) (ss := [1, 32, 32]) (by simp [hl]) ⟨e0, rd_arr Tryz.underlying86 cells86 h1, rd_arr Tryz.underlying86 cells86 h2, trivial⟩, hl⟩

theorem mapM_pick {α : Type} {P : Nat → α → Prop} (d : α) : ∀ (n : Nat), (∀ i, i < n → ∃ a, P i a) → ∃ f : Nat → α, ∀ i, i < n → P i (f i) := by
  intro n h
  refine ⟨fun i => if hi : i < n then Classical.choose (h i hi) else d, fun i hi => ?_⟩
  simp only [hi, dif_pos]
  exact Classical.choose_spec (h i hi)

/-- A slice of records. -/
theorem rd_recs {tg : VT} {e : TypeId} {n0 : Nat} {Q : tg.ty → DataW H → Prop} (d : tg.ty) (ht : Tryz.prog.underlying t = some (.slice e)) (hc : Tryz.prog.cellsOf e = n0) (hsz : env.sz e = n0) (hn : 0 < n0) (hkeys : ∀ a, (encT tg a).keys = []) (hZ : ∀ b o v, W.cell? ⟨b, o, none⟩ = some v → Z b o = some v)
    (hel : ∀ {n : Nat} {cs : List Value} {x : DataW H × List MemPlace}, DataW.trod ench Tryz.prog W 0 spare held n e cs = some x → ∃ a : tg.ty, RepC env ρ Z (encT tg a) cs ∧ cs.length = n0 ∧ Q a x.1)
    (h : DataW.trod ench Tryz.prog W 0 spare held fuel t cs = some x) : ∃ l : List tg.ty, (∀ d, RepC env ρ Z (.vr tg e (encT tg) d l) cs) ∧ l.length ≤ Rows.uptoBulk x.1 ∧ ∀ a, a ∈ l → ∃ y, Q a y ∧ Rows.uptoBulk y ≤ Rows.uptoBulk x.1 := by
  rcases DataW.trod_slice ht h with ⟨rfl, rfl⟩ | ⟨a, len, cap, elems, rest, n, -, rfl, rfl, -, hlc, -, hell, hget, -, -⟩
  · exact ⟨[], fun d => ⟨rfl, none, 0, rfl, Nat.le_refl _, fun h => (h rfl).elim⟩, Nat.zero_le _, fun a h => by cases h⟩
  · have one : ∀ i, i < len → ∃ p : tg.ty × List Value, W.cells? 0 (a.add (i * n0)) n0 = some p.2 ∧ RepC env ρ Z (encT tg p.1) p.2 ∧ p.2.length = n0 ∧ ∃ y, y ∈ elems.map (·.1) ∧ Q p.1 y := fun i hi => by
      have h1 := hget i hi
      rw [hc, List.getElem?_eq_getElem (by omega)] at h1
      obtain ⟨cs', h2, h3⟩ := Option.bind_eq_some_iff.1 h1
      obtain ⟨b, g1, g2, g3⟩ := hel h3
      exact ⟨(b, cs'), h2, g1, g2, _, List.mem_map.2 ⟨_, List.getElem_mem (by omega), rfl⟩, g3⟩
    obtain ⟨f, hf⟩ := mapM_pick (d, []) len one
    refine ⟨(List.range len).map fun i => (f i).1, fun d => ⟨rfl, some a, cap, by simp, by simpa using hlc, fun hne => ?_⟩, ?_, fun b hb => ?_⟩
    · have hpos : 0 < len := by
        rcases Nat.eq_zero_or_pos len with h0 | h0
        · subst h0; exact (hne rfl).elim
        · exact h0
      obtain ⟨g1, -, g3, -⟩ := hf 0 hpos
      have c0 := (World.cells?_some g1).2.2 0 hn
      rw [Nat.zero_mul, List.getElem?_eq_getElem (by omega)] at c0
      have hsp : a.spot = none := spot_of (v := (f 0).2[0]) (by simpa [Addr.add] using c0)
      refine ⟨a.block, a.off, by obtain ⟨b, o, s⟩ := a; simp only at hsp; subst hsp; rfl, fun i y hy => ?_⟩
      have hi : i < len := by have := (List.getElem?_eq_some_iff.1 hy).1; simpa using this
      have hy' : y = (f i).1 := by
        simp only [List.getElem?_map, List.getElem?_range hi, Option.map_some, Option.some.injEq] at hy
        exact hy.symm
      subst hy'
      obtain ⟨g1, g2, g3, -⟩ := hf i hi
      refine ⟨(f i).2, g2, hkeys _, by rw [hsz]; exact g3, fun j c hj => hZ _ _ _ ?_⟩
      have hjl := (List.getElem?_eq_some_iff.1 hj).1
      have := (World.cells?_some g1).2.2 j (by omega)
      rw [hj, addr_add a _ hsp, addr_add _ _ rfl] at this
      rw [hsz]
      exact this
    · have h1 := length_le (elems.map (·.1))
      simp only [bulk_slice, List.length_map] at h1 ⊢
      simp only [List.length_map, List.length_range]
      omega
    · obtain ⟨i, hi, rfl⟩ := List.mem_map.1 hb
      obtain ⟨-, -, -, y, hy, hq⟩ := hf i (by simpa using hi)
      refine ⟨y, hq, ?_⟩
      have := part_le hy
      rw [bulk_slice]; omega

/-- How much a row holds. -/
def RowLe (s : SeenD) (d : DataW H) : Prop := s.bytes.length ≤ Rows.uptoBulk d ∧ s.list.length ≤ Rows.uptoBulk d ∧ s.text.length ≤ Rows.uptoBulk d ∧ s.ids.length ≤ Rows.uptoBulk d

theorem rd_seen (hZ : ∀ b o v, W.cell? ⟨b, o, none⟩ = some v → Z b o = some v) (h : DataW.trod ench Tryz.prog W 0 spare held fuel 92 cs = some x) : ∃ s : SeenD, RepC env ρ Z (seenE s) cs ∧ cs.length = 203 ∧ RowLe s x.1 := by
  obtain ⟨xs, n, -, rfl, hl, hxl, hget⟩ := DataW.trod_struct Tryz.underlying92 h
  rw [cells92] at hl
  obtain ⟨y0, h0, -⟩ := fld hxl hget 0 83 0 1 rfl cells83
  obtain ⟨y1, h1, -⟩ := fld hxl hget 1 3 1 1 rfl cells3
  obtain ⟨y2, h2, -⟩ := fld hxl hget 2 3 2 1 rfl cells3
  obtain ⟨y3, h3, -⟩ := fld hxl hget 3 76 3 32 rfl cells76
  obtain ⟨y4, h4, b4⟩ := fld hxl hget 4 85 35 3 rfl cells85
  obtain ⟨y5, h5, -⟩ := fld hxl hget 5 88 38 65 rfl cells88
  obtain ⟨y6, h6, b6⟩ := fld hxl hget 6 89 103 1 rfl cells89
  obtain ⟨y7, h7, b7⟩ := fld hxl hget 7 77 104 1 rfl cells77
  obtain ⟨y8, h8, -⟩ := fld hxl hget 8 90 105 32 rfl cells90
  obtain ⟨y9, h9, -⟩ := fld hxl hget 9 79 137 64 rfl cells79
  obtain ⟨y10, h10, -⟩ := fld hxl hget 10 31 201 1 rfl cells31
  obtain ⟨y11, h11, b11⟩ := fld hxl hget 11 23 202 1 rfl cells23
  obtain ⟨v0, e0⟩ := rd_int Tryz.underlying83 h0
  obtain ⟨v1, e1⟩ := rd_int Tryz.underlying3 h1
  obtain ⟨v2, e2⟩ := rd_int Tryz.underlying3 h2
  obtain ⟨v10, e10⟩ := rd_int Tryz.underlying31 h10
  obtain ⟨c5, r5, -⟩ := rd_comm (ρ := ρ) (Z := Z) h5
  obtain ⟨l6, r6, k6, -⟩ := rd_recs (tg := .comm) (ρ := ρ) (Z := Z) (Q := fun _ _ => True) comm0 Tryz.underlying89 cells88 sz88 (by omega) (fun a => rfl) hZ (fun h => by
    obtain ⟨c, g1, g2⟩ := rd_comm (ρ := ρ) (Z := Z) h
    exact ⟨c, g1, g2, trivial⟩) h6
  obtain ⟨l7, r7, k7⟩ := rd_ints (k := .u8) (ρ := ρ) (Z := Z) (.inr rfl) Tryz.underlying77 Tryz.underlying5 cells5' hZ h7
  obtain ⟨l11, r11, k11⟩ := rd_ints (k := .i64) (ρ := ρ) (Z := Z) (.inl rfl) Tryz.underlying23 Tryz.underlying3 cells3 hZ h11
  -- the packet
  obtain ⟨zs, m, -, rfl, hl4, hzl, hget4⟩ := DataW.trod_struct Tryz.underlying85 h4
  rw [cells85] at hl4
  obtain ⟨p0, q0, -⟩ := fld hzl hget4 0 3 0 1 rfl cells3
  obtain ⟨p1, q1, -⟩ := fld hzl hget4 1 3 1 1 rfl cells3
  obtain ⟨p2, q2, bp2⟩ := fld hzl hget4 2 77 2 1 rfl cells77
  obtain ⟨w0, f0⟩ := rd_int Tryz.underlying3 q0
  obtain ⟨w1, f1⟩ := rd_int Tryz.underlying3 q1
  obtain ⟨lb, rb, kb⟩ := rd_ints (k := .u8) (ρ := ρ) (Z := Z) (.inr rfl) Tryz.underlying77 Tryz.underlying5 cells5' hZ q2
  have r4 : RepC env ρ Z (AVal.ofList [.int .i64 w0, .int .i64 w1, .vw .u8 lb]) ((cs.drop 35).take 3) := rep_segs (ss := [1, 1, 1]) (by simp [hl4]) ⟨f0, f1, rb, trivial⟩
  refine ⟨⟨v0, v1, v2, _, w0, w1, lb, c5, l6, l7, _, _, v10, l11⟩, rep_segs (vs := [_, _, _, _, _, _, _, _, _, _, _, _]) (ss := [1, 1, 1, 32, 3, 65, 1, 1, 32, 64, 1, 1]) (by simp [hl])
    ⟨e0, e1, e2, rd_arr Tryz.underlying76 cells76 h3, r4, r5, r6 comm0, r7, rd_arr Tryz.underlying90 cells90 h8, rd_arr Tryz.underlying79 cells79 h9, e10, r11, trivial⟩, hl, ?_, ?_, ?_, ?_⟩
  · exact Nat.le_trans kb (Nat.le_trans bp2 b4)
  · exact Nat.le_trans k6 b6
  · exact Nat.le_trans k7 b7
  · exact Nat.le_trans k11 b11

theorem rd_rows (hZ : ∀ b o v, W.cell? ⟨b, o, none⟩ = some v → Z b o = some v) (h : DataW.trod ench Tryz.prog W 0 spare held fuel 27 cs = some x) : ∃ l : List SeenD, RepC env ρ Z (vS l) cs ∧ l.length ≤ Rows.uptoBulk x.1 ∧ ∀ s, s ∈ l → ∃ y : DataW H, RowLe s y ∧ Rows.uptoBulk y ≤ Rows.uptoBulk x.1 := by
  obtain ⟨l, h1, h2, h3⟩ := rd_recs (tg := .seen) (ρ := ρ) (Z := Z) (Q := RowLe) (dfltT .seen) Tryz.underlying27 cells92 sz92 (by omega) (fun a => rfl) hZ (fun h => rd_seen hZ h) h
  exact ⟨l, h1 _, h2, h3⟩

theorem gate_of {l : List SeenD} {d : DataW H} (hb : Rows.uptoBulk d ≤ 1048576) (h1 : l.length ≤ Rows.uptoBulk d) (h2 : ∀ s, s ∈ l → ∃ y : DataW H, RowLe s y ∧ Rows.uptoBulk y ≤ Rows.uptoBulk d) : accGate l = true := by
  have ro : ∀ n b, n ≤ 1048576 → b ≤ 344 → roomy n b = true := fun n b hn hb => by
    simp only [roomy, decide_eq_true_eq]
    exact Nat.le_trans (Nat.mul_le_mul hn (show b + 1 ≤ 345 by omega)) (by omega)
  refine andB_iff.2 ⟨?_, ro _ _ (by omega) (by omega)⟩
  have : ∀ {l : List SeenD}, (∀ s, s ∈ l → ∃ y : DataW H, RowLe s y ∧ Rows.uptoBulk y ≤ Rows.uptoBulk d) → rowsQ l = true := by
    intro l
    induction l with
    | nil => intro _; rfl
    | cons s l ih =>
      intro h
      obtain ⟨y, ⟨g1, g2, g3, g4⟩, hy⟩ := h s (by simp)
      refine andB_iff.2 ⟨?_, ih fun s hs => h s (by simp [hs])⟩
      simp only [rowQ, andB_iff]
      exact ⟨ro _ _ (by omega) (by omega), ro _ _ (by omega) (by omega), ro _ _ (by omega) (by omega), ro _ _ (by omega) (by omega)⟩
  exact this h2
end
end Go.Abs

namespace Go.Abs
open Go Go.Proofs

/-- A sentinel, its text behind a pointer. -/
structure Sent (W : World) (ps : List MemPlace) (g : Nat) (text : List UInt8) (a : Nat × Nat) : Prop where
  var : W.cell? ⟨g, 0, none⟩ = some (.iface 455 (.pointer (some ⟨a.1, a.2, none⟩)))
  cell : W.cell? ⟨a.1, a.2, none⟩ = some (.string ⟨text.toArray⟩)
  row : ∃ c t, W.heap[a.1]? = some (.cells c t (0, 0))
  place : MemPlace.cell a.1 a.2 ∈ ps

theorem Sent.mono {W : World} {ps qs : List MemPlace} {g : Nat} {text : List UInt8} {a : Nat × Nat} (h : Sent W ps g text a) (hq : ∀ p, p ∈ ps → p ∈ qs) : Sent W qs g text a := ⟨h.var, h.cell, h.row, hq _ h.place⟩

def Sents (W : World) (ps : List MemPlace) : List (String × Nat × List UInt8) → List (Nat × Nat) → Prop
  | [], [] => True
  | x :: l, a :: az => Sent W ps x.2.1 x.2.2 a ∧ Sents W ps l az
  | _, _ => False
theorem Sents.mono {W : World} {ps qs : List MemPlace} (hq : ∀ p, p ∈ ps → p ∈ qs) : ∀ {l : List (String × Nat × List UInt8)} {az : List (Nat × Nat)}, Sents W ps l az → Sents W qs l az
  | [], [], _ => trivial
  | _ :: _, _ :: _, h => ⟨h.1.mono hq, Sents.mono hq h.2⟩
  | [], _ :: _, h => h.elim
  | _ :: _, [], h => h.elim
theorem Sents.places {W : World} {ps : List MemPlace} : ∀ {l : List (String × Nat × List UInt8)} {az : List (Nat × Nat)}, Sents W ps l az → ∀ a, a ∈ az → MemPlace.cell a.1 a.2 ∈ ps
  | [], [], _, _, h => by cases h
  | _ :: _, _ :: _, h, a, ha => by
    rcases List.mem_cons.1 ha with rfl | ha
    · exact h.1.place
    · exact Sents.places h.2 a ha
  | [], _ :: _, h, _, _ => h.elim
  | _ :: _, [], h, _, _ => h.elim

def sentD (x : String × Nat × List UInt8) : String × DataW Unit := (x.1, .iface "*errors.errorString" (.ptr (.agg [.lit (.string x.2.2)])))

theorem ty_cells479 : Tryz.prog.cellsOf 479 = 1 := by kernel_rfl
theorem ty_cells9 : Tryz.prog.cellsOf 9 = 1 := by kernel_rfl
theorem ty_row455 (u : TypeId) (h : Tryz.prog.typeName? 3 u = some "*errors.errorString") : u = 455 :=
  have hs : "*" ++ "errors.errorString" = "*errors.errorString" := by decide
  typeName_ptr_named (nm := "errors.errorString") (by rw [hs]; kernel_rfl) (by kernel_rfl) (by decide) u (by rw [hs]; exact h)

theorem sents_of {W : World} : ∀ (l : List (String × Nat × List UInt8)) (ps : List MemPlace), (∀ x, x ∈ l → Tryz.prog.globalNamed x.1 = some x.2.1 ∧ (Tryz.prog.globals[x.2.1]?).map (·.type) = some 96) →
    DataW.LaidVars Tryz.prog W (l.map sentD) ps → ps.Nodup →
    (∀ b off, MemPlace.cell b off ∈ ps → (∃ c t, W.heap[b]? = some (.cells c t (0, 0))) ∧ ∀ u v, W.cell? ⟨b, off, none⟩ = some (.iface u v) → Value.okWide Tryz.prog W .any 0 u v) →
    ∃ az : List (Nat × Nat), Sents W ps l az ∧ az.Nodup
  | [], ps, _, _, _, _ => ⟨[], trivial, List.nodup_nil⟩
  | x :: l, ps, hg, hv, hnd, hrows => by
    obtain ⟨hg1, hg2⟩ := hg x (by simp)
    obtain ⟨g0, t0, cs0, f0, p0, q0, hg0, ht0, hv0, hd0, hq, rfl⟩ := hv
    obtain rfl := Option.some.inj (hg1.symm.trans hg0)
    obtain rfl := Option.some.inj (hg2.symm.trans ht0)
    obtain ⟨l0⟩ := cs0
    have ok0 : ∀ u v, l0 = [.iface u v] → Value.okWide Tryz.prog W .any 0 u v := fun u v e => by
      subst e
      exact (hrows x.2.1 0 (by simp [MemPlace.row])).2 u v (by simpa using World.var?_cell hg0 hv0 0)
    obtain ⟨a0, s0, rfl, hc0, hs0, hz0, rfl⟩ := errorString_of_trod Tryz.underlying96 ty_row455 Tryz.underlying455 Tryz.underlying479 rfl rfl Tryz.underlying9 ty_cells479 ty_cells9 hd0 ok0
    have hspot : a0.spot = none := by
      cases hs : a0.spot with
      | none => rfl
      | some n =>
        exfalso
        unfold World.cell? at hc0
        rw [hs] at hc0
        split at hc0 <;> simp at hc0
    obtain ⟨ab, ao, asp⟩ := a0
    simp only at hspot
    subst hspot
    have hpl : MemPlace.cell ab ao ∈ MemPlace.row ⟨x.2.1, 0, none⟩ (List.toArray [Value.iface 455 (.pointer (some ⟨ab, ao, none⟩))]).size ++ MemPlace.row ⟨ab, ao, none⟩ 1 ++ q0 := by simp [MemPlace.row]
    obtain ⟨az, h1, h2⟩ := sents_of l q0 (fun y hy => hg y (by simp [hy])) hq (List.Nodup.sublist (List.sublist_append_right _ _) hnd) (fun b off hm => hrows b off (List.mem_append_right _ hm))
    refine ⟨(ab, ao) :: az, ⟨⟨?_, ?_, (hrows ab ao hpl).1, hpl⟩, h1.mono fun p hp => List.mem_append_right _ hp⟩, List.nodup_cons.2 ⟨fun hm => ?_, h2⟩⟩
    · simpa using World.var?_cell hg0 hv0 0
    · rw [hc0, ← hs0]
    · have hp := h1.places _ hm
      have := (List.nodup_append.1 hnd).2.2 (MemPlace.cell ab ao) (by simp [MemPlace.row]) _ hp
      exact this rfl

theorem Sents.get {W : World} {ps : List MemPlace} : ∀ {l : List (String × Nat × List UInt8)} {az : List (Nat × Nat)} {i : Nat} {x : String × Nat × List UInt8}, Sents W ps l az → l[i]? = some x → ∃ a, az[i]? = some a ∧ Sent W ps x.2.1 x.2.2 a
  | [], [], _, _, _, h => by simp at h
  | y :: l, a :: az, i, x, h, hx => by
    cases i with
    | zero => simp at hx; subst hx; exact ⟨a, rfl, h.1⟩
    | succ i =>
      simp at hx
      exact Sents.get (i := i) h.2 hx
  | [], _ :: _, _, _, h, _ => h.elim
  | _ :: _, [], _, _, h, _ => h.elim
theorem nodup_idx {α : Type} {x : α} : ∀ {l : List α} {i j : Nat}, l.Nodup → l[i]? = some x → l[j]? = some x → i = j
  | [], _, _, _, h, _ => by simp at h
  | y :: l, 0, 0, _, _, _ => rfl
  | y :: l, 0, j + 1, hn, h, h' => by
    simp at h h'
    subst h
    exact absurd (List.mem_of_getElem? h') (List.nodup_cons.1 hn).1
  | y :: l, i + 1, 0, hn, h, h' => by
    simp at h h'
    subst h'
    exact absurd (List.mem_of_getElem? h) (List.nodup_cons.1 hn).1
  | y :: l, i + 1, j + 1, hn, h, h' => by
    simp at h h'
    rw [nodup_idx (List.nodup_cons.1 hn).2 h h']

def sentL : List (String × Nat × List UInt8) := [("rime/history.ErrRows", 1, textN texts 1), ("rime/history.ErrAgain", 2, textN texts 2), ("rime/history.ErrPair", 3, textN texts 3), ("rime/history.ErrUnknown", 4, textN texts 4), ("rime/history.ErrTwice", 5, textN texts 5), ("rime/history.ErrPackage", 6, textN texts 6), ("rime/history.ErrShare", 7, textN texts 7), ("rime/history.ErrSession", 8, textN texts 8), ("rime/history.ErrOver", 0, textN texts 0), ("rime/history.ErrSignature", 9, textN texts 9), ("rime/history.ErrInnocent", 10, textN texts 10), ("rime/history.ErrNobody", 11, textN texts 11), ("rime/history.ErrLife", 12, textN texts 12), ("rime/history.ErrForged", 13, textN texts 13)]
def posL : List Nat := [8, 0, 1, 2, 3, 4, 5, 6, 7, 9, 10, 11, 12, 13]
def posOk (id : Nat) : Bool := match sentL[posL.getD id 0]? with
  | some (_, g, t) => Nat.beq g id && t == textN texts id
  | none => false
theorem posOk_all : allB posOk 14 = true := by kernel_rfl
theorem pos_spec {id : Nat} (h : id < 14) : ∃ nm, sentL[posL.getD id 0]? = some (nm, id, textN texts id) := by
  have := allB_spec posOk_all id h
  unfold posOk at this
  cases hs : sentL[posL.getD id 0]? with
  | none => rw [hs] at this; cases this
  | some x =>
    obtain ⟨nm, g, t⟩ := x
    rw [hs] at this
    simp only [Bool.and_eq_true] at this
    have h1 := beq_eq this.1
    have h2 := eq_of_beq this.2
    subst h1 h2
    exact ⟨nm, rfl⟩
def gAt (az : List (Nat × Nat)) (id : Nat) : Nat × Nat := match Nat.blt id 1000 with
  | true => (id, 0)
  | false => az.getD (posL.getD (id - 1000) 0) (0, 0)
/-- All that was there is only read. -/
def zoneOf (W : World) (az : List (Nat × Nat)) : Zone := ⟨fun b o => W.cell? ⟨b, o, none⟩, gAt az⟩

theorem gv_inv {id t : Nat} {v : AVal} (h : gvOf id = some (t, v)) : (id < 14 ∧ v = .iface 455 (.gp (1000 + id))) ∨ (1000 ≤ id ∧ id < 1014 ∧ v = .pair (.str (textN texts (id - 1000))) .unit) ∨ (id = 14 ∧ withET = true ∧ v = .iface 211 (.pair (.th 96) .unit)) := by
  unfold gvOf at h
  cases h1 : Nat.blt id 14 with
  | true => rw [h1] at h; cases h; exact .inl ⟨Nat.le_of_ble_eq_true h1, rfl⟩
  | false =>
    rw [h1] at h
    cases h2 : andB (Nat.ble 1000 id) (Nat.blt id 1014) with
    | true =>
      rw [h2] at h; cases h
      obtain ⟨h3, h4⟩ := andB_iff.1 h2
      exact .inr (.inl ⟨Nat.le_of_ble_eq_true h3, Nat.le_of_ble_eq_true h4, rfl⟩)
    | false =>
      rw [h2] at h
      cases h3 : andB withET (Nat.beq id 14) with
      | true =>
        rw [h3] at h; cases h
        obtain ⟨h4, h5⟩ := andB_iff.1 h3
        exact .inr (.inr ⟨beq_eq h5, h4, rfl⟩)
      | false => rw [h3] at h; cases h
theorem gAt_low {az : List (Nat × Nat)} {id : Nat} (h : id < 1000) : gAt az id = (id, 0) := by
  unfold gAt
  rw [show Nat.blt id 1000 = true from Nat.ble_eq_true_of_le h]
theorem gAt_high {W : World} {ps : List MemPlace} {az : List (Nat × Nat)} (h : Sents W ps sentL az) {id : Nat} (hid : id < 14) : az[posL.getD id 0]? = some (gAt az (1000 + id)) ∧ Sent W ps id (textN texts id) (gAt az (1000 + id)) := by
  obtain ⟨nm, h1⟩ := pos_spec hid
  obtain ⟨a, h2, h3⟩ := h.get h1
  have e : gAt az (1000 + id) = a := by
    unfold gAt
    have : Nat.blt (1000 + id) 1000 = false := by
      cases hb : Nat.blt (1000 + id) 1000 with
      | false => rfl
      | true => have := Nat.le_of_ble_eq_true hb; omega
    rw [this]
    simp only [Nat.add_sub_cancel_left]
    rw [List.getD_eq_getElem?_getD, h2]
    rfl
  rw [e]
  exact ⟨h2, h3⟩

theorem gok_of {W : World} {ps : List MemPlace} {az : List (Nat × Nat)} (h : Sents W ps sentL az) (hnd : az.Nodup) (hET : withET = true → W.cell? ⟨14, 0, none⟩ = some (.iface 211 (.agg #[.pointer (some ⟨18, 96, none⟩)]))) : GOk env (zoneOf W az) W := by
  have hig : ∀ id, env.gv id ≠ none → 1000 ≤ id → ∃ k, k < 14 ∧ id = 1000 + k := fun id hne hle => by
    cases hg : env.gv id with
    | none => exact absurd hg hne
    | some p =>
      obtain ⟨t, v⟩ := p
      rcases gv_inv hg with ⟨h1, _⟩ | ⟨h1, h2, _⟩ | ⟨h1, _⟩
      · omega
      · exact ⟨id - 1000, by omega, by omega⟩
      · omega
  refine ⟨fun id t v hg => ?_, fun id hid => gAt_low hid, fun i j hi hj h1 h2 he => ?_, fun id hi h1 => ?_⟩
  · rcases gv_inv hg with ⟨h1, rfl⟩ | ⟨h1, h2, rfl⟩ | ⟨rfl, h2, rfl⟩
    · refine ⟨rfl, [.iface 455 (.pointer (some ⟨(gAt az (1000 + id)).1, (gAt az (1000 + id)).2, none⟩))], fun ρ => ⟨_, rfl, rfl⟩, fun j c hj => ?_⟩
      cases j with
      | succ j => simp at hj
      | zero =>
        simp at hj; subst hj
        show W.cell? ⟨(gAt az id).1, (gAt az id).2 + 0, none⟩ = _
        rw [gAt_low (by omega)]
        exact (gAt_high h h1).2.var
    · obtain ⟨k, rfl⟩ : ∃ k, id = 1000 + k := ⟨id - 1000, by omega⟩
      refine ⟨rfl, [.string ⟨(textN texts k).toArray⟩], fun ρ => ⟨[_], [], rfl, by simp [RepC], rfl⟩, fun j c hj => ?_⟩
      cases j with
      | succ j => simp at hj
      | zero =>
        simp at hj; subst hj
        exact (gAt_high h (id := k) (by omega)).2.cell
    · refine ⟨rfl, [.iface 211 (.agg #[.pointer (some ⟨18, 96, none⟩)])], fun ρ => ⟨_, rfl, _, rfl, [.pointer (some ⟨18, 96, none⟩)], [], rfl, rfl, rfl⟩, fun j c hj => ?_⟩
      cases j with
      | succ j => simp at hj
      | zero =>
        simp at hj; subst hj
        show W.cell? ⟨(gAt az 14).1, (gAt az 14).2 + 0, none⟩ = _
        rw [gAt_low (by omega)]
        exact hET h2
  · obtain ⟨k, hk, rfl⟩ := hig i hi h1
    obtain ⟨m, hm, rfl⟩ := hig j hj h2
    have e1 := (gAt_high h hk).1
    have e2 := (gAt_high h hm).1
    have he' : gAt az (1000 + k) = gAt az (1000 + m) := he
    rw [he'] at e1
    have hp := nodup_idx hnd e1 e2
    obtain ⟨n1, q1⟩ := pos_spec hk
    obtain ⟨n2, q2⟩ := pos_spec hm
    rw [hp, q2] at q1
    simp only [Option.some.injEq, Prod.mk.injEq] at q1
    omega
  · obtain ⟨k, hk, rfl⟩ := hig id hi h1
    exact (gAt_high h hk).2.row

theorem heap_of {W : World} {ps : List MemPlace} {az : List (Nat × Nat)} (h : Sents W ps sentL az) (hnd : az.Nodup) (hET : withET = true → W.cell? ⟨14, 0, none⟩ = some (.iface 211 (.agg #[.pointer (some ⟨18, 96, none⟩)]))) (ρ : PMap) : HeapOk env ρ (zoneOf W az) W (ofBlks 0 []) := by
  refine ⟨fun k b hb => (by cases hb), fun k k' b b' _ hb => (by cases hb), fun k b hb => (by cases hb), fun b o v hz => hz, ?_, gok_of h hnd hET⟩
  have := (gAt_high h (id := 0) (by omega)).2.var
  rcases Nat.eq_zero_or_pos W.heap.size with h0 | h0
  · simp [World.cell?, h0] at this
  · exact h0
end Go.Abs
