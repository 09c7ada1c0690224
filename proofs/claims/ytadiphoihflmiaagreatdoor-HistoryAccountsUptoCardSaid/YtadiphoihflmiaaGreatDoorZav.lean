/- A record's own slice is appended to. A record's own slice is appended to: in the model. Accounts whose shares' headers are known, as accounts that are only read. Copies of slices: what they answer is only read. -/
import Derived.Test.YtadiphoihflmiaaGreatDoorZau
import Derived.Test.YtadiphoihflmiaaGreatDoorZat
set_option linter.all false
set_option maxRecDepth 1000000
namespace Go.Abs
open Go.Proofs

/-! ### accounts whose shares' headers are known -/
structure Hdr where
  a : Option Addr
  n : Nat
  c : Nat
def Hdr.val (h : Hdr) : Value := .slice h.a h.n h.c
def hdr0 : Hdr := ⟨none, 0, 0⟩
structure AcctR where
  ses : List UInt8
  ids : List Int
  text : List UInt8
  done : Bool
  sig : List UInt8
  failed : Bool
  code : Int
  culprits : List Int
  sh : Hdr

def acctF (a : AcctR) : List AVal := [.arr .u8 32 a.ses, .vw .i64 a.ids, .vw .u8 a.text, .bool a.done, .arr .u8 64 a.sig, .bool a.failed, .int .i64 a.code, .vw .i64 a.culprits]
def acctRE (a : AcctR) : AVal := AVal.ofList (acctF a ++ [.raw a.sh.val])
def acctSE (a : AcctR) (k : Nat) : AVal := AVal.ofList (acctF a ++ [.sw k])
def decHdr : AVal → Option Hdr
  | .raw (.slice a n c) => some ⟨a, n, c⟩
  | .nilsl => some hdr0
  | _ => none
theorem decHdr_le {v : AVal} {h : Hdr} (e : decHdr v = some h) : AVal.Le v (.raw h.val) := by
  unfold decHdr at e
  split at e <;> cases e
  · exact AVal.Le.refl _
  · exact ⟨fun _ h => by simp [AVal.keys] at h, rfl, fun h => by simp only [RepC] at h ⊢; exact h, nilsl_ty fun env d t e ht => by simp [hasTy, ht]; rfl⟩
def decAcctR (v : AVal) : Option AcctR := match unL v with
  | some [ses, is, tx, dn, sg, fl, cd, cu, sh] => (decArr 32 ses).bind fun ses => (decIs is).bind fun is => (decU tx).bind fun tx => (decB dn).bind fun dn =>
    (decArr 64 sg).bind fun sg => (decB fl).bind fun fl => (decI cd).bind fun cd => (decIs cu).bind fun cu => (decHdr sh).bind fun sh =>
    some ⟨ses, is, tx, dn, sg, fl, cd, cu, sh⟩
  | _ => none
theorem decAcctR_le {v : AVal} {s : AcctR} (h : decAcctR v = some s) : AVal.Le v (acctRE s) := by
  unfold decAcctR at h
  split at h
  · rename_i hu
    rw [unL_eq hu]
    simp only [Option.bind_eq_some_iff] at h
    obtain ⟨_, h1, _, h2, _, h3, _, h4, _, h5, _, h6, _, h7, _, h8, _, h9, h⟩ := h
    cases h
    exact AVal.Le.ofList (l' := [_, _, _, _, _, _, _, _, _]) ⟨decArr_le h1, decIs_le h2, decU_le h3, decB_le h4, decArr_le h5, decB_le h6, decI_le h7, decIs_le h8, decHdr_le h9, trivial⟩
  · cases h
def acctR0 : AcctR := ⟨hash0, [], [], false, List.replicate 64 (zeroT .u8), false, 0, [], hdr0⟩
def acctRC : Codec where
  α := AcctR
  enc := acctRE
  dec := decAcctR
  dflt := acctR0
  eq := none
theorem acctRC_good (l : List AcctR) : (Cont.recs acctRC l).good := ⟨fun v a h => decAcctR_le h, fun a => rfl, fun vt h => by cases h⟩

/-! ### what a header points to -/
def HdrOk (h : Hdr) (x : Own) : Prop := h.n = x.vals.length ∧ h.c = x.cap ∧ (x.cap ≠ 0 → h.a = some ⟨x.b, x.o, none⟩)
structure RelX (acc : List AcctR) (X : List Own) : Prop where
  len : acc.length = X.length
  hdr : ∀ (i : Nat) (a : AcctR) (x : Own), acc[i]? = some a → X[i]? = some x → HdrOk a.sh x
def own0 : Own := ⟨0, 0, 0, []⟩
def acctD (a : AcctR) (x : Own) : AcctD := ⟨a.ses, a.ids, a.text, a.done, a.sig, a.failed, a.code, a.culprits, x.vals⟩

/-! ### the region -/
def headC1 : List Code → Code
  | [] => .skip
  | c :: _ => c
noncomputable def regN (f i id : Nat) : Code := headC1 (regsAt id (loopN f i))
attribute [irreducible] regN

def tabT (i : Nat) : Nat → (Nat → Option AVal) → List (Option AVal)
  | 0, _ => []
  | n + 1, g => g i :: tabT (i + 1) n g
def armL (g : Nat → Option AVal) : List (Option AVal) := tabT 0 7 g ++ (some (.ptr 0 []) :: g 8 :: some (.ptr 1 []) :: tabT 10 92 g)
def armT (g : Nat → Option AVal) : List (Option AVal) := armL g ++ (noneL 11 ++ tabT 113 2 g)
def armH (r : SeenD) (a : AcctR) (vals : List Int) : List (Nat × Blk) := [(0, ⟨.var 92, .var (seenE r)⟩), (1, ⟨.var 81, .var (acctSE a 2)⟩), (2, ⟨.row 3, .ints .i64 vals⟩)]
theorem arm_eq (g : Nat → Option AVal) (r : SeenD) (a : AcctR) (vals : List Int) (fuel : Nat) (KA : XE → Nat → List (Option AVal) → List (Option AVal) → Option Blk → Option Blk → Option Blk → Prop) :
    evC [] 10 0 3 (fuel + 10) (regN 10 0 19) ⟨armT g, lookL (armH r a vals), fun _ => false⟩ (fun e S' => KA e S'.tmps.length (S'.tmps.take 102) (S'.tmps.drop 113) (S'.heap 0) (S'.heap 1) (S'.heap (keyAt 19 8))) =
    chk (roomy (vals.length + 1) 8) (KA .normal 115 (armL g) (tabT 113 2 g) (some ⟨.var 92, .var (seenE r)⟩) (some ⟨.var 81, .var (acctSE a (keyAt 19 8))⟩) (some ⟨.row 3, .ints .i64 (vals ++ [r.id])⟩)) := by kernel_rfl
end Go.Abs

namespace Go.Abs
open Go.Proofs

/-! ### slots -/
theorem getL_take : ∀ {l : List (Option AVal)} {n t : Nat}, t < n → getL (l.take n) t = getL l t
  | [], n, t, h => by simp [getL]
  | x :: l, 0, t, h => by omega
  | x :: l, n + 1, 0, h => rfl
  | x :: l, n + 1, t + 1, h => by
    simp only [List.take_succ_cons, getL]
    exact getL_take (by omega)
theorem getL_drop : ∀ {l : List (Option AVal)} {n t : Nat}, getL (l.drop n) t = getL l (n + t)
  | [], n, t => by simp [getL]
  | x :: l, 0, t => by simp
  | x :: l, n + 1, t => by
    rw [List.drop_succ_cons, show n + 1 + t = (n + t) + 1 by omega]
    simp only [getL]
    exact getL_drop
theorem getL_app1 : ∀ {l m : List (Option AVal)} {t : Nat}, t < l.length → getL (l ++ m) t = getL l t
  | [], m, t, h => by simp at h
  | x :: l, m, 0, h => rfl
  | x :: l, m, t + 1, h => by
    simp only [List.cons_append, getL]
    exact getL_app1 (by simpa using h)
theorem getL_app2 : ∀ {l m : List (Option AVal)} {t : Nat}, l.length ≤ t → getL (l ++ m) t = getL m (t - l.length)
  | [], m, t, h => by simp
  | x :: l, m, 0, h => by simp at h
  | x :: l, m, t + 1, h => by
    simp only [List.cons_append, getL, List.length_cons]
    rw [getL_app2 (by simpa using h)]
    congr 1
    omega
theorem length_tabT (n : Nat) (g : Nat → Option AVal) : ∀ i, (tabT i n g).length = n := by
  induction n with
  | zero => intro i; rfl
  | succ n ih => intro i; simp [tabT, ih]
theorem getL_tabT {g : Nat → Option AVal} : ∀ {n i t : Nat}, t < n → getL (tabT i n g) t = g (i + t)
  | 0, i, t, h => by omega
  | n + 1, i, 0, h => rfl
  | n + 1, i, t + 1, h => by
    simp only [tabT, getL]
    rw [getL_tabT (by omega)]
    congr 1
    omega
theorem getL_end : ∀ {l : List (Option AVal)} {t : Nat}, l.length ≤ t → getL l t = none
  | [], t, h => rfl
  | x :: l, 0, h => by simp at h
  | x :: l, t + 1, h => by simp only [getL]; exact getL_end (by simpa using h)
def restN : List (Option AVal) → Bool
  | [] => true
  | some _ :: _ => false
  | none :: l => restN l
theorem restN_get : ∀ {l : List (Option AVal)} {t : Nat}, restN l = true → getL l t = none
  | [], t, h => rfl
  | none :: l, 0, h => rfl
  | none :: l, t + 1, h => by simp only [getL]; exact restN_get (by simpa [restN] using h)
  | some v :: l, t, h => by cases h
theorem length_armL (g : Nat → Option AVal) : (armL g).length = 102 := by simp [armL, length_tabT]
theorem getL_armL {g : Nat → Option AVal} {t : Nat} (h : t < 102) : getL (armL g) t = if t = 7 then some (.ptr 0 []) else if t = 9 then some (.ptr 1 []) else g t := by
  unfold armL
  rcases Nat.lt_or_ge t 7 with h1 | h1
  · rw [getL_app1 (by rw [length_tabT]; exact h1), getL_tabT h1, if_neg (by omega), if_neg (by omega), Nat.zero_add]
  · rw [getL_app2 (by rw [length_tabT]; exact h1), length_tabT]
    rcases Nat.lt_or_ge t 10 with h2 | h2
    · obtain rfl | rfl | rfl : t = 7 ∨ t = 8 ∨ t = 9 := by omega
      · rfl
      · rfl
      · rfl
    · obtain ⟨s, rfl⟩ : ∃ s, t = s + 10 := ⟨t - 10, by omega⟩
      rw [show s + 10 - 7 = s + 3 by omega, if_neg (by omega), if_neg (by omega)]
      simp only [getL]
      rw [getL_tabT (by omega), Nat.add_comm]
theorem getL_armT {g : Nat → Option AVal} {t : Nat} {v : AVal} (hg : ∀ t, 102 ≤ t → g t = none) (h : getL (armT g) t = some v) : (t = 7 ∧ v = .ptr 0 []) ∨ (t = 9 ∧ v = .ptr 1 []) ∨ (t ≠ 7 ∧ t ≠ 9 ∧ g t = some v) := by
  unfold armT at h
  rcases Nat.lt_or_ge t 102 with h1 | h1
  · rw [getL_app1 (by rw [length_armL]; exact h1), getL_armL h1] at h
    split at h
    · exact .inl ⟨‹_›, (Option.some.inj h).symm⟩
    · split at h
      · exact .inr (.inl ⟨‹_›, (Option.some.inj h).symm⟩)
      · exact .inr (.inr ⟨‹_›, ‹_›, h⟩)
  · rw [getL_app2 (by rw [length_armL]; exact h1), length_armL] at h
    rcases Nat.lt_or_ge (t - 102) 11 with h2 | h2
    · rw [getL_app1 (by rw [length_noneL]; exact h2)] at h
      exact (getL_noneL h).elim
    · rw [getL_app2 (by rw [length_noneL]; exact h2), length_noneL] at h
      rcases Nat.lt_or_ge (t - 102 - 11) 2 with h3 | h3
      · rw [getL_tabT h3, hg _ (by omega)] at h; cases h
      · rw [getL_end (by rw [length_tabT]; exact h3)] at h; cases h

/-! ### the part that is shown by hand -/
def armPre (n : Nat) (acc : List AcctR) (X0 : List Own) : Prop := n < acc.length ∧ RelX acc X0 ∧ ∀ x, X0[n]? = some x → roomy (x.vals.length + 1) 8 = true
def armHk (k7 n : Nat) (r : SeenD) (acc : List AcctR) (X0 : List Own) : HkG (List Own) := fun S X K =>
  armPre n acc X0 ∧ X = X0 ∧ S.tmps.length = 115 ∧ getL S.tmps 7 = some (.ptr k7 []) ∧ getL S.tmps 9 = some (.ptr 0 [.i n]) ∧ restN (S.tmps.drop 102) = true ∧ S.heap k7 = some ⟨.var 92, .var (seenE r)⟩ ∧ S.heap 0 = some ⟨.row 81, .recs acctRC acc⟩ ∧
  ∀ (x : Own) (h : Hdr), HdrOk h x → x.vals = (X0.getD n own0).vals ++ [r.id] → K .normal ⟨S.tmps, upd1 S.heap 0 (some ⟨.row 81, .recs acctRC (acc.set n { acc.getD n acctR0 with sh := h })⟩), S.used⟩ (X0.set n x)

theorem acctRE_ty (a : AcctR) : hasTy env 8 81 (acctRE a) = true := by kernel_rfl
theorem acctSE_ty (a : AcctR) (k : Nat) : hasTy env 8 81 (acctSE a k) = true := by kernel_rfl
theorem td3 : env.td 3 = some (.int .i64) := by kernel_rfl
theorem sz3 : env.sz 3 = 1 := by kernel_rfl
theorem acctF_keys (a : AcctR) : keysL (acctF a) = [] := rfl

section
variable {Z0 Z : Zone} {ρ0 ρ : PMap} {H0 : Heap} {w0 w : World} {nb : Nat} {a : Act} {S : St}

/-- A record with its slice as a row of its own, and back. -/
theorem recToS {ρ' : PMap} {Z : Zone} {an : AcctR} {cs : List Value} {k : Nat} (h : RepC env ρ Z (acctRE an) cs) (hk : RepC env ρ' Z (.sw k) [an.sh.val]) : RepC env ρ' Z (acctSE an k) cs := by
  obtain ⟨c1, c2, rfl, h1, h2⟩ := RepC_last.1 h
  simp only [RepC] at h2
  subst h2
  have h3 : RepC env ρ' Z (AVal.ofList (acctF an)) c1 := RepC.congr (ρ' := ρ') h1 fun k hk => by
    rw [keys_ofList, acctF_keys] at hk
    cases hk
  exact RepC_last.2 ⟨c1, _, rfl, h3, hk⟩
theorem recOfS {ρ' : PMap} {Z : Zone} {an : AcctR} {cs : List Value} {k : Nat} (h : RepC env ρ' Z (acctSE an k) cs) : ∃ hd : Hdr, RepC env ρ' Z (.sw k) [hd.val] ∧ RepC env ρ Z (acctRE { an with sh := hd }) cs := by
  obtain ⟨c1, c2, rfl, h1, h2⟩ := RepC_last.1 h
  have h3 := h2
  simp only [RepC] at h2
  obtain ⟨ao, cap, e, g1, rfl, g3, g4⟩ := h2
  refine ⟨⟨ao, (ρ' k).len, cap⟩, h3, ?_⟩
  have h5 : RepC env ρ Z (AVal.ofList (acctF an)) c1 := RepC.congr (ρ' := ρ) h1 fun k hk => by
    rw [keys_ofList, acctF_keys] at hk
    cases hk
  exact RepC_last.2 ⟨c1, _, rfl, h5, by simp only [RepC, Hdr.val]⟩

theorem repEl_ints {ρ : PMap} {Z : Zone} : ∀ (l : List Int), RepEl env ρ Z 3 (l.map (AVal.int .i64)) (l.map (Value.int .i64))
  | [] => rfl
  | x :: l => ⟨[.int .i64 x], l.map (Value.int .i64), rfl, ⟨1, by simp [hasTy, td3, IntKind.same]⟩, by simp only [RepC]; rfl, repEl_ints l⟩
theorem repEl_ints_inv {ρ : PMap} {Z : Zone} : ∀ {l : List Int} {cs : List Value}, RepEl env ρ Z 3 (l.map (AVal.int .i64)) cs → cs = l.map (Value.int .i64)
  | [], cs, h => h
  | x :: l, cs, h => by
    obtain ⟨c1, c2, rfl, -, h2, h3⟩ := h
    simp only [RepC] at h2
    rw [repEl_ints_inv h3, h2]
    rfl

theorem arm_sound {n0 k7 n : Nat} {r : SeenD} {acc : List AcctR} {X0 : List Own} (hw : w0.heap.size = n0) (hk7 : k7 ≠ 0) :
    SoundG Tryz.prog env Z0 ρ0 H0 w0 nb (sideX n0) (regN 10 0 19) (armHk k7 n r acc X0) := by
  intro S g Z ρ a w KK Q hQ hs hj hk
  obtain ⟨⟨hn, hrel, hroom⟩, hgX, hlen, h7, h9, hrest, hb7, hb0, hK⟩ := hk
  subst hgX
  have he := env_ok
  have hC := tabN_ok env_ok mixed (tabL_ok (l := []) trivial) (live := liveOf) (fuel := 5000) fnsOf_ok 0
  obtain ⟨x0, hx0⟩ : ∃ x0, g[n]? = some x0 := ⟨_, List.getElem?_eq_getElem (by rw [← hrel.len]; exact hn)⟩
  obtain ⟨an, han⟩ : ∃ an, acc[n]? = some an := ⟨_, List.getElem?_eq_getElem hn⟩
  have hh := hrel.hdr n an x0 han hx0
  have ho := hj.all x0 (List.mem_of_getElem? hx0)
  have hB := hs.pre.heap.blk 0 _ hb0
  have hB7 := hs.pre.heap.blk k7 _ hb7
  obtain ⟨cs, b1, b2, b3⟩ := hB.cells rfl
  have b1' : (∃ d, env.td 81 = some d) ∧ (acc.map acctRE).length = (ρ 0).len ∧ RepEl env ρ Z 81 (acc.map acctRE) cs ∧ (Cont.recs acctRC acc).good := b1
  obtain ⟨hd81, hlen81, hel, hgood⟩ := b1'
  have hnel : (acc.map acctRE)[n]? = some (acctRE an) := by simp [han]
  obtain ⟨c1, c2, c3, e0, e1, g2, g3, g4, g5⟩ := hel.nth he.size hnel
  have l2 : c2.length = env.sz 81 := g3.len he.size g2
  have lcs : cs.length = acc.length * env.sz 81 := by rw [hel.len he.size]; simp
  have hmul : (n + 1) * env.sz 81 ≤ acc.length * env.sz 81 := Nat.mul_le_mul_right _ hn
  have hs1 : (n + 1) * env.sz 81 = n * env.sz 81 + env.sz 81 := Nat.succ_mul _ _
  generalize hsz : env.sz 81 = sz at *
  -- places
  obtain ⟨ρf, f0, f1, f2⟩ : ∃ ρf : PMap, ρf 0 = ρ k7 ∧ ρf 1 = ⟨(ρ 0).block, (ρ 0).lo + n * sz, (ρ 0).lo + (n + 1) * sz, .var 81, 0⟩ ∧ ρf 2 = ⟨if x0.cap = 0 then 0 else x0.b, x0.o, x0.o + x0.cap, .row 3, x0.vals.length⟩ :=
    ⟨fun k => match k with
      | 0 => ρ k7
      | 1 => ⟨(ρ 0).block, (ρ 0).lo + n * sz, (ρ 0).lo + (n + 1) * sz, .var 81, 0⟩
      | _ => ⟨if x0.cap = 0 then 0 else x0.b, x0.o, x0.o + x0.cap, .row 3, x0.vals.length⟩, rfl, rfl, rfl⟩
  have hHf : ∀ k b, lookL (armH r an x0.vals) k = some b → (k = 0 ∧ b = ⟨.var 92, .var (seenE r)⟩) ∨ (k = 1 ∧ b = ⟨.var 81, .var (acctSE an 2)⟩) ∨ (k = 2 ∧ b = ⟨.row 3, .ints .i64 x0.vals⟩) := by
    intro k b hb
    match k, hb with
    | 0, hb => exact .inl ⟨rfl, (Option.some.inj hb).symm⟩
    | 1, hb => exact .inr (.inl ⟨rfl, (Option.some.inj hb).symm⟩)
    | 2, hb => exact .inr (.inr ⟨rfl, (Option.some.inj hb).symm⟩)
    | k + 3, hb => cases hb
  have r2 : ∀ i, (ρf 2).lo ≤ i → i < (ρf 2).hi → x0.has (ρf 2).block i := by
    intro i i1 i2
    rw [f2] at i1 i2 ⊢
    simp only at i1 i2 ⊢
    refine ⟨?_, i1, i2⟩
    rw [if_neg (by omega)]
  have r1 : ∀ i, (ρf 1).lo ≤ i → i < (ρf 1).hi → (ρf 1).block = (ρ 0).block ∧ (ρ 0).lo ≤ i ∧ i < (ρ 0).hi ∧ (ρ 0).lo + n * sz ≤ i ∧ i < (ρ 0).lo + n * sz + sz := by
    intro i i1 i2
    rw [f1] at i1 i2 ⊢
    simp only at i1 i2 ⊢
    exact ⟨trivial, by omega, by omega, by omega, by omega⟩
  have in7 : ∀ i, (ρ k7).lo ≤ i → i < (ρ k7).hi → inReg ρ S.heap (ρ k7).block i := fun i i1 i2 => ⟨k7, _, hb7, rfl, i1, i2⟩
  have in0 : ∀ i, (ρ 0).lo ≤ i → i < (ρ 0).hi → inReg ρ S.heap (ρ 0).block i := fun i i1 i2 => ⟨0, _, hb0, rfl, i1, i2⟩
  have hreg : ∀ b i, inReg ρf (lookL (armH r an x0.vals)) b i → (b = (ρ k7).block ∧ (ρ k7).lo ≤ i ∧ i < (ρ k7).hi) ∨ (b = (ρ 0).block ∧ (ρ 0).lo ≤ i ∧ i < (ρ 0).hi ∧ (ρ 0).lo + n * sz ≤ i ∧ i < (ρ 0).lo + n * sz + sz) ∨ x0.has b i := by
    rintro b i ⟨k, B, q1, rfl, q3, q4⟩
    rcases hHf k B q1 with ⟨rfl, -⟩ | ⟨rfl, -⟩ | ⟨rfl, -⟩
    · rw [f0] at q3 q4 ⊢; exact .inl ⟨rfl, q3, q4⟩
    · obtain ⟨z1, z2⟩ := r1 i q3 q4; exact .inr (.inl ⟨z1, z2⟩)
    · exact .inr (.inr (r2 i q3 q4))
  have d70 : ∀ b i, b = (ρ k7).block → (ρ k7).lo ≤ i → i < (ρ k7).hi → b = (ρ 0).block → (ρ 0).lo ≤ i → i < (ρ 0).hi → False := fun b i j1 j2 j3 j4 j5 j6 => hs.pre.heap.dis k7 0 _ _ hk7 hb7 hb0 i (j1.symm.trans j4) j2 j3 j5 j6
  have dx7 : ∀ b i, x0.has b i → b = (ρ k7).block → (ρ k7).lo ≤ i → i < (ρ k7).hi → False := fun b i hx j1 j2 j3 => ho.heap b i hx (j1 ▸ in7 i j2 j3)
  have dx0 : ∀ b i, x0.has b i → b = (ρ 0).block → (ρ 0).lo ≤ i → i < (ρ 0).hi → False := fun b i hx j1 j2 j3 => ho.heap b i hx (j1 ▸ in0 i j2 j3)
  have hheap : HeapOk env ρf Z w (lookL (armH r an x0.vals)) := by
    refine ⟨fun k b hb => ?_, fun k k' b b' hne hb hb' => ?_, fun k b hb i i1 i2 => ?_, hs.pre.heap.zone, hs.pre.heap.pos, hs.pre.heap.gok⟩
    · rcases hHf k b hb with ⟨rfl, rfl⟩ | ⟨rfl, rfl⟩ | ⟨rfl, rfl⟩
      · rw [f0]; exact hB7.congr fun j hj => absurd (show j ∈ ([] : List Nat) from hj) (by simp)
      · rw [f1]
        refine ⟨rfl, fun _ => ⟨c2, ⟨⟨8, acctSE_ty an 2⟩, recToS g2 ?_⟩, fun i c hc => ?_, ?_⟩, fun _ i i1 i2 => ?_, hB.there, fun h => by cases h⟩
        · simp only [RepC]
          refine ⟨an.sh.a, x0.cap, 3, by rw [f2], ?_, ?_, fun hc => ⟨?_, ?_⟩⟩
          · rw [f2]; simp only [Hdr.val]; rw [hh.1, hh.2.1]
          · rw [f2]; exact ho.len
          · rw [f2]; simp only; rw [if_neg hc]; exact hh.2.2 hc
          · rw [f2, sz3]; simp
        · have hi := (List.getElem?_eq_some_iff.1 hc).1
          have := b2 (n * sz + i) c (by rw [e0, List.append_assoc, List.getElem?_append_right (by omega), e1, show n * sz + i - n * sz = i by omega, List.getElem?_append_left hi]; exact hc)
          rw [← Nat.add_assoc] at this
          exact this
        · simp only; omega
        · simp only at i1 i2
          exact hB.own rfl i (by omega) (by omega)
      · rw [f2]
        refine ⟨rfl, fun _ => ⟨x0.vals.map (Value.int .i64), ⟨⟨_, td3⟩, by simp [Cont.elems], repEl_ints x0.vals, trivial⟩, fun i c hc => ?_, ?_⟩, fun _ i i1 i2 => ?_, ?_, fun h => by cases h⟩
        · simp only [List.getElem?_map, Option.map_eq_some_iff] at hc
          obtain ⟨v, hv, rfl⟩ := hc
          have hi := (List.getElem?_eq_some_iff.1 hv).1
          have := ho.len
          simp only
          rw [if_neg (by omega)]
          exact ho.cells i v hv
        · have := ho.len
          simp only [List.length_map]; omega
        · simp only at i1 i2 ⊢
          rw [if_neg (by omega)]
          exact ho.there _ i ⟨rfl, i1, i2⟩
        · simp only
          split
          · exact hs.pre.heap.pos
          · exact (ho.fresh x0.b x0.o ⟨rfl, by omega, by omega⟩).2
    · intro i j1 j2 j3 j4 j5
      rcases hHf k b hb with ⟨rfl, -⟩ | ⟨rfl, -⟩ | ⟨rfl, -⟩ <;> rcases hHf k' b' hb' with ⟨rfl, -⟩ | ⟨rfl, -⟩ | ⟨rfl, -⟩
      · exact hne rfl
      · obtain ⟨z1, z2, z3, -⟩ := r1 i j4 j5
        rw [f0] at j1 j2 j3
        exact d70 _ i rfl j2 j3 (j1.trans z1) z2 z3
      · rw [f0] at j1 j2 j3
        exact dx7 _ i (r2 i j4 j5) j1.symm j2 j3
      · obtain ⟨z1, z2, z3, -⟩ := r1 i j2 j3
        rw [f0] at j1 j4 j5
        exact d70 _ i rfl j4 j5 (j1.symm.trans z1) z2 z3
      · exact hne rfl
      · obtain ⟨z1, z2, z3, -⟩ := r1 i j2 j3
        exact dx0 _ i (r2 i j4 j5) (j1.symm.trans z1) z2 z3
      · rw [f0] at j1 j4 j5
        exact dx7 _ i (r2 i j2 j3) j1 j4 j5
      · obtain ⟨z1, z2, z3, -⟩ := r1 i j4 j5
        exact dx0 _ i (r2 i j2 j3) (j1.trans z1) z2 z3
      · exact hne rfl
    · rcases hHf k b hb with ⟨rfl, -⟩ | ⟨rfl, -⟩ | ⟨rfl, -⟩
      · rw [f0] at i1 i2 ⊢; exact hs.pre.heap.zdis k7 _ hb7 i i1 i2
      · obtain ⟨z1, z2, z3, -⟩ := r1 i i1 i2
        rw [z1]
        exact hs.pre.heap.zdis 0 _ hb0 i z2 z3
      · exact ho.zone _ i (r2 i i1 i2)
  -- the state that the region sees
  obtain ⟨gf, hgf⟩ : ∃ gf : Nat → Option AVal, ∀ t, gf t = (match getL S.tmps t with
    | some _ => some (.raw (a.tmps.getD t undef))
    | none => none) := ⟨_, fun _ => rfl⟩
  have hrest' : ∀ t, 102 ≤ t → getL S.tmps t = none := fun t ht => by
    obtain ⟨s, rfl⟩ : ∃ s, t = 102 + s := ⟨t - 102, by omega⟩
    rw [← getL_drop]; exact restN_get hrest
  have hgn : ∀ t, 102 ≤ t → gf t = none := fun t ht => by rw [hgf, hrest' t ht]
  have hp7 := ptr_inv (hs.pre.tmps 7 _ h7).1
  have hp9 := ptr_inv (hs.pre.tmps 9 _ h9).1
  have hroot : (ρ 0).root = .row 81 := hB.root
  have hoff : (ρ 0).root.off env [.i n] = n * sz := by rw [hroot]; simp only [Root.off, offP]; rw [hsz, Nat.add_zero]
  have hsync : Sync env Z Z ρf (lookL (armH r an x0.vals)) w 3 ⟨armT gf, lookL (armH r an x0.vals), fun _ => false⟩ ρf a w := by
    refine ⟨⟨?_, fun t v ht => ?_, hheap, fun k b hb => ?_⟩, Keeps.refl _ _, fun k b hb i i1 i2 => .inr ⟨k, b, hb, rfl, i1, i2⟩, fun _ _ => rfl, by omega, hs.defers, Grow.refl _ _ _⟩
    · show a.tmps.size = (armT gf).length
      rw [hs.pre.size, hlen]; simp [armT, armL, length_tabT, length_noneL]
    · rcases getL_armT hgn ht with ⟨rfl, rfl⟩ | ⟨rfl, rfl⟩ | ⟨t7, t9, hv⟩
      · refine ⟨?_, fun k hk => .inl (by simp [AVal.keys] at hk; omega)⟩
        rw [hp7.2]; unfold RepV; simp only [AVal.isAgg, RepC]; rw [f0]; exact ⟨hp7.1, rfl⟩
      · refine ⟨?_, fun k hk => .inl (by simp [AVal.keys] at hk; omega)⟩
        rw [hp9.2, hoff]; unfold RepV; simp only [AVal.isAgg, RepC]; rw [f1]
        exact ⟨trivial, rfl⟩
      · rw [hgf] at hv
        cases hq : getL S.tmps t with
        | none => rw [hq] at hv; cases hv
        | some v0 =>
          rw [hq] at hv; cases hv
          refine ⟨?_, fun k hk => by simp [AVal.keys] at hk⟩
          unfold RepV; simp only [AVal.isAgg, RepC]
    · rcases hHf k b hb with ⟨rfl, rfl⟩ | ⟨rfl, rfl⟩ | ⟨rfl, rfl⟩
      · exact ⟨.inl (by omega), fun k' hk' => absurd (show k' ∈ ([] : List Nat) from hk') (by simp)⟩
      · exact ⟨.inl (by omega), fun k' hk' => .inl (by have : k' ∈ ([2] : List Nat) := hk'; simp at this; omega)⟩
      · exact ⟨.inl (by omega), fun k' hk' => absurd (show k' ∈ ([] : List Nat) from hk') (by simp)⟩
  have hev : evC [] 10 0 3 20 (regN 10 0 19) ⟨armT gf, lookL (armH r an x0.vals), fun _ => false⟩ (fun e S' => e = .normal ∧ S'.tmps.length = 115 ∧ S'.tmps.take 102 = armL gf ∧ S'.heap 0 = some ⟨.var 92, .var (seenE r)⟩ ∧ S'.heap 1 = some ⟨.var 81, .var (acctSE an (keyAt 19 8))⟩ ∧ S'.heap (keyAt 19 8) = some ⟨.row 3, .ints .i64 (x0.vals ++ [r.id])⟩) := by
    have h := arm_eq gf r an x0.vals 10 (fun e l t d b0 b1 b2 => e = .normal ∧ l = 115 ∧ t = armL gf ∧ b0 = some ⟨.var 92, .var (seenE r)⟩ ∧ b1 = some ⟨.var 81, .var (acctSE an (keyAt 19 8))⟩ ∧ b2 = some ⟨.row 3, .ints .i64 (x0.vals ++ [r.id])⟩)
    rw [hroom x0 hx0] at h
    exact h.mpr ⟨rfl, rfl, rfl, rfl, rfl, rfl⟩
  unfold evC at hev
  refine code_sound hC he mixed (regN 10 0 19) (fun e S' Z' ρ' a' w' hk' hs' => ?_) hsync hev
  obtain ⟨rfl, hl', ht', hb0', hb1', hb2'⟩ := hk'
  have hkk : keyAt 19 8 ≠ 0 ∧ keyAt 19 8 ≠ 1 := by unfold keyAt; omega
  generalize keyAt 19 8 = kk at *
  have o0 : ρ' 0 = ρ k7 := (hs'.old 0 (by omega)).trans f0
  have o1 : ρ' 1 = ⟨(ρ 0).block, (ρ 0).lo + n * sz, (ρ 0).lo + (n + 1) * sz, .var 81, 0⟩ := (hs'.old 1 (by omega)).trans f1
  have B1 := hs'.pre.heap.blk 1 _ hb1'
  have B2 := hs'.pre.heap.blk kk _ hb2'
  obtain ⟨c2', q1, q2, q3⟩ := B1.cells rfl
  obtain ⟨q1t, q1r⟩ := q1
  have l2' : c2'.length = sz := by rw [← hsz]; exact q1t.len he.size q1r
  obtain ⟨hd, u1, u2⟩ := recOfS (ρ := ρ) q1r
  simp only [RepC] at u1
  obtain ⟨ao, cap', e', v1, v2, v3, v4⟩ := u1
  have hB2r : (ρ' kk).root = .row 3 := B2.root
  rw [hB2r] at v1
  cases v1
  rw [sz3] at v4
  simp only [Hdr.val, List.cons.injEq, Value.slice.injEq, and_true] at v2
  obtain ⟨v2a, v2n, v2c⟩ := v2
  obtain ⟨ds, p1, p2, p3⟩ := B2.cells rfl
  have p1' : (∃ d, env.td 3 = some d) ∧ ((x0.vals ++ [r.id]).map (AVal.int .i64)).length = (ρ' kk).len ∧ RepEl env ρ' Z' 3 ((x0.vals ++ [r.id]).map (AVal.int .i64)) ds ∧ (Cont.ints .i64 (x0.vals ++ [r.id])).good := p1
  obtain ⟨-, pl1, pel, -⟩ := p1'
  have hds := repEl_ints_inv pel
  have hlen1 : (x0.vals ++ [r.id]).length = (ρ' kk).len := by simpa using pl1
  obtain ⟨x1, hx1b, hx1o, hx1c, hx1v⟩ : ∃ x1 : Own, x1.b = (ρ' kk).block ∧ x1.o = (ρ' kk).lo ∧ x1.cap = cap' ∧ x1.vals = x0.vals ++ [r.id] := ⟨⟨_, _, _, _⟩, rfl, rfl, rfl, rfl⟩
  have x1in : ∀ b i, x1.has b i → b = (ρ' kk).block ∧ (ρ' kk).lo ≤ i ∧ i < (ρ' kk).hi := fun b i ⟨j1, j2, j3⟩ => by
    rw [hx1o] at j2 j3
    rw [hx1c] at j3
    have := (v4 (by omega)).2
    exact ⟨j1.trans hx1b, j2, by omega⟩
  have hx1 : ∀ b i, x1.has b i → w.heap.size ≤ b ∨ x0.has b i := fun b i hb => by
    obtain ⟨rfl, i1, i2⟩ := x1in b i hb
    rcases hs'.reg kk _ hb2' i i1 i2 with h | h
    · exact .inl h
    · rcases hreg _ i h with ⟨z1, z2, z3⟩ | ⟨z1, -, -, z2, z3⟩ | z
      · exact (hs'.pre.heap.dis kk 0 _ _ hkk.1 hb2' hb0' i (by rw [o0]; exact z1) i1 i2 (by rw [o0]; exact z2) (by rw [o0]; exact z3)).elim
      · exact (hs'.pre.heap.dis kk 1 _ _ hkk.2 hb2' hb1' i (by rw [o1]; exact z1) i1 i2 (by rw [o1]; exact z2) (by rw [o1]; simp only; omega)).elim
      · exact .inr z
  have hgetD : acc.getD n acctR0 = an := by simp [List.getD, han]
  have hgetX : g.getD n own0 = x0 := by simp [List.getD, hx0]
  have hKK := hK x1 hd ⟨by rw [v2n, hx1v, hlen1], by rw [v2c, hx1c], fun h => by rw [v2a, hx1b, hx1o]; exact (v4 (by rw [← hx1c]; exact h)).1⟩ (by rw [hx1v, hgetX])
  rw [hgetD] at hKK
  have hz' : ∀ j b, S.heap j = some b → ∀ i, (ρ j).lo ≤ i → i < (ρ j).hi → Z' (ρ j).block i = none := by
    intro j b hb i i1 i2
    cases hz : Z' (ρ j).block i with
    | none => rfl
    | some c =>
      exfalso
      rcases hs'.grow.new _ i (hs.pre.heap.zdis j b hb i i1 i2) (by rw [hz]; simp) with h | h
      · have := (hs.pre.heap.blk j b hb).there; omega
      · rcases hreg _ i h with ⟨z1, z2, z3⟩ | ⟨z1, -, -, z2, z3⟩ | z
        · have := hs'.pre.heap.zdis 0 _ hb0' i (by rw [o0]; exact z2) (by rw [o0]; exact z3)
          rw [o0, ← z1, hz] at this; cases this
        · have := hs'.pre.heap.zdis 1 _ hb1' i (by rw [o1]; exact z2) (by rw [o1]; simp only; omega)
          rw [o1] at this; simp only at this; rw [← z1, hz] at this; cases this
        · exact ho.heap _ i z ⟨j, b, hb, rfl, i1, i2⟩
  have hT : ∀ j b, upd1 S.heap 0 (some ⟨.row 81, .recs acctRC (acc.set n { an with sh := hd })⟩) j = some b → (j = 0 ∧ b = ⟨.row 81, .recs acctRC (acc.set n { an with sh := hd })⟩) ∨ (j ≠ 0 ∧ S.heap j = some b) := by
    intro j b hb
    unfold upd1 at hb
    cases hq : Nat.beq j 0 with
    | true => rw [hq] at hb; exact .inl ⟨beq_eq hq, (Option.some.inj hb).symm⟩
    | false => rw [hq] at hb; exact .inr ⟨Nat.ne_of_beq_eq_false hq, hb⟩
  have hTe : ∀ j b, upd1 S.heap 0 (some ⟨.row 81, .recs acctRC (acc.set n { an with sh := hd })⟩) j = some b → ∃ b', S.heap j = some b' := fun j b hb => by
    rcases hT j b hb with ⟨rfl, -⟩ | ⟨-, h⟩
    · exact ⟨_, hb0⟩
    · exact ⟨_, h⟩
  have hmap : ∀ b i, inReg ρf (lookL (armH r an x0.vals)) b i → w0.heap.size ≤ b ∨ inReg ρ0 H0 b i := fun b i hr => by
    rcases hreg b i hr with ⟨rfl, z2, z3⟩ | ⟨rfl, z2, z3, -⟩ | z
    · exact hs.reg k7 _ hb7 i z2 z3
    · exact hs.reg 0 _ hb0 i z2 z3
    · exact .inl (by rw [hw]; exact (ho.fresh b i z).1)
  have hinT : ∀ b i, inReg ρ (upd1 S.heap 0 (some ⟨.row 81, .recs acctRC (acc.set n { an with sh := hd })⟩)) b i → inReg ρ S.heap b i := fun b i ⟨j, B, j1, j2, j3, j4⟩ => by
    obtain ⟨b', hb'⟩ := hTe j B j1
    exact ⟨j, b', hb', j2, j3, j4⟩
  refine hQ .normal _ _ Z' ρ a' w' hKK ⟨⟨?_, fun t v ht => ?_, ⟨fun j b hb => ?_, fun j j' b b' hne hb hb' => ?_, fun j b hb => ?_, hs'.pre.heap.zone, hs'.pre.heap.pos, hs'.pre.heap.gok⟩, fun j b hb => ?_⟩, ?_, fun j b hb => ?_, hs.old, hs.nb, hs'.defers, ?_⟩ ⟨fun x hx => ?_, fun i j x y hx hy hne b o hxb hyb => ?_⟩
  · show a'.tmps.size = S.tmps.length
    rw [hs'.pre.size, hl', hlen]
  · have ht : getL S.tmps t = some v := ht
    have htl : t < 102 := by
      rcases Nat.lt_or_ge t 102 with h | h
      · exact h
      · rw [hrest' t h] at ht; cases ht
    have hS' : getL S'.tmps t = getL (armL gf) t := by rw [← ht', getL_take htl]
    rw [getL_armL htl] at hS'
    obtain ⟨w1, w2⟩ := hs.pre.tmps t v ht
    refine ⟨?_, w2⟩
    by_cases t7 : t = 7
    · subst t7
      rw [if_pos rfl] at hS'
      rw [h7] at ht; cases ht
      have := ptr_inv (hs'.pre.tmps 7 _ hS').1
      rw [this.2, o0]
      unfold RepV; simp only [AVal.isAgg, RepC]
      exact ⟨hp7.1, trivial⟩
    · by_cases t9 : t = 9
      · subst t9
        rw [if_neg (by omega), if_pos rfl] at hS'
        rw [h9] at ht; cases ht
        have := ptr_inv (hs'.pre.tmps 9 _ hS').1
        rw [this.2, o1]
        unfold RepV; simp only [AVal.isAgg, RepC]
        rw [hoff]
        exact ⟨hp9.1, rfl⟩
      · rw [if_neg t7, if_neg t9, hgf, ht] at hS'
        have := (hs'.pre.tmps t _ hS').1
        unfold RepV at this
        simp only [AVal.isAgg, RepC, List.cons.injEq, and_true] at this
        rw [this]
        exact w1.zone hs'.grow.g fun _ => hs'.grow.le
  · rcases hT j b hb with ⟨rfl, rfl⟩ | ⟨hj0, hb'⟩
    · have hcell : ∀ i c, (c1 ++ c2' ++ c3)[i]? = some c → w'.cell? ⟨(ρ 0).block, (ρ 0).lo + i, none⟩ = some c := by
        intro i c hc
        have hil := (List.getElem?_eq_some_iff.1 hc).1
        simp only [List.length_append] at hil
        have lcs' : cs.length = c1.length + c2.length + c3.length := by rw [e0]; simp only [List.length_append]
        have keep : cs[i]? = some c → (i < n * sz ∨ n * sz + sz ≤ i) → w'.cell? ⟨(ρ 0).block, (ρ 0).lo + i, none⟩ = some c := fun hci ho' => by
          refine hs'.keep.cell (b2 i c hci) fun hr => ?_
          have hi0 : (ρ 0).lo + i < (ρ 0).hi := by omega
          rcases hreg _ _ hr with ⟨z1, z2, z3⟩ | ⟨-, -, -, z2, z3⟩ | z
          · exact d70 _ _ z1 z2 z3 rfl (by omega) hi0
          · omega
          · exact dx0 _ _ z rfl (by omega) hi0
        rcases Nat.lt_or_ge i (n * sz) with h1 | h1
        · refine keep ?_ (.inl h1)
          rw [e0, List.append_assoc, List.getElem?_append_left (by omega)]
          rw [List.append_assoc, List.getElem?_append_left (by omega)] at hc
          exact hc
        · rcases Nat.lt_or_ge i (n * sz + sz) with h2 | h2
          · rw [List.append_assoc, List.getElem?_append_right (by omega), List.getElem?_append_left (by omega), e1] at hc
            have := q2 _ c hc
            rw [o1] at this
            simp only at this
            rw [show (ρ 0).lo + n * sz + (i - n * sz) = (ρ 0).lo + i by omega] at this
            exact this
          · refine keep ?_ (.inr h2)
            rw [List.getElem?_append_right (by simp; omega)] at hc
            rw [e0, List.getElem?_append_right (by simp; omega)]
            simp only [List.length_append] at hc ⊢
            rw [l2]
            rw [l2'] at hc
            exact hc
      refine ⟨hroot, fun _ => ⟨c1 ++ c2' ++ c3, ?_, hcell, ?_⟩, fun _ i i1 i2 => ?_, Nat.lt_of_lt_of_le hB.there hs'.keep.size, fun h => by cases h⟩
      · have hset := RepEl.set he.size (hel.zone hs'.grow.g hs'.grow.le) hnel ⟨8, acctRE_ty { an with sh := hd }⟩ u2 e0 (by rw [hsz]; exact e1) (by rw [hsz]; exact l2)
        rw [← List.map_set] at hset
        have : (∃ d, env.td 81 = some d) ∧ ((acc.set n { an with sh := hd }).map acctRE).length = (ρ 0).len ∧ RepEl env ρ Z' 81 ((acc.set n { an with sh := hd }).map acctRE) (c1 ++ c2' ++ c3) ∧ (Cont.recs acctRC (acc.set n { an with sh := hd })).good :=
          ⟨hd81, by rw [← hlen81]; simp, hset, acctRC_good _⟩
        exact this
      · have lcs' : cs.length = c1.length + c2.length + c3.length := by rw [e0]; simp only [List.length_append]
        simp only [List.length_append]; omega
      · exact ⟨hs'.keep.cellSome (hB.own rfl i i1 i2).1, by rw [hs'.keep.frozen hB.there]; exact (hB.own rfl i i1 i2).2⟩
    · by_cases hj7 : j = k7
      · subst hj7
        rw [hb7] at hb'; cases hb'
        have := hs'.pre.heap.blk 0 _ hb0'
        rw [o0] at this
        exact this.congr fun i hi => absurd (show i ∈ ([] : List Nat) from hi) (by simp)
      · refine (BlkOk.zone hs'.grow.g hs'.grow.le (hs.pre.heap.blk j b hb')).keeps hs'.keep fun i i1 i2 hr => ?_
        rcases hreg _ _ hr with ⟨z1, z2, z3⟩ | ⟨z1, z2, z3, -⟩ | z
        · exact hs.pre.heap.dis j k7 _ _ hj7 hb' hb7 i z1 i1 i2 z2 z3
        · exact hs.pre.heap.dis j 0 _ _ hj0 hb' hb0 i z1 i1 i2 z2 z3
        · exact ho.heap _ i z ⟨j, b, hb', rfl, i1, i2⟩
  · obtain ⟨c, hc⟩ := hTe j b hb
    obtain ⟨c', hc'⟩ := hTe j' b' hb'
    exact hs.pre.heap.dis j j' c c' hne hc hc'
  · obtain ⟨c, hc⟩ := hTe j b hb
    exact hz' j c hc
  · rcases hT j b hb with ⟨rfl, rfl⟩ | ⟨-, hb'⟩
    · exact ⟨(hs.pre.keysH 0 _ hb0).1, fun k' hk' => absurd (show k' ∈ ([] : List Nat) from hk') (by simp)⟩
    · exact hs.pre.keysH j b hb'
  · exact hs.keep.then hs'.keep fun x i hx hr => by
      rcases hmap x i hr with h | h
      · omega
      · exact h
  · obtain ⟨c, hc⟩ := hTe j b hb
    exact hs.reg j c hc
  · exact hs.grow.trans hs'.grow fun b o hr => by
      rcases hr with h | h
      · exact .inl (Nat.le_trans hs.keep.size h)
      · exact hmap b o h
  · have hset : ∀ j y, (g.set n x1)[j]? = some y → (j = n ∧ y = x1) ∨ (j ≠ n ∧ g[j]? = some y) := fun j y hy => by
      rw [List.getElem?_set] at hy
      split at hy
      · split at hy
        · cases hy; exact .inl ⟨by omega, rfl⟩
        · cases hy
      · exact .inr ⟨by omega, hy⟩
    obtain ⟨j, hj'⟩ := List.mem_iff_getElem?.1 hx
    rcases hset j x hj' with ⟨-, rfl⟩ | ⟨hjn, hgj⟩
    · refine ⟨by rw [hx1v, hx1c, hlen1]; exact v3, fun i v hv => ?_, fun b i hb => ?_, fun b i hb => ?_, fun b i hb => ?_, fun b i hb hr => ?_⟩
      · rw [hx1b, hx1o]
        refine p2 i _ ?_
        rw [hds]
        rw [hx1v] at hv
        simp only [List.getElem?_map, hv, Option.map_some]
      · obtain ⟨rfl, i1, i2⟩ := x1in b i hb
        exact B2.own rfl i i1 i2
      · refine ⟨?_, ?_⟩
        · rcases hx1 b i hb with h | h
          · rw [← hw]; exact Nat.le_trans hs.keep.size h
          · exact (ho.fresh b i h).1
        · obtain ⟨rfl, -, -⟩ := x1in b i hb
          exact B2.there
      · obtain ⟨rfl, i1, i2⟩ := x1in b i hb
        exact hs'.pre.heap.zdis kk _ hb2' i i1 i2
      · have hr := hinT b i hr
        rcases hx1 b i hb with h | h
        · obtain ⟨k, B, z1, rfl, z3, z4⟩ := hr
          have := (hs.pre.heap.blk k B z1).there
          omega
        · exact ho.heap b i h hr
    · have hy := hj.all x (List.mem_of_getElem? hgj)
      refine hy.step (S' := ⟨S.tmps, upd1 S.heap 0 (some ⟨.row 81, .recs acctRC (acc.set n { an with sh := hd })⟩), S.used⟩) (fun b i hb hr => ?_) hs'.keep hs'.grow fun b i hb hr => hy.heap b i hb (hinT b i hr)
      rcases hreg b i hr with ⟨rfl, z2, z3⟩ | ⟨rfl, z2, z3, -⟩ | z
      · exact hy.heap _ i hb (in7 i z2 z3)
      · exact hy.heap _ i hb (in0 i z2 z3)
      · exact hj.dis j n x x0 hgj hx0 hjn b i hb z
  · have hset : ∀ j y, (g.set n x1)[j]? = some y → (j = n ∧ y = x1) ∨ (j ≠ n ∧ g[j]? = some y) := fun j y hy => by
      rw [List.getElem?_set] at hy
      split at hy
      · split at hy
        · cases hy; exact .inl ⟨by omega, rfl⟩
        · cases hy
      · exact .inr ⟨by omega, hy⟩
    have one : ∀ k y, g[k]? = some y → k ≠ n → y.has b o → x1.has b o → False := fun k y hk hkn h1 h2 => by
      have hy := hj.all y (List.mem_of_getElem? hk)
      rcases hx1 b o h2 with h | h
      · have := (hy.fresh b o h1).2; omega
      · exact hj.dis k n y x0 hk hx0 hkn b o h1 h
    rcases hset i x hx with ⟨rfl, rfl⟩ | ⟨hin, hgi⟩ <;> rcases hset j y hy with ⟨rfl, rfl⟩ | ⟨hjn, hgj⟩
    · exact hne rfl
    · exact one j y hgj hjn hyb hxb
    · exact one i x hgi hin hxb hyb
    · exact hj.dis i j x y hgi hgj hne b o hxb hyb
end
end Go.Abs

namespace Go.Abs
open Go.Proofs

def accD (acc : List AcctR) (X : List Own) : List AcctD := List.zipWith acctD acc X
def vA (l : List AcctD) : AVal := .vr .acct 81 acctE (dfltT .acct) l

section
variable {Z0 Z : Zone} {ρ0 ρ : PMap} {H0 : Heap} {w0 w : World} {nb k : Nat} {a : Act} {S : St}

theorem frzAcc {n0 : Nat} (hw : w0.heap.size = n0) (hs : Sync env Z0 Z ρ0 H0 w0 nb S ρ a w) {acc : List AcctR} {X : List Own} (hk : S.heap k = some ⟨.row 81, .recs acctRC acc⟩) (hrel : RelX acc X) (hj : OwnsOk n0 X Z ρ S.heap w) :
    ∃ Z', Sync env Z0 Z' ρ0 H0 w0 nb (S.frz k (vA (accD acc X))) ρ a w := by
  have he := env_ok
  have hB := hs.pre.heap.blk k _ hk
  obtain ⟨cs, b1, b2, b3⟩ := hB.cells rfl
  have b1' : (∃ d, env.td 81 = some d) ∧ (acc.map acctRE).length = (ρ k).len ∧ RepEl env ρ Z 81 (acc.map acctRE) cs ∧ (Cont.recs acctRC acc).good := b1
  obtain ⟨hd81, hlen81, hel, -⟩ := b1'
  have hla : acc.length = (ρ k).len := by simpa using hlen81
  have hlD : (accD acc X).length = (ρ k).len := by simp [accD, ← hrel.len, hla]
  refine ⟨_, hs.frzP (R := fun b o => reg1 (ρ k) b o ∨ ∃ x, x ∈ X ∧ x.has b o) hk (fun b o hR => ?_) (fun j b hjk hb i i1 i2 hR => ?_) (fun ds hds => ?_) rfl rfl fun d t e ht => by simp [vA, hasTy, ht]⟩
  · rcases hR with ⟨rfl, h1, h2⟩ | ⟨x, hx, hxb⟩
    · exact hs.reg k _ hk o h1 h2
    · exact .inl (by rw [hw]; exact ((hj.all x hx).fresh b o hxb).1)
  · rcases hR with ⟨h0, h1, h2⟩ | ⟨x, hx, hxb⟩
    · exact hs.pre.heap.dis j k _ _ hjk hb hk i h0 i1 i2 h1 h2
    · exact (hj.all x hx).heap _ i hxb ⟨j, b, hb, rfl, i1, i2⟩
  · simp only [RepC] at hds
    obtain ⟨ao, cap, e, v1, rfl, v3, v4⟩ := hds
    rw [hB.root] at v1
    cases v1
    unfold vA
    simp only [RepC]
    refine ⟨rfl, ao, cap, by rw [hlD], by rw [hlD]; exact v3, fun hne => ?_⟩
    have hpos : 0 < (accD acc X).length := List.length_pos_iff.2 hne
    obtain ⟨q1, q2⟩ := v4 (by omega)
    refine ⟨_, _, q1, fun i y hy => ?_⟩
    unfold accD at hy
    obtain ⟨an, x, han, hxi, rfl⟩ := List.getElem?_zipWith_eq_some.1 hy
    have hh := hrel.hdr i an x han hxi
    have ho := hj.all x (List.mem_of_getElem? hxi)
    obtain ⟨c1, c2, c3, e0, e1, g2, g3, -, -⟩ := hel.nth he.size (show (acc.map acctRE)[i]? = some (acctRE an) by simp [han])
    have l2 : c2.length = env.sz 81 := g3.len he.size g2
    refine ⟨c2, ?_, rfl, l2, fun j c hc => ?_⟩
    · obtain ⟨d1, d2, rfl, h1, h2⟩ := RepC_last.1 g2
      have h3 : RepC env ρ (zoneP Z w fun b o => reg1 (ρ k) b o ∨ ∃ x, x ∈ X ∧ x.has b o) (AVal.ofList (acctF an)) d1 := h1.zone rfl fun _ => zone1_le
      simp only [RepC] at h2
      subst h2
      refine (RepC_last (vs := acctF an) (u := .vw .i64 x.vals)).2 ⟨d1, _, rfl, h3, ?_⟩
      simp only [RepC]
      refine ⟨an.sh.a, x.cap, by rw [← hh.1, ← hh.2.1]; rfl, ho.len, fun hv => ?_⟩
      have hvp : 0 < x.vals.length := List.length_pos_iff.2 hv
      have := ho.len
      refine ⟨x.b, x.o, hh.2.2 (by omega), fun m v hm => ?_⟩
      have hml := (List.getElem?_eq_some_iff.1 hm).1
      have hin : x.has x.b (x.o + m) := ⟨rfl, by omega, by omega⟩
      exact zoneP_in (ho.zone _ _ hin) (.inr ⟨x, List.mem_of_getElem? hxi, hin⟩) (ho.cells m v hm)
    · have hjl : j < c2.length := (List.getElem?_eq_some_iff.1 hc).1
      have hci : cs[i * env.sz 81 + j]? = some c := by
        rw [e0, List.append_assoc, List.getElem?_append_right (by omega), e1, show i * env.sz 81 + j - i * env.sz 81 = j by omega, List.getElem?_append_left hjl]
        exact hc
      have hi := (List.getElem?_eq_some_iff.1 hci).1
      have hreg : (ρ k).lo ≤ (ρ k).lo + (i * env.sz 81 + j) ∧ (ρ k).lo + (i * env.sz 81 + j) < (ρ k).hi := ⟨by omega, by omega⟩
      rw [Nat.add_assoc]
      exact zoneP_in (hs.pre.heap.zdis k _ hk _ hreg.1 hreg.2) (.inl ⟨rfl, hreg.1, hreg.2⟩) (b2 _ _ hci)
end
end Go.Abs

namespace Go.Abs
open Go.Proofs

/-- A contract by values, behind a gate, without memory. -/
def gateN (q : List AVal → Bool) (g : List AVal → Option AVal) : Ctr := ⟨fun us bs K => match bs with
  | [] => ob (g us) fun v => chk (q us) (K v [])
  | _ :: _ => False⟩
theorem gateN_det {q : List AVal → Bool} {g : List AVal → Option AVal} (us : List AVal) (bs : List Blk) : Det fun (K : Out → Prop) => (gateN q g).run us bs fun v h => K ⟨v, h⟩ := by
  cases bs with
  | nil => exact det_ob fun v => det_chk (det_pure (⟨v, []⟩ : Out))
  | cons b bs => exact det_false
theorem frzN_of_run {l : List (Nat × Ctr)} (hl : AllOk l) {f n : Nat} {q : List AVal → Bool} {g : List AVal → Option AVal}
    (h : ∀ {us : List AVal} {v : AVal}, g us = some v → ∀ K, chk (q us) (K v []) → (frzC ⟨run l f n⟩).run us [] K) : CtrOk Tryz.prog env f (gateN q g) :=
  (frz_ok env_ok (run_ok hl f n)).of (fun us bs => gateN_det us bs) fun {ρ Z w us bs xs K} hh hx hr => by
    cases bs with
    | nil =>
      obtain ⟨v, hg, hr⟩ := ob_inv hr
      exact h hg K hr
    | cons b bs => exact hr.elim

/-! ### lists of numbers, bytes, commitments -/
def copyIntsF : List AVal → Option AVal
  | [.vw .i64 l] => some (.vw .i64 l)
  | _ => none
def copyIntsQ : List AVal → Bool
  | [.vw .i64 l] => roomy (0 + l.length) 8
  | _ => false
def copyBytesF : List AVal → Option AVal
  | [.vw .u8 l] => some (.vw .u8 l)
  | _ => none
def copyBytesQ : List AVal → Bool
  | [.vw .u8 l] => roomy (0 + l.length) 1
  | _ => false
theorem copyInts_run (l : List Int) (K : AVal → List (Nat × Blk) → Prop) : (frzC ⟨run [] 34 20⟩).run [.vw .i64 l] [] K = chk (roomy (0 + l.length) 8) (K (.vw .i64 l) []) := by kernel_rfl
theorem copyBytes_run (l : List UInt8) (K : AVal → List (Nat × Blk) → Prop) : (frzC ⟨run [] 35 20⟩).run [.vw .u8 l] [] K = chk (roomy (0 + l.length) 1) (K (.vw .u8 l) []) := by kernel_rfl
theorem copyInts_ok : CtrOk Tryz.prog env 34 (gateN copyIntsQ copyIntsF) := frzN_of_run (l := []) trivial (n := 20) fun {us v} hg K hK => by
  unfold copyIntsF at hg
  split at hg <;> cases hg
  rename_i l
  rw [copyInts_run]
  exact hK
theorem copyBytes_ok : CtrOk Tryz.prog env 35 (gateN copyBytesQ copyBytesF) := frzN_of_run (l := []) trivial (n := 20) fun {us v} hg K hK => by
  unfold copyBytesF at hg
  split at hg <;> cases hg
  rename_i l
  rw [copyBytes_run]
  exact hK

/-! ### commitments -/
def copyCommsF : List AVal → Option AVal
  | [.vr .comm e enc d l] => match Nat.beq e 88 with
    | true => some (.vr .comm 88 commE comm0 l)
    | false => none
  | _ => none
def copyCommsQ : List AVal → Bool
  | [.vr .comm e enc d l] => roomy (0 + l.length) 72
  | _ => false
theorem copyComms_run (enc : CommD → AVal) (d : CommD) (l : List CommD) (K : AVal → List (Nat × Blk) → Prop) : (frzC ⟨run [] 69 20⟩).run [.vr .comm 88 enc d l] [] K = chk (roomy (0 + l.length) 72) (K (.vr .comm 88 commE comm0 l) []) := by kernel_rfl
theorem copyComms_ok : CtrOk Tryz.prog env 69 (gateN copyCommsQ copyCommsF) := frzN_of_run (l := []) trivial (n := 20) fun {us v} hg K hK => by
  unfold copyCommsF at hg
  split at hg
  · split at hg <;> cases hg
    rename_i e enc d l hb
    have := beq_eq hb
    subst this
    rw [copyComms_run]
    exact hK
  · cases hg

/-! ### packets, rows -/
theorem chk2 {a b : Bool} {p : Prop} (h : chk (andB a b) p) : chk a (chk b p) := by cases a <;> cases b <;> first | exact h | exact h.elim
noncomputable def baseC : List (Nat × Ctr) := [(34, gateN copyIntsQ copyIntsF), (35, gateN copyBytesQ copyBytesF), (69, gateN copyCommsQ copyCommsF)]
theorem baseC_ok : AllOk baseC := ⟨copyInts_ok, copyBytes_ok, copyComms_ok, trivial⟩
theorem copyPacket_run (s d : Int) (b : List UInt8) (K : AVal → List (Nat × Blk) → Prop) : run baseC 68 20 [.pair (.int .i64 s) (.pair (.int .i64 d) (.pair (.vw .u8 b) .unit))] [] K =
    chk (roomy (0 + b.length) 1) (K (.pair (.int .i64 s) (.pair (.int .i64 d) (.pair (.vw .u8 b) .unit))) []) := by kernel_rfl
def rowQ (s : SeenD) : Bool := andB (roomy (0 + s.bytes.length) 1) (andB (roomy (0 + s.list.length) 72) (andB (roomy (0 + s.text.length) 1) (roomy (0 + s.ids.length) 8)))
theorem copyRow_run2 (s : SeenD) (K : AVal → List (Nat × Blk) → Prop) : run ((68, ⟨run baseC 68 20⟩) :: baseC) 30 20 [seenE s] [] K =
    chk (roomy (0 + s.bytes.length) 1) (chk (roomy (0 + s.list.length) 72) (chk (roomy (0 + s.text.length) 1) (chk (roomy (0 + s.ids.length) 8) (K (seenE s) [])))) := by kernel_rfl
theorem RepVs_le {P : Program} {env : Env} {ρ : PMap} {Z : Zone} : ∀ {us us' : List AVal} {xs : List Value}, LeL us us' → RepVs env ρ Z us xs → RepVs env ρ Z us' xs
  | [], [], _, _, h => h
  | v :: vs, w :: ws, xs, hl, h => by
    obtain ⟨x, ys, e, h1, h2⟩ := h
    exact ⟨x, ys, e, h1.le hl.1, RepVs_le (P := P) hl.2 h2⟩
  | [], _ :: _, _, hl, _ => hl.elim
  | _ :: _, [], _, hl, _ => hl.elim
theorem keysL_le : ∀ {us us' : List AVal}, LeL us us' → ∀ k, k ∈ keysL us' → k ∈ keysL us
  | [], [], _, _, h => h
  | v :: vs, w :: ws, hl, k, h => by
    simp only [keysL, List.mem_append] at h ⊢
    exact h.imp (hl.1.keys k) (keysL_le hl.2 k)
  | [], _ :: _, hl, _, _ => hl.elim
  | _ :: _, [], hl, _, _ => hl.elim
/-- A contract for what may be taken for its own inputs. -/
def preC (norm : List AVal → Option (List AVal)) (c : Ctr) : Ctr := ⟨fun us bs K => ob (norm us) fun us' => c.run us' bs K⟩
theorem pre_ok {P : Program} {env : Env} {f : Nat} {c : Ctr} {norm : List AVal → Option (List AVal)} (h : CtrOk P env f c) (hn : ∀ us us', norm us = some us' → LeL us us') : CtrOk P env f (preC norm c) :=
  ⟨fun {ρ Z w us bs xs K} hh hx hk hb hr => by
    obtain ⟨us', hu, hr⟩ := ob_inv hr
    have hl := hn us us' hu
    exact h.run hh (RepVs_le (P := P) hl hx) (fun k hm => hk k (keysL_le hl k hm)) hb hr, fun us bs => det_ob fun us' => h.det us' bs⟩

def rowN : List AVal → Option (List AVal)
  | [v] => match decSeen v with
    | some s => some [seenE s]
    | none => none
  | _ => none
theorem rowN_le : ∀ us us', rowN us = some us' → LeL us us' := fun us us' h => by
  unfold rowN at h
  split at h
  · split at h <;> cases h
    exact ⟨decSeen_le ‹_›, trivial⟩
  · cases h
def copyRowF : List AVal → Option AVal
  | [v] => match decSeen v with
    | some s => some (seenE s)
    | none => none
  | _ => none
def copyRowQ : List AVal → Bool
  | [v] => match decSeen v with
    | some s => rowQ s
    | none => false
  | _ => false
theorem copyRow_ok : CtrOk Tryz.prog env 30 (gateN copyRowQ copyRowF) :=
  (pre_ok (run_ok (l := (68, ⟨run baseC 68 20⟩) :: baseC) ⟨run_ok baseC_ok 68 20, baseC_ok⟩ 30 20) rowN_le).of (fun us bs => gateN_det us bs) fun {ρ Z w us bs xs K} hh hx hr => by
    cases bs with
    | cons b bs => exact hr.elim
    | nil =>
      obtain ⟨v, hg, hr'⟩ := ob_inv hr
      obtain ⟨hq, hK⟩ := chk_inv hr'
      clear hr hr'
      unfold copyRowF at hg
      split at hg
      · rename_i v0
        split at hg <;> cases hg
        rename_i s hs
        simp only [copyRowQ, hs, rowQ, andB_iff] at hq
        obtain ⟨q1, q2, q3, q4⟩ := hq
        show ob (rowN [v0]) _
        simp only [rowN, hs]
        show run _ 30 20 [seenE s] [] K
        rw [copyRow_run2, q1, q2, q3, q4]
        exact hK
      · cases hg
end Go.Abs
