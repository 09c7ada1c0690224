/- history.Accounts: the rounds. Accounts of rows, plainly; a round of history.Accounts keeps to it. The field's functions: contracts by values. The field's bytes; points. -/
import Derived.Test.YtadiphoihflmiaaGreatDoorZav
import Derived.Test.YtadiphoihflmiaaGreatDoorZat
set_option linter.all false
set_option maxRecDepth 1000000
namespace Go.Abs
open Go.Proofs

/-! ### isRow -/
def okRow (s : SeenD) : Bool := match leT .i64 1 s.kind with
  | true => leT .i64 s.kind 11
  | false => false
def isRowF : List AVal → Option AVal
  | [v] => match decSeen v with
    | some s => some (.bool (okRow s))
    | none => none
  | _ => none
theorem isRow_run (s : SeenD) (K : AVal → List (Nat × Blk) → Prop) : run [] 31 0 [seenE s] [] K = br (leT .i64 1 s.kind) (K (.bool (leT .i64 s.kind 11)) []) (K (.bool false) []) := by kernel_rfl
theorem isRow_ok : CtrOk Tryz.prog env 31 (pureN isRowF) :=
  (pre_ok (run_ok (l := []) trivial 31 0) rowN_le).of (fun us bs => pureN_det us bs) fun {ρ Z w us bs xs K} hh hx hr => by
    cases bs with
    | cons b bs => exact hr.elim
    | nil =>
      obtain ⟨v, hg, hK⟩ := ob_inv hr
      unfold isRowF at hg
      split at hg
      · rename_i v0
        split at hg <;> cases hg
        rename_i s hs
        show ob (rowN [v0]) _
        simp only [rowN, hs]
        show run _ 31 0 [seenE s] [] K
        rw [isRow_run]
        cases h1 : leT .i64 1 s.kind with
        | true => simp only [okRow, h1] at hK; exact hK
        | false => simp only [okRow, h1] at hK; exact hK
      · cases hg

/-! ### the heads -/
def vS (l : List SeenD) : AVal := .vr .seen 92 seenE (dfltT .seen) l
def seenZ : SeenD := dfltT .seen
abbrev Mp := List (List UInt8 × Int)
def headP0 (l : List SeenD) : Hd := (none :: none :: none :: none :: some .nilsl :: some (.mp 0) :: (noneL 5 ++ (some (vS l) :: some (.int .i64 (l.length : Int)) :: some (.int .i64 (0 : Int)) :: noneL 101)), [(0, ⟨.map 76 3, .map hashC intC []⟩)])
def headP (l : List SeenD) (acc : List AcctR) (mp : Mp) (i : Int) : Hd := (none :: none :: none :: none :: some (.sw 0) :: some (.mp 1) :: (noneL 5 ++ (some (vS l) :: some (.int .i64 (l.length : Int)) :: some (.int .i64 i) :: noneL 101)), [(0, ⟨.row 81, .recs acctRC acc⟩), (1, ⟨.map 76 3, .map hashC intC mp⟩)])

abbrev KRet := Option AVal → Option AVal → Nat → Prop
abbrev KEnd := Nat → Option AVal → Option Blk → Nat → List Own → Prop
noncomputable def rndK (f r : Nat) (KH : Hd → List Own → Prop) (KR : KRet) (KE : KEnd) : XE → St → List Own → Prop := fun e S' g' => match e with
  | .normal => canonD 0 (liveOf f r) S' fun h => KH h g'
  | .ret => KR (getL S'.tmps 2) (getL S'.tmps 3) S'.tmps.length
  | .exit id => KE id (getL S'.tmps 4) (S'.heap 0) S'.tmps.length g' 
def hooksA (k7 n : Nat) (r : SeenD) (acc : List AcctR) (X : List Own) : Hooks (List Own) := ⟨fun _ => none, fun id => match Nat.beq id 19 with
  | true => some (armHk k7 n r acc X)
  | false => none⟩
def updAt (acc : List AcctR) (n : Nat) (f : AcctR → AcctR) : List AcctR := acc.set n (f (acc.getD n acctR0))
def fDone (a : AcctR) : AcctR := { a with done := true }
def fSig (s : List UInt8) (a : AcctR) : AcctR := { a with sig := s }
def fFail (a : AcctR) : AcctR := { a with failed := true }
def fCode (c : Int) (a : AcctR) : AcctR := { a with code := c }
def fCulp (l : List Int) (a : AcctR) : AcctR := { a with culprits := l }
def newR (r : SeenD) : AcctR := ⟨r.ses, r.ids, r.text, false, List.replicate 64 (zeroT .u8), false, 0, [], hdr0⟩
def eqH (a b : List UInt8) : Bool := eqL .u8 a b
def atM (r : SeenD) (mp : Mp) : Int := getM eqH r.ses (0 : Int) mp
def nA (r : SeenD) (mp : Mp) : Nat := (toI .i64 (subT .i64 (atM r mp) (rawI .i64 1))).toNat

/-! ### one round -/
section
variable (l : List SeenD) (acc : List AcctR) (mp : Mp) (i : Int) (X : List Own) (r : SeenD) (KH : Hd → List Own → Prop)
def contP : Prop := KH (headP l acc mp (addT .i64 i (rawI .i64 1))) X
def sharedP : Prop := armPre (nA r mp) acc X ∧ X = X ∧ 115 = 115 ∧ (some (.ptr (keyAt 5 2) []) : Option AVal) = some (.ptr (keyAt 5 2) []) ∧ (some (.ptr 0 [.i (nA r mp)]) : Option AVal) = some (.ptr 0 [.i (nA r mp)]) ∧ true = true ∧
  (some ⟨.var 92, .var (seenE r)⟩ : Option Blk) = some ⟨.var 92, .var (seenE r)⟩ ∧ (some ⟨.row 81, .recs acctRC acc⟩ : Option Blk) = some ⟨.row 81, .recs acctRC acc⟩ ∧
  ∀ (x : Own) (h : Hdr), HdrOk h x → x.vals = (X.getD (nA r mp) own0).vals ++ [r.id] → contP l (acc.set (nA r mp) { acc.getD (nA r mp) acctR0 with sh := h }) mp i (X.set (nA r mp) x) KH
def arms3P : Prop := br (eqT .i64 r.kind (rawI .i64 5)) (sharedP l acc mp i X r KH) (contP l acc mp i X KH)
def arms2P : Prop := br (eqT .i64 r.kind (rawI .i64 9)) (br (!(acc.getD (nA r mp) acctR0).failed) (chk (roomy (0 + r.ids.length) 8) (contP l (updAt (updAt (updAt acc (nA r mp) fFail) (nA r mp) (fCode r.code)) (nA r mp) (fCulp r.ids)) mp i X KH)) (arms3P l acc mp i X r KH)) (arms3P l acc mp i X r KH)
def arms1P : Prop := br (eqT .i64 r.kind (rawI .i64 8)) (br (!(acc.getD (nA r mp) acctR0).done) (contP l (updAt (updAt acc (nA r mp) fDone) (nA r mp) (fSig r.sig)) mp i X KH) (arms2P l acc mp i X r KH)) (arms2P l acc mp i X r KH)
def restP : Prop := br (eqT .i64 (atM r mp) (rawI .i64 0)) (contP l acc mp i X KH) (chk (!isNeg .i64 (subT .i64 (atM r mp) (rawI .i64 1))) (chk (decide (toI .i64 (subT .i64 (atM r mp) (rawI .i64 1)) < ((acc.length : Nat) : Int))) (arms1P l acc mp i X r KH)))
def begunP : Prop := chk (roomy (0 + r.ids.length) 8) (chk (roomy (0 + r.text.length) 1) (chk (roomy (acc.length + 1) (env.bytes 81)) (contP l (acc ++ [newR r]) (putM eqH r.ses (((acc ++ [newR r]).length : Nat) : Int) mp) i X KH)))
def roundP (KR : KRet) : Prop := br (!okRow r) (KR (some .nilsl) (some (.int .i64 (261 : Int))) 115) (br (eqT .i64 r.kind (rawI .i64 1)) (br (eqT .i64 (atM r mp) (rawI .i64 0)) (begunP l acc mp i X r KH) (restP l acc mp i X r KH)) (restP l acc mp i X r KH))
end
def rowAt (l : List SeenD) (i : Int) : SeenD := l.getD (toI .i64 i).toNat seenZ

theorem step10 (l : List SeenD) (acc : List AcctR) (mp : Mp) (i : Int) (X : List Own) (fuel : Nat) (KH : Hd → List Own → Prop) (KR : KRet) (KE : KEnd) :
    evG [(31, pureN isRowF)] (hooksA (keyAt 5 2) (nA (rowAt l i) mp) (rowAt l i) acc X) 10 0 0 (fuel + 10) (loopN 10 0) (headSt (headP l acc mp i)) X (rndK 10 4 KH KR KE) =
    br (ltT .i64 i (l.length : Int)) (chk (!isNeg .i64 i) (chk (decide (toI .i64 i < ((l.length : Nat) : Int))) (roundP l acc mp i X (rowAt l i) KH KR))) (KE 0 (some (.sw 0)) (some ⟨.row 81, .recs acctRC acc⟩) 115 X) := by kernel_rfl
end Go.Abs

namespace Go.Abs
open Go.Proofs

/-! ### the plain answer -/
def acct0 : AcctD := dfltT .acct
def newD (r : SeenD) : AcctD := ⟨r.ses, r.ids, r.text, false, List.replicate 64 (zeroT .u8), false, 0, [], []⟩
def updD (r : SeenD) (a : AcctD) : AcctD :=
  if r.kind = 8 ∧ a.done = false then { a with done := true, sig := r.sig }
  else if r.kind = 9 ∧ a.failed = false then { a with failed := true, code := r.code, culprits := r.ids }
  else if r.kind = 5 then { a with shared := a.shared ++ [r.id] } else a
def findS : List AcctD → List UInt8 → Option Nat
  | [], _ => none
  | a :: L, s => if a.ses = s then some 0 else match findS L s with
    | some k => some (k + 1)
    | none => none
def accStep (L : List AcctD) (r : SeenD) : List AcctD := match findS L r.ses with
  | none => if r.kind = 1 then L ++ [newD r] else L
  | some k => L.set k (updD r (L.getD k acct0))
def accF (l : List SeenD) : List AcctD := l.foldl accStep []

theorem updD_ses (r : SeenD) (a : AcctD) : (updD r a).ses = a.ses := by
  unfold updD
  split
  · rfl
  · split
    · rfl
    · split <;> rfl
theorem findS_some : ∀ {L : List AcctD} {s : List UInt8} {k : Nat}, findS L s = some k → k < L.length ∧ (L.getD k acct0).ses = s
  | [], s, k, h => by cases h
  | a :: L, s, k, h => by
    simp only [findS] at h
    split at h
    · cases h; exact ⟨by simp, by simpa using ‹_›⟩
    · split at h
      · cases h
        rename_i k' hk
        obtain ⟨h1, h2⟩ := findS_some hk
        exact ⟨by simp; omega, by simpa using h2⟩
      · cases h

/-! ### the map of it -/
def mpFrom (j : Nat) : List AcctD → Mp
  | [] => []
  | a :: L => (a.ses, ((j + 1 : Nat) : Int)) :: mpFrom (j + 1) L
theorem eqH_iff {a b : List UInt8} : eqH a b = true ↔ a = b := by
  constructor
  · intro h
    induction a generalizing b with
    | nil => cases b <;> first | rfl | simp [eqH, eqL] at h
    | cons x a ih =>
      cases b with
      | nil => simp [eqH, eqL] at h
      | cons y b =>
        simp only [eqH, eqL, Bool.and_eq_true] at h
        rw [ih h.2]
        have := h.1
        simp only [eqT, toI, beq_iff_eq] at this
        have h2 : x.toNat = y.toNat := by omega
        rw [UInt8.toNat_inj.1 h2]
  · rintro rfl
    induction a with
    | nil => rfl
    | cons x a ih =>
      simp only [eqH, eqL, Bool.and_eq_true]
      exact ⟨by simp [eqT], ih⟩
theorem eqH_false {a b : List UInt8} : eqH a b = false ↔ a ≠ b := by
  rw [← Bool.not_eq_true, eqH_iff]
theorem getM_mp (s : List UInt8) : ∀ (L : List AcctD) (j : Nat), getM eqH s (0 : Int) (mpFrom j L) = match findS L s with
    | none => 0
    | some k => ((j + k + 1 : Nat) : Int)
  | [], j => rfl
  | a :: L, j => by
    simp only [mpFrom, getM, findS]
    by_cases h : a.ses = s
    · rw [if_pos h, eqH_iff.2 h.symm]
    · rw [if_neg h, eqH_false.2 (fun e => h e.symm)]
      simp only [getM_mp s L (j + 1)]
      cases findS L s with
      | none => rfl
      | some k => simp only; congr 1; omega
theorem putM_mp {s : List UInt8} {v : Int} : ∀ {L : List AcctD} {j : Nat}, findS L s = none → putM eqH s v (mpFrom j L) = mpFrom j L ++ [(s, v)]
  | [], j, _ => rfl
  | a :: L, j, h => by
    simp only [findS] at h
    split at h
    · cases h
    · rename_i hne
      simp only [mpFrom, putM, eqH_false.2 (fun e => hne e.symm), List.cons_append]
      rw [putM_mp]
      split at h
      · cases h
      · assumption
theorem mpFrom_snoc (a : AcctD) : ∀ (L : List AcctD) (j : Nat), mpFrom j (L ++ [a]) = mpFrom j L ++ [(a.ses, ((j + L.length + 1 : Nat) : Int))]
  | [], j => rfl
  | b :: L, j => by
    simp only [List.cons_append, mpFrom, mpFrom_snoc a L (j + 1), List.length_cons]
    congr 4
    omega
theorem mpFrom_set {a : AcctD} : ∀ {L : List AcctD} {k j : Nat}, a.ses = (L.getD k acct0).ses → mpFrom j (L.set k a) = mpFrom j L
  | [], k, j, _ => rfl
  | b :: L, 0, j, h => by simp only [List.set_cons_zero, mpFrom]; rw [show a.ses = b.ses by simpa using h]
  | b :: L, k + 1, j, h => by simp only [List.set_cons_succ, mpFrom]; rw [mpFrom_set (by simpa using h)]

/-! ### the rows with headers -/
theorem accD_length {acc : List AcctR} {X : List Own} (h : RelX acc X) : (accD acc X).length = acc.length := by simp [accD, ← h.len]
theorem accD_getD : ∀ {acc : List AcctR} {X : List Own} {k : Nat}, acc.length = X.length → k < acc.length → (accD acc X).getD k acct0 = acctD (acc.getD k acctR0) (X.getD k own0)
  | [], X, k, _, h => by simp at h
  | a :: acc, [], k, h, _ => by simp at h
  | a :: acc, x :: X, 0, _, _ => rfl
  | a :: acc, x :: X, k + 1, h, hk => by
    have := accD_getD (acc := acc) (X := X) (k := k) (by simpa using h) (by simpa using hk)
    simpa [accD] using this
theorem accD_set {a : AcctR} {x : Own} : ∀ {acc : List AcctR} {X : List Own} {k : Nat}, accD (acc.set k a) (X.set k x) = (accD acc X).set k (acctD a x)
  | [], X, k => by simp [accD]
  | b :: acc, [], k => by cases k <;> simp [accD]
  | b :: acc, y :: X, 0 => rfl
  | b :: acc, y :: X, k + 1 => by
    have := accD_set (a := a) (x := x) (acc := acc) (X := X) (k := k)
    simpa [accD] using this
theorem accD_snoc {acc : List AcctR} {X : List Own} (h : acc.length = X.length) (a : AcctR) (x : Own) : accD (acc ++ [a]) (X ++ [x]) = accD acc X ++ [acctD a x] := by
  unfold accD
  rw [List.zipWith_append h]
  rfl
theorem set_getD_self {α : Type} {d : α} : ∀ {l : List α} {k : Nat}, l.set k (l.getD k d) = l
  | [], k => rfl
  | x :: l, 0 => rfl
  | x :: l, k + 1 => by
    have := set_getD_self (d := d) (l := l) (k := k)
    simpa using this
theorem RelX.set {acc : List AcctR} {X : List Own} (h : RelX acc X) {k : Nat} {a : AcctR} {x : Own} (hh : HdrOk a.sh x) : RelX (acc.set k a) (X.set k x) := by
  refine ⟨by simp [h.len], fun i b y hb hy => ?_⟩
  rw [List.getElem?_set] at hb hy
  split at hb
  · rename_i hk
    rw [if_pos hk] at hy
    split at hb
    · split at hy
      · cases hb; cases hy; exact hh
      · cases hy
    · cases hb
  · rename_i hk
    rw [if_neg hk] at hy
    exact h.hdr i b y hb hy
theorem RelX.setA {acc : List AcctR} {X : List Own} (h : RelX acc X) {k : Nat} {a : AcctR} (hk : k < acc.length) (hs : a.sh = (acc.getD k acctR0).sh) : RelX (acc.set k a) X := by
  have hX : k < X.length := by rw [← h.len]; exact hk
  have := h.set (k := k) (a := a) (x := X.getD k own0) (by
    rw [hs]
    exact h.hdr k _ _ (by simp [List.getD, hk]) (by simp [List.getD, hX]))
  rwa [set_getD_self] at this
theorem RelX.snoc {acc : List AcctR} {X : List Own} (h : RelX acc X) {a : AcctR} (hs : a.sh = hdr0) : RelX (acc ++ [a]) (X ++ [own0]) := by
  refine ⟨by simp [h.len], fun i b y hb hy => ?_⟩
  rcases Nat.lt_or_ge i acc.length with hi | hi
  · rw [List.getElem?_append_left hi] at hb
    rw [List.getElem?_append_left (by rw [← h.len]; exact hi)] at hy
    exact h.hdr i b y hb hy
  · rw [List.getElem?_append_right hi] at hb
    rw [List.getElem?_append_right (by rw [← h.len]; exact hi)] at hy
    have h1 := (List.getElem?_eq_some_iff.1 hb).1
    simp only [List.length_singleton] at h1
    rw [show i - acc.length = 0 by omega] at hb
    rw [← h.len, show i - acc.length = 0 by omega] at hy
    cases hb; cases hy
    rw [hs]
    exact ⟨rfl, rfl, fun h => (h rfl).elim⟩

structure InvA (L : List AcctD) (acc : List AcctR) (X : List Own) (mp : Mp) : Prop where
  rel : RelX acc X
  acc : accD acc X = L
  mp : mp = mpFrom 0 L

theorem updAt_two {acc : List AcctR} {k : Nat} (hk : k < acc.length) (f g : AcctR → AcctR) : updAt (updAt acc k f) k g = acc.set k (g (f (acc.getD k acctR0))) := by
  unfold updAt
  rw [List.set_set]
  congr 2
  simp [List.getD, hk]
theorem wrap_sm {n : Int} (h0 : 0 ≤ n) (h1 : n < 9223372036854775808) : IntKind.i64.wrap n = n := by
  simp only [IntKind.wrap, IntKind.signed, IntKind.bits]
  simp
  omega
theorem eqI_iff {x y : Int} : eqT .i64 x y = true ↔ x = y := by simp [eqT, toI]
theorem eqI_false {x y : Int} : eqT .i64 x y = false ↔ x ≠ y := by simp [eqT, toI]

theorem round_ok {l : List SeenD} {acc : List AcctR} {mp : Mp} {i : Int} {X : List Own} {r : SeenD} {KH : Hd → List Own → Prop} {KR : KRet} {L : List AcctD} (h : InvA L acc X mp) (hr : okRow r = true)
    (q1 : roomy (0 + r.ids.length) 8 = true) (q2 : roomy (0 + r.text.length) 1 = true) (q3 : roomy (acc.length + 1) (env.bytes 81) = true) (hb : acc.length < 4611686018427387904) (hsh : ∀ x, x ∈ X → roomy (x.vals.length + 1) 8 = true)
    (hK : ∀ acc' X' mp' X'', InvA (accStep L r) acc' X'' mp' → (X'' = X' ∨ X'' = X' ++ [own0]) → KH (headP l acc' mp' (addT .i64 i (rawI .i64 1))) X') : roundP l acc mp i X r KH KR := by
  have hlen : L.length = acc.length := by rw [← h.acc, accD_length h.rel]
  have hat : atM r mp = match findS L r.ses with
    | none => 0
    | some k => ((0 + k + 1 : Nat) : Int) := by unfold atM; rw [h.mp, getM_mp]
  unfold roundP
  rw [hr]
  show br (eqT .i64 r.kind (rawI .i64 1)) _ _
  cases hf : findS L r.ses with
  | none =>
    rw [hf] at hat
    simp only at hat
    have hstep : accStep L r = if r.kind = 1 then L ++ [newD r] else L := by unfold accStep; rw [hf]
    have e0 : eqT .i64 (atM r mp) (rawI .i64 0) = true := by rw [hat]; rfl
    have hrest : r.kind ≠ 1 → restP l acc mp i X r KH := fun hk => by
      unfold restP
      rw [e0]
      refine hK acc X mp X ?_ (.inl rfl)
      rw [hstep, if_neg hk]
      exact h
    cases hk : eqT .i64 r.kind (rawI .i64 1) with
    | false => exact hrest (eqI_false.1 hk)
    | true =>
      have hk1 : r.kind = 1 := eqI_iff.1 hk
      show br (eqT .i64 (atM r mp) (rawI .i64 0)) _ _
      rw [e0]
      show begunP l acc mp i X r KH
      unfold begunP
      rw [q1, q2, q3]
      refine hK _ X _ (X ++ [own0]) ?_ (.inr rfl)
      rw [hstep, if_pos hk1]
      refine ⟨h.rel.snoc rfl, by rw [accD_snoc h.rel.len, h.acc]; rfl, ?_⟩
      rw [h.mp, putM_mp hf, mpFrom_snoc, hlen]
      congr 3
      simp
  | some k =>
    rw [hf] at hat
    simp only at hat
    obtain ⟨hkl, hks⟩ := findS_some hf
    rw [hlen] at hkl
    have hstep : accStep L r = L.set k (updD r (L.getD k acct0)) := by unfold accStep; rw [hf]
    have e0 : eqT .i64 (atM r mp) (rawI .i64 0) = false := by rw [hat]; exact eqI_false.2 (by show ((0 + k + 1 : Nat) : Int) ≠ 0; omega)
    have e1 : subT .i64 (atM r mp) (rawI .i64 1) = (k : Int) := by
      rw [hat]
      show IntKind.i64.wrap (((0 + k + 1 : Nat) : Int) - 1) = _
      rw [wrap_sm (by omega) (by omega)]
      omega
    have e2 : nA r mp = k := by unfold nA; rw [e1]; rfl
    have e3 : (!isNeg .i64 (k : Int)) = true := by show (!decide ((k : Int) < 0)) = true; simp
    have e4 : decide (toI .i64 (k : Int) < ((acc.length : Nat) : Int)) = true := by simp [toI]; omega
    have hget : L.getD k acct0 = acctD (acc.getD k acctR0) (X.getD k own0) := by rw [← h.acc]; exact accD_getD h.rel.len hkl
    have hset : ∀ a : AcctR, a.sh = (acc.getD k acctR0).sh → acctD a (X.getD k own0) = updD r (L.getD k acct0) → InvA (accStep L r) (acc.set k a) X mp := fun a h1 h2 => by
      refine ⟨h.rel.setA hkl h1, ?_, ?_⟩
      · rw [hstep, ← h2, ← h.acc, ← accD_set, set_getD_self]
      · rw [hstep, mpFrom_set (updD_ses _ _)]; exact h.mp
    have hsame : updD r (L.getD k acct0) = L.getD k acct0 → contP l acc mp i X KH := fun he => by
      refine hK acc X mp X ?_ (.inl rfl)
      rw [hstep, he, set_getD_self]
      exact h
    have ha3 : ¬ (r.kind = 8 ∧ (L.getD k acct0).done = false) → ¬ (r.kind = 9 ∧ (L.getD k acct0).failed = false) → arms3P l acc mp i X r KH := fun n8 n9 => by
      unfold arms3P
      have hu : updD r (L.getD k acct0) = if r.kind = 5 then { L.getD k acct0 with shared := (L.getD k acct0).shared ++ [r.id] } else L.getD k acct0 := by unfold updD; rw [if_neg n8, if_neg n9]
      cases h5 : eqT .i64 r.kind (rawI .i64 5) with
      | false =>
        refine hsame ?_
        have h5 : r.kind ≠ 5 := eqI_false.1 h5
        rw [hu, if_neg h5]
      | true =>
        have h5' : r.kind = 5 := eqI_iff.1 h5
        rw [if_pos h5'] at hu
        refine ⟨by rw [e2]; exact ⟨hkl, h.rel, fun x hx => hsh x (List.mem_of_getElem? hx)⟩, rfl, rfl, rfl, rfl, rfl, rfl, rfl, fun x hd hx hv => ?_⟩
        rw [e2] at hv ⊢
        refine hK _ _ mp _ ⟨h.rel.set hx, ?_, ?_⟩ (.inl rfl)
        · rw [hstep, hu, accD_set, h.acc, hget]
          unfold acctD
          rw [hv]
        · rw [hstep, mpFrom_set (updD_ses _ _)]; exact h.mp
    have ha2 : ¬ (r.kind = 8 ∧ (L.getD k acct0).done = false) → arms2P l acc mp i X r KH := fun n8 => by
      unfold arms2P
      rw [e2]
      cases h9 : eqT .i64 r.kind (rawI .i64 9) with
      | false => exact ha3 n8 fun ⟨h, _⟩ => eqI_false.1 h9 h
      | true =>
        have h9 : r.kind = 9 := eqI_iff.1 h9
        have hfl : (acc.getD k acctR0).failed = (L.getD k acct0).failed := by rw [hget]; rfl
        show br (!(acc.getD k acctR0).failed) _ _
        rw [hfl]
        cases hq : (L.getD k acct0).failed with
        | true => exact ha3 n8 fun ⟨_, h⟩ => by rw [hq] at h; cases h
        | false =>
          show chk _ _
          rw [q1]
          show contP l _ mp i X KH
          rw [updAt_two hkl, show updAt (acc.set k (fCode r.code (fFail (acc.getD k acctR0)))) k (fCulp r.ids) = acc.set k (fCulp r.ids (fCode r.code (fFail (acc.getD k acctR0)))) by
            unfold updAt; rw [List.set_set]; congr 2; simp [List.getD, hkl]]
          refine hK _ X mp X (hset _ rfl ?_) (.inl rfl)
          unfold updD
          rw [if_neg n8, if_pos ⟨h9, hq⟩, hget]
          rfl
    have hrest : restP l acc mp i X r KH := by
      unfold restP
      rw [e0, e1, e3, e4]
      show arms1P l acc mp i X r KH
      unfold arms1P
      rw [e2]
      cases h8 : eqT .i64 r.kind (rawI .i64 8) with
      | false => exact ha2 fun ⟨h, _⟩ => eqI_false.1 h8 h
      | true =>
        have h8 : r.kind = 8 := eqI_iff.1 h8
        have hdn : (acc.getD k acctR0).done = (L.getD k acct0).done := by rw [hget]; rfl
        show br (!(acc.getD k acctR0).done) _ _
        rw [hdn]
        cases hq : (L.getD k acct0).done with
        | true => exact ha2 fun ⟨_, h⟩ => by rw [hq] at h; cases h
        | false =>
          show contP l _ mp i X KH
          rw [updAt_two hkl]
          refine hK _ X mp X (hset _ rfl ?_) (.inl rfl)
          unfold updD
          rw [if_pos ⟨h8, hq⟩, hget]
          rfl
    cases hk : eqT .i64 r.kind (rawI .i64 1) with
    | false => exact hrest
    | true =>
      show br (eqT .i64 (atM r mp) (rawI .i64 0)) _ _
      rw [e0]
      exact hrest

/-! ### sizes -/
theorem accF_snoc (l : List SeenD) (r : SeenD) : accF (l ++ [r]) = accStep (accF l) r := by simp [accF]
theorem accStep_length (L : List AcctD) (r : SeenD) : (accStep L r).length ≤ L.length + 1 := by
  unfold accStep
  split
  · split
    · simp
    · omega
  · simp
theorem updD_shared (r : SeenD) (a : AcctD) : (updD r a).shared.length ≤ a.shared.length + 1 := by
  unfold updD
  split
  · simp
  · split
    · simp
    · split
      · simp
      · omega
theorem accStep_shared {L : List AcctD} {r : SeenD} {n : Nat} (h : ∀ a, a ∈ L → a.shared.length ≤ n) : ∀ a, a ∈ accStep L r → a.shared.length ≤ n + 1 := by
  intro a ha
  unfold accStep at ha
  split at ha
  · split at ha
    · rw [List.mem_append] at ha
      rcases ha with ha | ha
      · have := h a ha; omega
      · simp at ha; subst ha; simp [newD]
    · have := h a ha; omega
  · rename_i k hk
    obtain ⟨h1, -⟩ := findS_some hk
    rcases List.mem_or_eq_of_mem_set ha with ha | rfl
    · have := h a ha; omega
    · have h2 := updD_shared r (L.getD k acct0)
      have h3 := h (L.getD k acct0) (by simp [List.getD, h1])
      omega
theorem accF_sizes (l : List SeenD) : ∀ (i : Nat), i ≤ l.length → (accF (l.take i)).length ≤ i ∧ ∀ a, a ∈ accF (l.take i) → a.shared.length ≤ i
  | 0, _ => by simp [accF]
  | i + 1, h => by
    obtain ⟨h1, h2⟩ := accF_sizes l i (by omega)
    have hi : i < l.length := by omega
    rw [List.take_add_one, show l[i]?.toList = [l[i]] by simp [hi], accF_snoc]
    exact ⟨by have := accStep_length (accF (l.take i)) l[i]; omega, accStep_shared h2⟩

/-! ### the first row that may not be -/
def badI : List SeenD → Nat
  | [] => 0
  | r :: l => match okRow r with
    | true => badI l + 1
    | false => 0
def okRows : List SeenD → Bool
  | [] => true
  | r :: l => match okRow r with
    | true => okRows l
    | false => false
theorem badI_le : ∀ (l : List SeenD), badI l ≤ l.length
  | [] => Nat.le_refl _
  | r :: l => by
    have := badI_le l
    simp only [badI]
    split <;> simp <;> omega
theorem badI_ok : ∀ {l : List SeenD} {i : Nat}, i < badI l → okRow (l.getD i seenZ) = true
  | [], i, h => by simp [badI] at h
  | r :: l, i, h => by
    simp only [badI] at h
    split at h
    · cases i with
      | zero => simpa using ‹_›
      | succ i => simpa using badI_ok (l := l) (i := i) (by omega)
    · omega
theorem badI_bad : ∀ {l : List SeenD}, okRows l = false → badI l < l.length ∧ okRow (l.getD (badI l) seenZ) = false
  | [], h => by cases h
  | r :: l, h => by
    simp only [okRows] at h
    simp only [badI]
    split at h
    · rename_i hr
      obtain ⟨h1, h2⟩ := badI_bad h
      exact ⟨by simpa using h1, by simpa using h2⟩
    · rename_i hr
      exact ⟨by simp, by simpa using hr⟩
theorem badI_all : ∀ {l : List SeenD}, okRows l = true → badI l = l.length
  | [], _ => rfl
  | r :: l, h => by
    simp only [okRows] at h
    simp only [badI]
    split at h
    · rename_i hr
      simp [badI_all h]
    · cases h
end Go.Abs

namespace Go.Abs
open Go.Proofs

/-! ### a sum of products -/
def wEnc (w : UInt64 × UInt64) : AVal := .pair (.int .u64 w.1) (.pair (.int .u64 w.2) .unit)
def wDec : AVal → Option (UInt64 × UInt64)
  | .pair (.int .u64 a) (.pair (.int .u64 b) .unit) => some (a, b)
  | _ => none
def wsEnc : List (UInt64 × UInt64) → AVal
  | [] => .unit
  | w :: ws => .pair (wEnc w) (wsEnc ws)
def wsDec : AVal → Option (List (UInt64 × UInt64))
  | .unit => some []
  | .pair a b => match wDec a with
    | some w => match wsDec b with
      | some ws => some (w :: ws)
      | none => none
    | none => none
  | _ => none

theorem wDec_inv {v : AVal} {w : UInt64 × UInt64} (h : wDec v = some w) : v = wEnc w := by
  unfold wDec at h
  split at h <;> cases h
  rfl
theorem wsDec_inv : ∀ {v : AVal} {ws : List (UInt64 × UInt64)}, wsDec v = some ws → v = wsEnc ws
  | .unit, ws, h => by simp [wsDec] at h; subst h; rfl
  | .pair a b, ws, h => by
    simp only [wsDec] at h
    split at h
    · split at h
      · cases h
        rename_i h1 _ _ h2
        rw [wDec_inv h1, wsDec_inv h2]; rfl
      · cases h
    · cases h
  | .int .., ws, h | .bool .., ws, h | .str .., ws, h | .arr .., ws, h | .ptr .., ws, h | .nilptr, ws, h | .sl .., ws, h | .sw .., ws, h | .nilsl, ws, h | .vw .., ws, h | .vr .., ws, h | .vp .., ws, h | .kp .., ws, h
  | .iface .., ws, h | .nilIface, ws, h | .fn .., ws, h | .nilfn, ws, h | .tnil, ws, h | .tcons .., ws, h | .gp .., ws, h | .th .., ws, h | .mp .., ws, h | .nilmap, ws, h | .raw .., ws, h => by simp [wsDec] at h

def modAt {α : Type} (f : α → α) : List α → Nat → List α
  | [], _ => []
  | x :: xs, 0 => f x :: xs
  | x :: xs, n + 1 => x :: modAt f xs n

def wadd (a b : UInt64) (w : UInt64 × UInt64) : UInt64 × UInt64 := (adcS w.1 (mulH a b) (adcC w.2 (mulL a b) 0), adcS w.2 (mulL a b) 0)

def wArgs : List AVal → Option (Nat × UInt64 × UInt64)
  | [.ptr 0 [.i n], .int .u64 a, .int .u64 b] => some (n, a, b)
  | _ => none
def wBlk : List Blk → Option (List (UInt64 × UInt64))
  | [⟨.var t, .var v⟩] => match Nat.beq t 429 with
    | true => wsDec v
    | false => none
  | _ => none

theorem wArgs_inv {us : List AVal} {n : Nat} {a b : UInt64} (h : wArgs us = some (n, a, b)) : us = [.ptr 0 [.i n], .int .u64 a, .int .u64 b] := by
  unfold wArgs at h
  split at h <;> cases h
  rfl
theorem wBlk_inv {bs : List Blk} {ws : List (UInt64 × UInt64)} (h : wBlk bs = some ws) : bs = [⟨.var 429, .var (wsEnc ws)⟩] := by
  unfold wBlk at h
  split at h
  · split at h
    · rename_i e
      rw [beq_eq e, wsDec_inv h]
    · cases h
  · cases h

/-- To one of five sums a product is added. -/
def wideC : Ctr := ⟨fun us bs K => ob0 (wArgs us) fun p => ob0 (wBlk bs) fun ws => chk (Nat.blt p.1 5) (chk (Nat.beq ws.length 5) (K (.tup []) [(0, ⟨.var 429, .var (wsEnc (modAt (wadd p.2.1 p.2.2) ws p.1))⟩)]))⟩

theorem run_wide0 (a b h0 l0 h1 l1 h2 l2 h3 l3 h4 l4 : UInt64) : ∀ K, run base1 238 0 [.ptr 0 [.i 0], .int .u64 a, .int .u64 b] [⟨.var 429, .var (wsEnc [(h0, l0), (h1, l1), (h2, l2), (h3, l3), (h4, l4)])⟩] K =
  chk (Nat.ble (UInt64.toNat (adcC l0 (mulL a b) 0)) 1) (K (.tup []) [(0, ⟨.var 429, .var (wsEnc (modAt (wadd a b) [(h0, l0), (h1, l1), (h2, l2), (h3, l3), (h4, l4)] 0))⟩)]) := by intro K; kernel_rfl
theorem run_wide1 (a b h0 l0 h1 l1 h2 l2 h3 l3 h4 l4 : UInt64) : ∀ K, run base1 238 0 [.ptr 0 [.i 1], .int .u64 a, .int .u64 b] [⟨.var 429, .var (wsEnc [(h0, l0), (h1, l1), (h2, l2), (h3, l3), (h4, l4)])⟩] K =
  chk (Nat.ble (UInt64.toNat (adcC l1 (mulL a b) 0)) 1) (K (.tup []) [(0, ⟨.var 429, .var (wsEnc (modAt (wadd a b) [(h0, l0), (h1, l1), (h2, l2), (h3, l3), (h4, l4)] 1))⟩)]) := by intro K; kernel_rfl
theorem run_wide2 (a b h0 l0 h1 l1 h2 l2 h3 l3 h4 l4 : UInt64) : ∀ K, run base1 238 0 [.ptr 0 [.i 2], .int .u64 a, .int .u64 b] [⟨.var 429, .var (wsEnc [(h0, l0), (h1, l1), (h2, l2), (h3, l3), (h4, l4)])⟩] K =
  chk (Nat.ble (UInt64.toNat (adcC l2 (mulL a b) 0)) 1) (K (.tup []) [(0, ⟨.var 429, .var (wsEnc (modAt (wadd a b) [(h0, l0), (h1, l1), (h2, l2), (h3, l3), (h4, l4)] 2))⟩)]) := by intro K; kernel_rfl
theorem run_wide3 (a b h0 l0 h1 l1 h2 l2 h3 l3 h4 l4 : UInt64) : ∀ K, run base1 238 0 [.ptr 0 [.i 3], .int .u64 a, .int .u64 b] [⟨.var 429, .var (wsEnc [(h0, l0), (h1, l1), (h2, l2), (h3, l3), (h4, l4)])⟩] K =
  chk (Nat.ble (UInt64.toNat (adcC l3 (mulL a b) 0)) 1) (K (.tup []) [(0, ⟨.var 429, .var (wsEnc (modAt (wadd a b) [(h0, l0), (h1, l1), (h2, l2), (h3, l3), (h4, l4)] 3))⟩)]) := by intro K; kernel_rfl
theorem run_wide4 (a b h0 l0 h1 l1 h2 l2 h3 l3 h4 l4 : UInt64) : ∀ K, run base1 238 0 [.ptr 0 [.i 4], .int .u64 a, .int .u64 b] [⟨.var 429, .var (wsEnc [(h0, l0), (h1, l1), (h2, l2), (h3, l3), (h4, l4)])⟩] K =
  chk (Nat.ble (UInt64.toNat (adcC l4 (mulL a b) 0)) 1) (K (.tup []) [(0, ⟨.var 429, .var (wsEnc (modAt (wadd a b) [(h0, l0), (h1, l1), (h2, l2), (h3, l3), (h4, l4)] 4))⟩)]) := by intro K; kernel_rfl

theorem adcC_le (x y c : UInt64) (hc : c.toNat ≤ 1) : Nat.ble (UInt64.toNat (adcC x y c)) 1 = true := by
  have a := UInt64.toNat_lt x
  have b := UInt64.toNat_lt y
  apply Nat.ble_eq_true_of_le
  rw [adcC, UInt64.toNat_ofNat']
  have : (x.toNat + y.toNat + c.toNat) / 18446744073709551616 ≤ 1 := by omega
  omega

theorem chk_mk {b : Bool} {p : Prop} (h : b = true) (hp : p) : chk b p := by subst h; exact hp
theorem list5 {α : Type} {l : List α} (h : l.length = 5) : ∃ a b c d e, l = [a, b, c, d, e] := by
  match l, h with
  | [a, b, c, d, e], _ => exact ⟨a, b, c, d, e, rfl⟩

theorem wide_ok : CtrOk Tryz.prog env 238 wideC :=
  (run_ok base1_ok 238 0).of (fun us bs => det_ob0 fun p => det_ob0 fun ws => det_chk (det_chk (det_pure (⟨.tup [], [(0, ⟨.var 429, .var (wsEnc (modAt (wadd p.2.1 p.2.2) ws p.1))⟩)]⟩ : Out)))) fun {ρ Z w us bs xs K} hh hx hr => by
    obtain ⟨⟨n, a, b⟩, e1, hr⟩ := ob0_inv hr
    obtain ⟨ws, e2, hr⟩ := ob0_inv hr
    obtain ⟨e3, hr⟩ := chk_inv hr
    obtain ⟨e4, hr⟩ := chk_inv hr
    have := wArgs_inv e1; subst this
    have := wBlk_inv e2; subst this
    have e4 := beq_eq e4
    have hn : n < 5 := Nat.le_of_ble_eq_true e3
    obtain ⟨⟨h0, l0⟩, ⟨h1, l1⟩, ⟨h2, l2⟩, ⟨h3, l3⟩, ⟨h4, l4⟩, rfl⟩ := list5 e4
    have hn : n = 0 ∨ n = 1 ∨ n = 2 ∨ n = 3 ∨ n = 4 := by omega
    rcases hn with rfl | rfl | rfl | rfl | rfl
    · exact (run_wide0 a b h0 l0 h1 l1 h2 l2 h3 l3 h4 l4 K).mpr (chk_mk (adcC_le _ _ _ (by decide)) hr)
    · exact (run_wide1 a b h0 l0 h1 l1 h2 l2 h3 l3 h4 l4 K).mpr (chk_mk (adcC_le _ _ _ (by decide)) hr)
    · exact (run_wide2 a b h0 l0 h1 l1 h2 l2 h3 l3 h4 l4 K).mpr (chk_mk (adcC_le _ _ _ (by decide)) hr)
    · exact (run_wide3 a b h0 l0 h1 l1 h2 l2 h3 l3 h4 l4 K).mpr (chk_mk (adcC_le _ _ _ (by decide)) hr)
    · exact (run_wide4 a b h0 l0 h1 l1 h2 l2 h3 l3 h4 l4 K).mpr (chk_mk (adcC_le _ _ _ (by decide)) hr)

def base2 : List (Nat × Ctr) := (238, wideC) :: base1
theorem base2_ok : AllOk base2 := ⟨wide_ok, base1_ok⟩

/-! ### carried -/
def M51 : UInt64 := rawI .u64 2251799813685247
def c19 : UInt64 := rawI .u64 19
def carT (a0 a1 a2 a3 a4 : UInt64) : List UInt64 :=
  [addT .u64 (andT .u64 a0 M51) (mulT .u64 c19 (shrT .u64 a4 51)), addT .u64 (andT .u64 a1 M51) (shrT .u64 a0 51), addT .u64 (andT .u64 a2 M51) (shrT .u64 a1 51), addT .u64 (andT .u64 a3 M51) (shrT .u64 a2 51), addT .u64 (andT .u64 a4 M51) (shrT .u64 a3 51)]

theorem run_car (a0 a1 a2 a3 a4 : UInt64) : ∀ K, run base2 240 0 [.arr .u64 5 [a0, a1, a2, a3, a4]] [] K = K (.arr .u64 5 (carT a0 a1 a2 a3 a4)) [] := by intro K; kernel_rfl

def carL : List UInt64 → List UInt64
  | [a0, a1, a2, a3, a4] => carT a0 a1 a2 a3 a4
  | l => l

theorem rep_arr {env : Env} {ρ : PMap} {Z : Zone} {k : IntKind} {n : Nat} {l : List (TT k)} {v : Value} (h : RepV env ρ Z (.arr k n l) v) : l.length = n := by
  obtain ⟨_, _, h, _⟩ := h
  exact h

/-- A function of lists of words. -/
def arrG1 (n m : Nat) (f : List UInt64 → List UInt64) : List AVal → Option AVal
  | [.arr .u64 k l] => match Nat.beq k n with
    | true => some (.arr .u64 m (f l))
    | false => none
  | _ => none
def arrG2 (n m : Nat) (f : List UInt64 → List UInt64 → List UInt64) : List AVal → Option AVal
  | [.arr .u64 k a, .arr .u64 j b] => match Nat.beq k n, Nat.beq j n with
    | true, true => some (.arr .u64 m (f a b))
    | _, _ => none
  | _ => none

theorem arrG1_inv {n m : Nat} {f : List UInt64 → List UInt64} {us : List AVal} {v : AVal} {ρ : PMap} {Z : Zone} {xs : List Value} (hx : RepVs env ρ Z us xs) (h : arrG1 n m f us = some v) : ∃ l : List UInt64, us = [.arr .u64 n l] ∧ l.length = n ∧ v = .arr .u64 m (f l) := by
  unfold arrG1 at h
  split at h
  · split at h <;> cases h
    rename_i e
    have := beq_eq e; subst this
    obtain ⟨_, _, _, h1, _⟩ := hx
    exact ⟨_, rfl, rep_arr h1, rfl⟩
  · cases h
theorem arrG2_inv {n m : Nat} {f : List UInt64 → List UInt64 → List UInt64} {us : List AVal} {v : AVal} {ρ : PMap} {Z : Zone} {xs : List Value} (hx : RepVs env ρ Z us xs) (h : arrG2 n m f us = some v) : ∃ a b : List UInt64, us = [.arr .u64 n a, .arr .u64 n b] ∧ a.length = n ∧ b.length = n ∧ v = .arr .u64 m (f a b) := by
  unfold arrG2 at h
  split at h
  · split at h
    · cases h
      rename_i e e'
      have := beq_eq e; subst this
      have := beq_eq e'; subst this
      obtain ⟨_, _, _, h1, _, _, _, h2, _⟩ := hx
      exact ⟨_, _, rfl, rep_arr h1, rep_arr h2, rfl⟩
    · cases h
  · cases h

theorem car_ok : CtrOk Tryz.prog env 240 (pureN (arrG1 5 5 carL)) := pureN_of_run (n := 0) base2_ok fun {ρ Z us xs v} hx hg K hK => by
  obtain ⟨l, rfl, hl, rfl⟩ := arrG1_inv hx hg
  obtain ⟨a0, a1, a2, a3, a4, rfl⟩ := list5 hl
  rw [run_car]
  exact hK

def base3 : List (Nat × Ctr) := (240, pureN (arrG1 5 5 carL)) :: base2
theorem base3_ok : AllOk base3 := ⟨car_ok, base2_ok⟩

/-! ### times -/
def w0 : UInt64 := rawI .u64 0
def t19 (a : UInt64) : UInt64 := mulT .u64 c19 a
def row5 (a b c d e f g h i j : UInt64) : UInt64 × UInt64 := wadd i j (wadd g h (wadd e f (wadd c d (wadd a b (w0, w0)))))
def outL (r : UInt64 × UInt64) (c : UInt64) : UInt64 := andT .u64 (adcS r.2 c w0) M51
def outC (r : UInt64 × UInt64) (c : UInt64) : UInt64 := orT .u64 (shlT .u64 (addT .u64 r.1 (adcC r.2 c w0)) 13) (shrT .u64 (adcS r.2 c w0) 51)
def chain5 (r0 r1 r2 r3 r4 : UInt64 × UInt64) : List UInt64 :=
  [addT .u64 (outL r0 w0) (mulT .u64 c19 (outC r4 (outC r3 (outC r2 (outC r1 (outC r0 w0)))))), outL r1 (outC r0 w0), outL r2 (outC r1 (outC r0 w0)), outL r3 (outC r2 (outC r1 (outC r0 w0))), outL r4 (outC r3 (outC r2 (outC r1 (outC r0 w0))))]
def mulT5 (a0 a1 a2 a3 a4 b0 b1 b2 b3 b4 : UInt64) : List UInt64 :=
  carL (chain5 (row5 a0 b0 (t19 a1) b4 (t19 a2) b3 (t19 a3) b2 (t19 a4) b1) (row5 a0 b1 a1 b0 (t19 a2) b4 (t19 a3) b3 (t19 a4) b2) (row5 a0 b2 a1 b1 a2 b0 (t19 a3) b4 (t19 a4) b3) (row5 a0 b3 a1 b2 a2 b1 a3 b0 (t19 a4) b4) (row5 a0 b4 a1 b3 a2 b2 a3 b1 a4 b0))

theorem run_times (a0 a1 a2 a3 a4 b0 b1 b2 b3 b4 : UInt64) : ∀ K, run base3 212 0 [.arr .u64 5 [a0, a1, a2, a3, a4], .arr .u64 5 [b0, b1, b2, b3, b4]] [] K = K (.arr .u64 5 (mulT5 a0 a1 a2 a3 a4 b0 b1 b2 b3 b4)) [] := by intro K; kernel_rfl

def mulF : List UInt64 → List UInt64 → List UInt64
  | [a0, a1, a2, a3, a4], [b0, b1, b2, b3, b4] => mulT5 a0 a1 a2 a3 a4 b0 b1 b2 b3 b4
  | l, _ => l

theorem times_ok : CtrOk Tryz.prog env 212 (pureN (arrG2 5 5 mulF)) := pureN_of_run (n := 0) base3_ok fun {ρ Z us xs v} hx hg K hK => by
  obtain ⟨a, b, rfl, ha, hb, rfl⟩ := arrG2_inv hx hg
  obtain ⟨a0, a1, a2, a3, a4, rfl⟩ := list5 ha
  obtain ⟨b0, b1, b2, b3, b4, rfl⟩ := list5 hb
  rw [run_times]
  exact hK

def base4 : List (Nat × Ctr) := (212, pureN (arrG2 5 5 mulF)) :: base3
theorem base4_ok : AllOk base4 := ⟨times_ok, base3_ok⟩

/-! ### sums, differences, squares -/
def addF : List UInt64 → List UInt64 → List UInt64
  | [a0, a1, a2, a3, a4], [b0, b1, b2, b3, b4] => carT (addT .u64 a0 b0) (addT .u64 a1 b1) (addT .u64 a2 b2) (addT .u64 a3 b3) (addT .u64 a4 b4)
  | l, _ => l
def P0 : UInt64 := rawI .u64 4503599627370458
def P1 : UInt64 := rawI .u64 4503599627370494
def subF : List UInt64 → List UInt64 → List UInt64
  | [a0, a1, a2, a3, a4], [b0, b1, b2, b3, b4] => carT (addT .u64 a0 (subT .u64 P0 b0)) (addT .u64 a1 (subT .u64 P1 b1)) (addT .u64 a2 (subT .u64 P1 b2)) (addT .u64 a3 (subT .u64 P1 b3)) (addT .u64 a4 (subT .u64 P1 b4))
  | l, _ => l
def sqF (a : List UInt64) : List UInt64 := mulF a a

theorem run_plus (a0 a1 a2 a3 a4 b0 b1 b2 b3 b4 : UInt64) : ∀ K, run base4 235 0 [.arr .u64 5 [a0, a1, a2, a3, a4], .arr .u64 5 [b0, b1, b2, b3, b4]] [] K = K (.arr .u64 5 (addF [a0, a1, a2, a3, a4] [b0, b1, b2, b3, b4])) [] := by intro K; kernel_rfl
theorem run_minus (a0 a1 a2 a3 a4 b0 b1 b2 b3 b4 : UInt64) : ∀ K, run base4 233 0 [.arr .u64 5 [a0, a1, a2, a3, a4], .arr .u64 5 [b0, b1, b2, b3, b4]] [] K = K (.arr .u64 5 (subF [a0, a1, a2, a3, a4] [b0, b1, b2, b3, b4])) [] := by intro K; kernel_rfl
theorem run_square (a : List UInt64) : ∀ K, run base4 231 0 [.arr .u64 5 a] [] K = K (.arr .u64 5 (sqF a)) [] := by intro K; kernel_rfl

theorem plus_ok : CtrOk Tryz.prog env 235 (pureN (arrG2 5 5 addF)) := pureN_of_run (n := 0) base4_ok fun {ρ Z us xs v} hx hg K hK => by
  obtain ⟨a, b, rfl, ha, hb, rfl⟩ := arrG2_inv hx hg
  obtain ⟨a0, a1, a2, a3, a4, rfl⟩ := list5 ha
  obtain ⟨b0, b1, b2, b3, b4, rfl⟩ := list5 hb
  rw [run_plus]
  exact hK
theorem minus_ok : CtrOk Tryz.prog env 233 (pureN (arrG2 5 5 subF)) := pureN_of_run (n := 0) base4_ok fun {ρ Z us xs v} hx hg K hK => by
  obtain ⟨a, b, rfl, ha, hb, rfl⟩ := arrG2_inv hx hg
  obtain ⟨a0, a1, a2, a3, a4, rfl⟩ := list5 ha
  obtain ⟨b0, b1, b2, b3, b4, rfl⟩ := list5 hb
  rw [run_minus]
  exact hK
theorem square_ok : CtrOk Tryz.prog env 231 (pureN (arrG1 5 5 sqF)) := pureN_of_run (n := 0) base4_ok fun {ρ Z us xs v} hx hg K hK => by
  obtain ⟨a, rfl, ha, rfl⟩ := arrG1_inv hx hg
  rw [run_square]
  exact hK

def base5 : List (Nat × Ctr) := (235, pureN (arrG2 5 5 addF)) :: (233, pureN (arrG2 5 5 subF)) :: (231, pureN (arrG1 5 5 sqF)) :: base4
theorem base5_ok : AllOk base5 := ⟨plus_ok, minus_ok, square_ok, base4_ok⟩
end Go.Abs

namespace Go.Abs
open Go.Proofs

/-! ### bytes in -/
def ldW : Nat → UInt64 → List UInt8 → UInt64
  | _, acc, [] => acc
  | i, acc, b :: bs => ldW (i + 8) (orT .u64 acc (shlT .u64 (convT .u8 .u64 b) i)) bs
/-- A word of 8 bytes. -/
def ldA (l : List UInt8) : UInt64 := ldW 0 w0 l
def ldL (w0 w1 w2 w3 : UInt64) : List UInt64 :=
  [addT .u64 (andT .u64 w0 M51) (mulT .u64 c19 (shrT .u64 w3 63)), andT .u64 (orT .u64 (shrT .u64 w0 51) (shlT .u64 w1 13)) M51, andT .u64 (orT .u64 (shrT .u64 w1 38) (shlT .u64 w2 26)) M51,
    andT .u64 (orT .u64 (shrT .u64 w2 25) (shlT .u64 w3 39)) M51, andT .u64 (shrT .u64 w3 12) M51]
def loadF (l : List UInt8) : List UInt64 := ldL (ldA (l.take 8)) (ldA ((l.drop 8).take 8)) (ldA ((l.drop 16).take 8)) (ldA (l.drop 24))

theorem run_load (x0 x1 x2 x3 x4 x5 x6 x7 x8 x9 x10 x11 x12 x13 x14 x15 x16 x17 x18 x19 x20 x21 x22 x23 x24 x25 x26 x27 x28 x29 x30 x31 : UInt8) : ∀ K, run base5 210 0 [.arr .u8 32 [x0, x1, x2, x3, x4, x5, x6, x7, x8, x9, x10, x11, x12, x13, x14, x15, x16, x17, x18, x19, x20, x21, x22, x23, x24, x25, x26, x27, x28, x29, x30, x31]] [] K = K (.arr .u64 5 (loadF [x0, x1, x2, x3, x4, x5, x6, x7, x8, x9, x10, x11, x12, x13, x14, x15, x16, x17, x18, x19, x20, x21, x22, x23, x24, x25, x26, x27, x28, x29, x30, x31])) [] := by intro K; kernel_rfl

/-! ### bytes out -/
def stB : Nat → UInt64 → Nat → List UInt8
  | 0, _, _ => []
  | n + 1, w, i => convT .u64 .u8 (shrT .u64 w i) :: stB n w (i + 8)
def stA (w : UInt64) : List UInt8 := stB 8 w 0
def q19 (a0 a1 a2 a3 a4 : UInt64) : UInt64 := shrT .u64 (addT .u64 a4 (shrT .u64 (addT .u64 a3 (shrT .u64 (addT .u64 a2 (shrT .u64 (addT .u64 a1 (shrT .u64 (addT .u64 a0 c19) 51)) 51)) 51)) 51)) 51
def byW (a0 a1 a2 a3 a4 : UInt64) : List UInt8 :=
  stA (orT .u64 a0 (shlT .u64 a1 51)) ++ stA (orT .u64 (shrT .u64 a1 13) (shlT .u64 a2 38)) ++ stA (orT .u64 (shrT .u64 a2 26) (shlT .u64 a3 25)) ++ stA (orT .u64 (shrT .u64 a3 39) (shlT .u64 a4 12))
def byR (b0 a1 a2 a3 a4 : UInt64) : List UInt8 :=
  byS (addT .u64 a1 (shrT .u64 b0 51)) a2 a3 a4 (andT .u64 b0 M51)
where
  byS (b1 a2 a3 a4 c0 : UInt64) : List UInt8 := byT (addT .u64 a2 (shrT .u64 b1 51)) a3 a4 c0 (andT .u64 b1 M51)
  byT (b2 a3 a4 c0 c1 : UInt64) : List UInt8 := byU (addT .u64 a3 (shrT .u64 b2 51)) a4 c0 c1 (andT .u64 b2 M51)
  byU (b3 a4 c0 c1 c2 : UInt64) : List UInt8 := byW c0 c1 c2 (andT .u64 b3 M51) (andT .u64 (addT .u64 a4 (shrT .u64 b3 51)) M51)
def byC : List UInt64 → List UInt8
  | [a0, a1, a2, a3, a4] => byR (addT .u64 a0 (mulT .u64 c19 (q19 a0 a1 a2 a3 a4))) a1 a2 a3 a4
  | _ => []
def bytesF (l : List UInt64) : List UInt8 := byC (carL (carL l))

theorem run_bytes (a0 a1 a2 a3 a4 : UInt64) : ∀ K, run base5 216 0 [.arr .u64 5 [a0, a1, a2, a3, a4]] [] K = K (.arr .u8 32 (bytesF [a0, a1, a2, a3, a4])) [] := by intro K; kernel_rfl

def inG (f : List UInt8 → List UInt64) : List AVal → Option AVal
  | [.arr .u8 k l] => match Nat.beq k 32 with
    | true => some (.arr .u64 5 (f l))
    | false => none
  | _ => none
theorem inG_inv {f : List UInt8 → List UInt64} {us : List AVal} {v : AVal} {ρ : PMap} {Z : Zone} {xs : List Value} (hx : RepVs env ρ Z us xs) (h : inG f us = some v) : ∃ l : List UInt8, us = [.arr .u8 32 l] ∧ l.length = 32 ∧ v = .arr .u64 5 (f l) := by
  unfold inG at h
  split at h
  · split at h <;> cases h
    rename_i e
    have := beq_eq e; subst this
    obtain ⟨_, _, _, h1, _⟩ := hx
    exact ⟨_, rfl, rep_arr h1, rfl⟩
  · cases h
/-- A function of one list of five words. -/
def fe1G (f : List UInt64 → AVal) : List AVal → Option AVal
  | [.arr .u64 k l] => match Nat.beq k 5 with
    | true => some (f l)
    | false => none
  | _ => none
def fe2G (f : List UInt64 → List UInt64 → AVal) : List AVal → Option AVal
  | [.arr .u64 k a, .arr .u64 j b] => match Nat.beq k 5, Nat.beq j 5 with
    | true, true => some (f a b)
    | _, _ => none
  | _ => none
theorem fe1G_inv {f : List UInt64 → AVal} {us : List AVal} {v : AVal} {ρ : PMap} {Z : Zone} {xs : List Value} (hx : RepVs env ρ Z us xs) (h : fe1G f us = some v) : ∃ l : List UInt64, us = [.arr .u64 5 l] ∧ l.length = 5 ∧ v = f l := by
  unfold fe1G at h
  split at h
  · split at h <;> cases h
    rename_i e
    have := beq_eq e; subst this
    obtain ⟨_, _, _, h1, _⟩ := hx
    exact ⟨_, rfl, rep_arr h1, rfl⟩
  · cases h
theorem fe2G_inv {f : List UInt64 → List UInt64 → AVal} {us : List AVal} {v : AVal} {ρ : PMap} {Z : Zone} {xs : List Value} (hx : RepVs env ρ Z us xs) (h : fe2G f us = some v) : ∃ a b : List UInt64, us = [.arr .u64 5 a, .arr .u64 5 b] ∧ a.length = 5 ∧ b.length = 5 ∧ v = f a b := by
  unfold fe2G at h
  split at h
  · split at h
    · cases h
      rename_i e e'
      have := beq_eq e; subst this
      have := beq_eq e'; subst this
      obtain ⟨_, _, _, h1, _, _, _, h2, _⟩ := hx
      exact ⟨_, _, rfl, rep_arr h1, rep_arr h2, rfl⟩
    · cases h
  · cases h

theorem run_load' {l : List UInt8} (h : l.length = 32) (K : AVal → List (Nat × Blk) → Prop) (hK : K (.arr .u64 5 (loadF l)) []) : run base5 210 0 [.arr .u8 32 l] [] K := by
  match l, h with
  | [x0, x1, x2, x3, x4, x5, x6, x7, x8, x9, x10, x11, x12, x13, x14, x15, x16, x17, x18, x19, x20, x21, x22, x23, x24, x25, x26, x27, x28, x29, x30, x31], _ => exact (run_load x0 x1 x2 x3 x4 x5 x6 x7 x8 x9 x10 x11 x12 x13 x14 x15 x16 x17 x18 x19 x20 x21 x22 x23 x24 x25 x26 x27 x28 x29 x30 x31 K).mpr hK

theorem load_ok : CtrOk Tryz.prog env 210 (pureN (inG loadF)) := pureN_of_run (n := 0) base5_ok fun {ρ Z us xs v} hx hg K hK => by
  obtain ⟨l, rfl, hl, rfl⟩ := inG_inv hx hg
  exact run_load' hl K hK
theorem bytes_ok : CtrOk Tryz.prog env 216 (pureN (fe1G fun l => .arr .u8 32 (bytesF l))) := pureN_of_run (n := 0) base5_ok fun {ρ Z us xs v} hx hg K hK => by
  obtain ⟨l, rfl, hl, rfl⟩ := fe1G_inv hx hg
  obtain ⟨a0, a1, a2, a3, a4, rfl⟩ := list5 hl
  rw [run_bytes]
  exact hK

def base6 : List (Nat × Ctr) := (210, pureN (inG loadF)) :: (216, pureN (fe1G fun l => .arr .u8 32 (bytesF l))) :: base5
theorem base6_ok : AllOk base6 := ⟨load_ok, bytes_ok, base5_ok⟩

/-! ### powers -/
def sqN : Nat → List UInt64 → List UInt64
  | 0, a => a
  | n + 1, a => sqN n (sqF a)
def sqG : List AVal → Option AVal
  | [.arr .u64 k a, .int .i64 n] => match Nat.beq k 5, memN n.toNat [2, 5, 10, 20, 50, 100], (n == (n.toNat : Int) : Bool) with
    | true, true, true => some (.arr .u64 5 (sqN n.toNat a))
    | _, _, _ => none
  | _ => none
theorem run_sq2 (a : List UInt64) : ∀ K, run base6 256 0 [.arr .u64 5 a, .int .i64 (2 : Int)] [] K = K (.arr .u64 5 (sqN 2 a)) [] := by intro K; kernel_rfl
theorem run_sq5 (a : List UInt64) : ∀ K, run base6 256 0 [.arr .u64 5 a, .int .i64 (5 : Int)] [] K = K (.arr .u64 5 (sqN 5 a)) [] := by intro K; kernel_rfl
theorem run_sq10 (a : List UInt64) : ∀ K, run base6 256 0 [.arr .u64 5 a, .int .i64 (10 : Int)] [] K = K (.arr .u64 5 (sqN 10 a)) [] := by intro K; kernel_rfl
theorem run_sq20 (a : List UInt64) : ∀ K, run base6 256 0 [.arr .u64 5 a, .int .i64 (20 : Int)] [] K = K (.arr .u64 5 (sqN 20 a)) [] := by intro K; kernel_rfl
theorem run_sq50 (a : List UInt64) : ∀ K, run base6 256 0 [.arr .u64 5 a, .int .i64 (50 : Int)] [] K = K (.arr .u64 5 (sqN 50 a)) [] := by intro K; kernel_rfl
theorem run_sq100 (a : List UInt64) : ∀ K, run base6 256 0 [.arr .u64 5 a, .int .i64 (100 : Int)] [] K = K (.arr .u64 5 (sqN 100 a)) [] := by intro K; kernel_rfl

theorem squares_ok : CtrOk Tryz.prog env 256 (pureN sqG) := pureN_of_run (n := 0) base6_ok fun {ρ Z us xs v} hx hg K hK => by
  unfold sqG at hg
  split at hg
  · rename_i k a n
    split at hg
    · cases hg
      rename_i e1 e2 e3
      have := beq_eq e1; subst this
      have e3 := eq_of_beq e3
      have e2 := memN_iff.1 e2
      generalize hm : Int.toNat n = m at *
      subst e3
      simp only [List.mem_cons, List.not_mem_nil, or_false] at e2
      rcases e2 with rfl | rfl | rfl | rfl | rfl | rfl
      · exact (run_sq2 a K).mpr hK
      · exact (run_sq5 a K).mpr hK
      · exact (run_sq10 a K).mpr hK
      · exact (run_sq20 a K).mpr hK
      · exact (run_sq50 a K).mpr hK
      · exact (run_sq100 a K).mpr hK
    · cases hg
  · cases hg

def base7 : List (Nat × Ctr) := (256, pureN sqG) :: base6
theorem base7_ok : AllOk base7 := ⟨squares_ok, base6_ok⟩
end Go.Abs
