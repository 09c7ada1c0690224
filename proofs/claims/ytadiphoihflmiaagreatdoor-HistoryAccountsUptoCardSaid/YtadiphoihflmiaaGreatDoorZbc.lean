/- The answers of the curve's and the scalars' doors at the inputs that the closed runs ask for. PRINTED BY genans.py. Closed runs: what is handed on is reckoned before it goes on. Closed runs: what is known of a call at these values and blocks. works(): closed runs of the judge, and what they come to. rimelaw26.HistoryAccounts, run. -/
import Derived.Test.YtadiphoihflmiaaGreatDoorZbb
import Derived.Test.YtadiphoihflmiaaGreatDoorZat
import Derived.Test.YtadiphoihflmiaaGreatDoorZba
set_option linter.all false
set_option maxRecDepth 1000000
namespace Go.Abs
open Go.Proofs

def an0 : List UInt8 := [12, 0, 0, 0, 0, 0, 0, 0, 0, 0, 0, 0, 0, 0, 0, 0, 0, 0, 0, 0, 0, 0, 0, 0, 0, 0, 0, 0, 0, 0, 0, 0]
def an1 : List UInt8 := [19, 0, 0, 0, 0, 0, 0, 0, 0, 0, 0, 0, 0, 0, 0, 0, 0, 0, 0, 0, 0, 0, 0, 0, 0, 0, 0, 0, 0, 0, 0, 0]
def an2 : List UInt8 := [5, 0, 0, 0, 0, 0, 0, 0, 0, 0, 0, 0, 0, 0, 0, 0, 0, 0, 0, 0, 0, 0, 0, 0, 0, 0, 0, 0, 0, 0, 0, 0]
def an3 : List UInt8 := [237, 200, 118, 214, 131, 31, 210, 16, 93, 11, 67, 137, 202, 46, 40, 49, 102, 70, 146, 137, 20, 110, 44, 224, 111, 174, 254, 152, 178, 37, 72, 223]
def an4 : List UInt8 := [7, 0, 0, 0, 0, 0, 0, 0, 0, 0, 0, 0, 0, 0, 0, 0, 0, 0, 0, 0, 0, 0, 0, 0, 0, 0, 0, 0, 0, 0, 0, 0]
def an5 : List UInt8 := [184, 98, 64, 159, 181, 196, 196, 18, 61, 242, 171, 247, 70, 43, 136, 240, 65, 173, 54, 221, 104, 100, 206, 135, 47, 213, 71, 43, 227, 99, 197, 177]
def an6 : List UInt8 := [249, 228, 45, 46, 220, 129, 210, 51, 103, 150, 115, 82, 180, 126, 72, 86, 184, 37, 120, 99, 78, 108, 29, 231, 34, 128, 206, 139, 96, 206, 112, 192]
def an7 : List UInt8 := [185, 85, 29, 105, 2, 97, 254, 131, 48, 95, 67, 63, 130, 48, 24, 46, 244, 92, 214, 221, 182, 91, 124, 34, 71, 67, 90, 217, 147, 90, 24, 63]
def an8 : List UInt8 := [1, 0, 0, 0, 0, 0, 0, 0, 0, 0, 0, 0, 0, 0, 0, 0, 0, 0, 0, 0, 0, 0, 0, 0, 0, 0, 0, 0, 0, 0, 0, 0]
def an9 : List UInt8 := [2, 0, 0, 0, 0, 0, 0, 0, 0, 0, 0, 0, 0, 0, 0, 0, 0, 0, 0, 0, 0, 0, 0, 0, 0, 0, 0, 0, 0, 0, 0, 0]
def an10 : List UInt8 := [57, 40, 156, 137, 152, 253, 105, 131, 92, 38, 182, 25, 232, 152, 72, 167, 191, 2, 183, 203, 122, 209, 186, 21, 129, 203, 196, 80, 111, 37, 80, 206]
def an11 : List UInt8 := [0, 0, 0, 0, 0, 0, 0, 0, 0, 0, 0, 0, 0, 0, 0, 0, 0, 0, 0, 0, 0, 0, 0, 0, 0, 0, 0, 0, 0, 0, 0, 0]

/-! ### tables of answers -/
def look1 : List (List UInt8 × AVal) → List UInt8 → Option AVal
  | [], _ => none
  | (b, v) :: t, a => match eqL .u8 a b with
    | true => some v
    | false => look1 t a
def look2 : List (List UInt8 × List UInt8 × AVal) → List UInt8 → List UInt8 → Option AVal
  | [], _, _ => none
  | (b, c, v) :: t, a, a' => match eqL .u8 a b with
    | true => match eqL .u8 a' c with
      | true => some v
      | false => look2 t a a'
    | false => look2 t a a'
def ans1G (t : List (List UInt8 × AVal)) : List AVal → Option AVal
  | [.arr .u8 k a] => match Nat.beq k 32 with
    | true => look1 t a
    | false => none
  | _ => none
def ans2G (t : List (List UInt8 × List UInt8 × AVal)) : List AVal → Option AVal
  | [.arr .u8 k a, .arr .u8 j b] => match Nat.beq k 32, Nat.beq j 32 with
    | true, true => look2 t a b
    | _, _ => none
  | _ => none
def Fits1 (F : List UInt8 → AVal) : List (List UInt8 × AVal) → Prop
  | [] => True
  | (b, v) :: t => F b = v ∧ Fits1 F t
def Fits2 (F : List UInt8 → List UInt8 → AVal) : List (List UInt8 × List UInt8 × AVal) → Prop
  | [] => True
  | (b, c, v) :: t => F b c = v ∧ Fits2 F t
theorem look1_is {F : List UInt8 → AVal} : ∀ {t : List (List UInt8 × AVal)} {a : List UInt8} {v : AVal}, Fits1 F t → look1 t a = some v → F a = v
  | [], _, _, _, h => by cases h
  | (b, u) :: t, a, v, hf, h => by
    simp only [look1] at h
    cases hq : eqL .u8 a b with
    | true => rw [hq] at h; cases h; rw [eqL_u8 hq]; exact hf.1
    | false => rw [hq] at h; exact look1_is hf.2 h
theorem look2_is {F : List UInt8 → List UInt8 → AVal} : ∀ {t : List (List UInt8 × List UInt8 × AVal)} {a b : List UInt8} {v : AVal}, Fits2 F t → look2 t a b = some v → F a b = v
  | [], _, _, _, _, h => by cases h
  | (b, c, u) :: t, a, a', v, hf, h => by
    simp only [look2] at h
    cases hq : eqL .u8 a b with
    | true =>
      rw [hq] at h
      cases hq' : eqL .u8 a' c with
      | true => rw [hq'] at h; cases h; rw [eqL_u8 hq, eqL_u8 hq']; exact hf.1
      | false => rw [hq'] at h; exact look2_is hf.2 h
    | false => rw [hq] at h; exact look2_is hf.2 h
/-- A contract by fewer answers. -/
theorem pureN_sub {f : Nat} {g g' : List AVal → Option AVal} (h : CtrOk Tryz.prog env f (pureN g)) (hs : ∀ us v, g' us = some v → g us = some v) : CtrOk Tryz.prog env f (pureN g') :=
  h.of (fun us bs => pureN_det us bs) fun {ρ Z w us bs xs K} hh hx hr => by
    cases bs with
    | nil =>
      obtain ⟨v, hg, hr⟩ := ob_inv hr
      show ob (g us) _
      rw [hs us v hg]
      exact hr
    | cons b bs => exact hr.elim
theorem ans1_ok {f : Nat} {F : List UInt8 → AVal} {t : List (List UInt8 × AVal)} (h : CtrOk Tryz.prog env f (pureN (b32G F))) (ht : Fits1 F t) : CtrOk Tryz.prog env f (pureN (ans1G t)) := pureN_sub h fun us v hg => by
  unfold ans1G at hg
  split at hg
  · split at hg
    · rename_i e; simp only [b32G, e]; rw [look1_is ht hg]
    · cases hg
  · cases hg
theorem ans2_ok {f : Nat} {F : List UInt8 → List UInt8 → AVal} {t : List (List UInt8 × List UInt8 × AVal)} (h : CtrOk Tryz.prog env f (pureN (bb2G F))) (ht : Fits2 F t) : CtrOk Tryz.prog env f (pureN (ans2G t)) := pureN_sub h fun us v hg => by
  unfold ans2G at hg
  split at hg
  · split at hg
    · rename_i e e'; simp only [bb2G, e, e']; rw [look2_is ht hg]
    · cases hg
  · cases hg

/-! ### the answers -/
theorem mb0 : ckMulB an2 an3 = true := by kernel_rfl
theorem mb1 : ckMulB an4 an5 = true := by kernel_rfl
theorem mb2 : ckMulB an0 an6 = true := by kernel_rfl
theorem mb3 : ckMulB an1 an7 = true := by kernel_rfl
theorem ck0 : ckCheck an3 = true := by kernel_rfl
theorem ck1 : ckCheck an5 = true := by kernel_rfl
theorem ck2 : ckCheck an6 = true := by kernel_rfl
theorem ck3 : ckCheck an7 = true := by kernel_rfl
theorem me0 : ckMul an8 an8 an8 = true := by kernel_rfl
theorem me1 : ckMul an8 an5 an5 = true := by kernel_rfl
theorem me2 : ckMul an9 an8 an8 = true := by kernel_rfl
theorem me3 : ckMul an9 an5 an10 = true := by kernel_rfl
theorem ad0 : ckAdd an8 an5 an5 = true := by kernel_rfl
theorem ad1 : ckAdd an5 an3 an6 = true := by kernel_rfl
theorem ad2 : ckAdd an10 an3 an7 = true := by kernel_rfl
theorem pm0 : ckPrime an3 = true := by kernel_rfl
theorem pm1 : ckPrime an5 = true := by kernel_rfl
theorem pm2 : ckPrime an6 = true := by kernel_rfl
theorem pm3 : ckPrime an7 = true := by kernel_rfl
def tMulB : List (List UInt8 × AVal) := [(an2, .arr .u8 32 an3), (an4, .arr .u8 32 an5), (an0, .arr .u8 32 an6), (an1, .arr .u8 32 an7)]
def tCheck : List (List UInt8 × AVal) := [(an3, .int .i64 (0 : Int)), (an5, .int .i64 (0 : Int)), (an6, .int .i64 (0 : Int)), (an7, .int .i64 (0 : Int))]
def tMul : List (List UInt8 × List UInt8 × AVal) := [(an8, an8, okE an8), (an8, an5, okE an5), (an9, an8, okE an8), (an9, an5, okE an10)]
def tAdd : List (List UInt8 × List UInt8 × AVal) := [(an8, an5, okE an5), (an5, an3, okE an6), (an10, an3, okE an7)]
def tPrime : List (List UInt8 × AVal) := [(an3, .tup [.bool true, .int .i64 (0 : Int)]), (an5, .tup [.bool true, .int .i64 (0 : Int)]), (an6, .tup [.bool true, .int .i64 (0 : Int)]), (an7, .tup [.bool true, .int .i64 (0 : Int)])]
theorem aMulB_ok : CtrOk Tryz.prog env 144 (pureN (ans1G tMulB)) := ans1_ok mulB_ok ⟨congrArg (AVal.arr .u8 32) (mulB_is mb0), congrArg (AVal.arr .u8 32) (mulB_is mb1), congrArg (AVal.arr .u8 32) (mulB_is mb2), congrArg (AVal.arr .u8 32) (mulB_is mb3), trivial⟩
theorem aCheck_ok : CtrOk Tryz.prog env 165 (pureN (ans1G tCheck)) := ans1_ok check_ok ⟨check_is ck0, check_is ck1, check_is ck2, check_is ck3, trivial⟩
theorem aMul_ok : CtrOk Tryz.prog env 166 (pureN (ans2G tMul)) := ans2_ok mulE_ok ⟨mulE_is me0, mulE_is me1, mulE_is me2, mulE_is me3, trivial⟩
theorem aAdd_ok : CtrOk Tryz.prog env 168 (pureN (ans2G tAdd)) := ans2_ok addE_ok ⟨addE_is ad0, addE_is ad1, addE_is ad2, trivial⟩
theorem aPrime_ok : CtrOk Tryz.prog env 219 (pureN (ans1G tPrime)) := ans1_ok prime_ok ⟨prime_is pm0, prime_is pm1, prime_is pm2, prime_is pm3, trivial⟩

/-! ### numbers modulo L -/
def sMaF (a b c : List UInt8) : List UInt8 := backF (plF (tiF (valF a) (valF b)) (valF c))
theorem run_sMa (a b c : List UInt8) : ∀ K, run baseS4 205 0 [.arr .u8 32 a, .arr .u8 32 b, .arr .u8 32 c] [] K = K (.arr .u8 32 (sMaF a b c)) [] := by intro K; kernel_rfl
def bb3G (f : List UInt8 → List UInt8 → List UInt8 → AVal) : List AVal → Option AVal
  | [.arr .u8 k a, .arr .u8 j b, .arr .u8 i c] => match Nat.beq k 32, Nat.beq j 32, Nat.beq i 32 with
    | true, true, true => some (f a b c)
    | _, _, _ => none
  | _ => none
theorem sMa_ok : CtrOk Tryz.prog env 205 (pureN (bb3G fun a b c => .arr .u8 32 (sMaF a b c))) := pureN_of_run (n := 0) baseS4_ok fun {ρ Z us xs v} hx hg K hK => by
  unfold bb3G at hg
  split at hg
  · split at hg
    · cases hg
      rename_i e e' e''
      have := beq_eq e; subst this
      have := beq_eq e'; subst this
      have := beq_eq e''; subst this
      exact (run_sMa _ _ _ K).mpr hK
    · cases hg
  · cases hg
def look3 : List (List UInt8 × List UInt8 × List UInt8 × AVal) → List UInt8 → List UInt8 → List UInt8 → Option AVal
  | [], _, _, _ => none
  | (b, c, d, v) :: t, x, y, z => match andB (eqL .u8 x b) (andB (eqL .u8 y c) (eqL .u8 z d)) with
    | true => some v
    | false => look3 t x y z
def Fits3 (F : List UInt8 → List UInt8 → List UInt8 → AVal) : List (List UInt8 × List UInt8 × List UInt8 × AVal) → Prop
  | [] => True
  | (b, c, d, v) :: t => F b c d = v ∧ Fits3 F t
theorem look3_is {F : List UInt8 → List UInt8 → List UInt8 → AVal} : ∀ {t : List (List UInt8 × List UInt8 × List UInt8 × AVal)} {x y z : List UInt8} {v : AVal}, Fits3 F t → look3 t x y z = some v → F x y z = v
  | [], _, _, _, _, _, h => by cases h
  | (b, c, d, u) :: t, x, y, z, v, hf, h => by
    simp only [look3] at h
    cases hq : andB (eqL .u8 x b) (andB (eqL .u8 y c) (eqL .u8 z d)) with
    | true =>
      rw [hq] at h; cases h
      obtain ⟨h1, h2⟩ := andB_iff.1 hq
      obtain ⟨h2, h3⟩ := andB_iff.1 h2
      rw [eqL_u8 h1, eqL_u8 h2, eqL_u8 h3]; exact hf.1
    | false => rw [hq] at h; exact look3_is hf.2 h
def ans3G (t : List (List UInt8 × List UInt8 × List UInt8 × AVal)) : List AVal → Option AVal
  | [.arr .u8 k a, .arr .u8 j b, .arr .u8 i c] => match Nat.beq k 32, Nat.beq j 32, Nat.beq i 32 with
    | true, true, true => look3 t a b c
    | _, _, _ => none
  | _ => none
theorem ans3_ok {f : Nat} {F : List UInt8 → List UInt8 → List UInt8 → AVal} {t : List (List UInt8 × List UInt8 × List UInt8 × AVal)} (h : CtrOk Tryz.prog env f (pureN (bb3G F))) (ht : Fits3 F t) : CtrOk Tryz.prog env f (pureN (ans3G t)) := pureN_sub h fun us v hg => by
  unfold ans3G at hg
  split at hg
  · split at hg
    · rename_i e e' e''; simp only [bb3G, e, e', e'']; rw [look3_is ht hg]
    · cases hg
  · cases hg
theorem sa0 : sAddF an2 an11 = an2 := by kernel_rfl
theorem sa1 : sAddF an4 an11 = an4 := by kernel_rfl
theorem sa2 : sAddF an0 an11 = an0 := by kernel_rfl
theorem sa3 : sAddF an1 an11 = an1 := by kernel_rfl
theorem sm0 : sMaF an11 an8 an4 = an4 := by kernel_rfl
theorem sm1 : sMaF an4 an8 an2 = an0 := by kernel_rfl
theorem sm2 : sMaF an11 an9 an4 = an4 := by kernel_rfl
theorem sm3 : sMaF an4 an9 an2 = an1 := by kernel_rfl
def tsAdd : List (List UInt8 × List UInt8 × AVal) := [(an2, an11, .arr .u8 32 an2), (an4, an11, .arr .u8 32 an4), (an0, an11, .arr .u8 32 an0), (an1, an11, .arr .u8 32 an1)]
def tsMa : List (List UInt8 × List UInt8 × List UInt8 × AVal) := [(an11, an8, an4, .arr .u8 32 an4), (an4, an8, an2, .arr .u8 32 an0), (an11, an9, an4, .arr .u8 32 an4), (an4, an9, an2, .arr .u8 32 an1)]
theorem asAdd_ok : CtrOk Tryz.prog env 183 (pureN (ans2G tsAdd)) := ans2_ok sAdd_ok ⟨congrArg (AVal.arr .u8 32) sa0, congrArg (AVal.arr .u8 32) sa1, congrArg (AVal.arr .u8 32) sa2, congrArg (AVal.arr .u8 32) sa3, trivial⟩
theorem asMa_ok : CtrOk Tryz.prog env 205 (pureN (ans3G tsMa)) := ans3_ok sMa_ok ⟨congrArg (AVal.arr .u8 32) sm0, congrArg (AVal.arr .u8 32) sm1, congrArg (AVal.arr .u8 32) sm2, congrArg (AVal.arr .u8 32) sm3, trivial⟩
theorem id_is : formF ptId = an8 := form_is id_Q (by kernel_rfl)
theorem aId_ok : CtrOk Tryz.prog env 194 (pureN (conG (.arr .u8 32 an8))) := by rw [← id_is]; exact identE_ok

def scZero (a : List UInt8) : Bool := eqL .u64 (valF a) zN
theorem run_isZero (a : List UInt8) : ∀ K, run baseS4 148 0 [.arr .u8 32 a] [] K = K (.bool (scZero a)) [] := by intro K; kernel_rfl
theorem isZero_ok : CtrOk Tryz.prog env 148 (pureN (b32G fun a => .bool (scZero a))) := b32_ok baseS4_ok fun a _ K hK => (run_isZero a K).mpr hK
def scLess (l m : List UInt64) : UInt64 := match l, m with
  | [a0, a1, a2, a3], [b0, b1, b2, b3] => lsB a0 a1 a2 a3 b0 b1 b2 b3
  | _, _ => w0
def scCanon (a : List UInt8) : Bool := eqT .u64 (scLess (fromF a) ordF) (rawI .u64 1)
theorem run_canon (a : List UInt8) : ∀ K, run baseS4 132 2 [.arr .u8 32 a] [] K = K (.bool (scCanon a)) [] := by intro K; kernel_rfl
theorem canonic_ok : CtrOk Tryz.prog env 132 (pureN (b32G fun a => .bool (scCanon a))) := b32_ok baseS4_ok fun a _ K hK => (run_canon a K).mpr hK
def fromIF (n : UInt64) : List UInt8 := backF [n, w0, w0, w0]
theorem run_fromI (n : UInt64) : ∀ K, run baseS4 206 0 [.int .u64 n] [] K = K (.arr .u8 32 (fromIF n)) [] := by intro K; kernel_rfl
def u64G (F : UInt64 → AVal) : List AVal → Option AVal
  | [.int .u64 n] => some (F n)
  | _ => none
theorem fromI_ok : CtrOk Tryz.prog env 206 (pureN (u64G fun n => .arr .u8 32 (fromIF n))) := pureN_of_run (n := 0) baseS4_ok fun {ρ Z us xs v} hx hg K hK => by
  unfold u64G at hg
  split at hg <;> cases hg
  exact (run_fromI _ K).mpr hK
def lookI : List (UInt64 × AVal) → UInt64 → Option AVal
  | [], _ => none
  | (b, v) :: t, a => match eqT .u64 a b with
    | true => some v
    | false => lookI t a
def ansIG (t : List (UInt64 × AVal)) : List AVal → Option AVal
  | [.int .u64 n] => lookI t n
  | _ => none
def FitsI (F : UInt64 → AVal) : List (UInt64 × AVal) → Prop
  | [] => True
  | (b, v) :: t => F b = v ∧ FitsI F t
theorem eqT_u64 {x y : UInt64} (h : eqT .u64 x y = true) : x = y := by
  simp only [eqT, toI, beq_iff_eq] at h
  exact UInt64.toNat_inj.1 (by omega)
theorem lookI_is {F : UInt64 → AVal} : ∀ {t : List (UInt64 × AVal)} {a : UInt64} {v : AVal}, FitsI F t → lookI t a = some v → F a = v
  | [], _, _, _, h => by cases h
  | (b, u) :: t, a, v, hf, h => by
    simp only [lookI] at h
    cases hq : eqT .u64 a b with
    | true => rw [hq] at h; cases h; rw [eqT_u64 hq]; exact hf.1
    | false => rw [hq] at h; exact lookI_is hf.2 h
theorem ansI_ok {f : Nat} {F : UInt64 → AVal} {t : List (UInt64 × AVal)} (h : CtrOk Tryz.prog env f (pureN (u64G F))) (ht : FitsI F t) : CtrOk Tryz.prog env f (pureN (ansIG t)) := pureN_sub h fun us v hg => by
  unfold ansIG at hg
  split at hg
  · simp only [u64G]; rw [lookI_is ht hg]
  · cases hg
theorem iz0 : scZero an2 = false := by kernel_rfl
theorem iz1 : scZero an4 = false := by kernel_rfl
theorem iz2 : scZero an0 = false := by kernel_rfl
theorem iz3 : scZero an1 = false := by kernel_rfl
theorem cn0 : scCanon an0 = true := by kernel_rfl
theorem cn1 : scCanon an1 = true := by kernel_rfl
theorem fi0 : fromIF (UInt64.ofNat 1) = an8 := by kernel_rfl
theorem fi1 : fromIF (UInt64.ofNat 2) = an9 := by kernel_rfl
def tZero : List (List UInt8 × AVal) := [(an2, .bool false), (an4, .bool false), (an0, .bool false), (an1, .bool false)]
def tCanon : List (List UInt8 × AVal) := [(an0, .bool true), (an1, .bool true)]
def tFromI : List (UInt64 × AVal) := [(UInt64.ofNat 1, .arr .u8 32 an8), (UInt64.ofNat 2, .arr .u8 32 an9)]
theorem aZero_ok : CtrOk Tryz.prog env 148 (pureN (ans1G tZero)) := ans1_ok isZero_ok ⟨congrArg AVal.bool iz0, congrArg AVal.bool iz1, congrArg AVal.bool iz2, congrArg AVal.bool iz3, trivial⟩
theorem aCanon_ok : CtrOk Tryz.prog env 132 (pureN (ans1G tCanon)) := ans1_ok canonic_ok ⟨congrArg AVal.bool cn0, congrArg AVal.bool cn1, trivial⟩
theorem aFromI_ok : CtrOk Tryz.prog env 206 (pureN (ansIG tFromI)) := ansI_ok fromI_ok ⟨congrArg (AVal.arr .u8 32) fi0, congrArg (AVal.arr .u8 32) fi1, trivial⟩

/-- The table of the closed runs. -/
noncomputable def baseA : List (Nat × Ctr) := (148, pureN (ans1G tZero)) :: (132, pureN (ans1G tCanon)) :: (206, pureN (ansIG tFromI)) :: (144, pureN (ans1G tMulB)) :: (165, pureN (ans1G tCheck)) :: (166, pureN (ans2G tMul)) :: (168, pureN (ans2G tAdd)) :: (219, pureN (ans1G tPrime)) :: (183, pureN (ans2G tsAdd)) :: (205, pureN (ans3G tsMa)) :: (194, pureN (conG (.arr .u8 32 an8))) :: base0
theorem baseA_ok : AllOk baseA := ⟨aZero_ok, aCanon_ok, aFromI_ok, aMulB_ok, aCheck_ok, aMul_ok, aAdd_ok, aPrime_ok, asAdd_ok, asMa_ok, aId_ok, base0_ok⟩
end Go.Abs

namespace Go.Abs
open Go.Proofs

def gN {α : Type} (n : Nat) (k : Nat → α) : α := Nat.rec (motive := fun _ => α) (k 0) (fun m _ => k (Nat.succ m)) n
theorem gN_eq {α : Type} (n : Nat) (k : Nat → α) : gN n k = k n := by cases n <;> rfl
def gI (x : Int) (K : Int → Prop) : Prop := match x with
  | .ofNat n => gN n fun n => K (.ofNat n)
  | .negSucc n => gN n fun n => K (.negSucc n)
theorem gI_eq (x : Int) (K : Int → Prop) : gI x K = K x := by cases x <;> simp only [gI, gN_eq]
def gT : (k : IntKind) → TT k → (TT k → Prop) → Prop
  | .u8, x, K => gN (UInt8.toNat x) fun n => K (UInt8.ofNat n)
  | .u16, x, K => gN (UInt16.toNat x) fun n => K (UInt16.ofNat n)
  | .u32, x, K => gN (UInt32.toNat x) fun n => K (UInt32.ofNat n)
  | .u64, x, K => gN (UInt64.toNat x) fun n => K (UInt64.ofNat n)
  | .i8, x, K => gI x K
  | .i16, x, K => gI x K
  | .i32, x, K => gI x K
  | .i64, x, K => gI x K
theorem gT_eq : ∀ (k : IntKind) (x : TT k) (K : TT k → Prop), gT k x K = K x
  | .u8, x, K => by simp only [gT, gN_eq]; congr 1; exact UInt8.ofNat_toNat
  | .u16, x, K => by simp only [gT, gN_eq]; congr 1; exact UInt16.ofNat_toNat
  | .u32, x, K => by simp only [gT, gN_eq]; congr 1; exact UInt32.ofNat_toNat
  | .u64, x, K => by simp only [gT, gN_eq]; congr 1; exact UInt64.ofNat_toNat
  | .i8, x, K => gI_eq x K
  | .i16, x, K => gI_eq x K
  | .i32, x, K => gI_eq x K
  | .i64, x, K => gI_eq x K
def gTs (k : IntKind) : List (TT k) → (List (TT k) → Prop) → Prop
  | [], K => K []
  | x :: l, K => gT k x fun x => gTs k l fun l => K (x :: l)
theorem gTs_eq (k : IntKind) : ∀ (l : List (TT k)) (K : List (TT k) → Prop), gTs k l K = K l
  | [], K => rfl
  | x :: l, K => by simp only [gTs, gT_eq, gTs_eq k l]
def gP : List Step → (List Step → Prop) → Prop
  | [], K => K []
  | .f i :: p, K => gN i fun i => gP p fun p => K (.f i :: p)
  | .i n :: p, K => gN n fun n => gP p fun p => K (.i n :: p)
theorem gP_eq : ∀ (p : List Step) (K : List Step → Prop), gP p K = K p
  | [], K => rfl
  | .f i :: p, K => by simp only [gP, gN_eq, gP_eq p]
  | .i n :: p, K => by simp only [gP, gN_eq, gP_eq p]
def gB (b : Bool) (K : Bool → Prop) : Prop := match b with
  | true => K true
  | false => K false
theorem gB_eq (b : Bool) (K : Bool → Prop) : gB b K = K b := by cases b <;> rfl
def gV : AVal → (AVal → Prop) → Prop
  | .int k x, K => gT k x fun x => K (.int k x)
  | .bool b, K => gB b fun b => K (.bool b)
  | .str s, K => gTs .u8 s fun s => K (.str s)
  | .arr k n l, K => gN n fun n => gTs k l fun l => K (.arr k n l)
  | .unit, K => K .unit
  | .pair a b, K => gV a fun a => gV b fun b => K (.pair a b)
  | .ptr key p, K => gN key fun key => gP p fun p => K (.ptr key p)
  | .nilptr, K => K .nilptr
  | .sl key p off len, K => gN key fun key => gP p fun p => gN off fun off => gN len fun len => K (.sl key p off len)
  | .sw key, K => gN key fun key => K (.sw key)
  | .nilsl, K => K .nilsl
  | .vw k l, K => K (.vw k l)
  | .vr tg e enc d l, K => K (.vr tg e enc d l)
  | .vp v, K => K (.vp v)
  | .kp key p off n, K => gN key fun key => gP p fun p => gN off fun off => gN n fun n => K (.kp key p off n)
  | .iface t v, K => gN t fun t => gV v fun v => K (.iface t v)
  | .nilIface, K => K .nilIface
  | .fn f a b, K => gV a fun a => gV b fun b => K (.fn f a b)
  | .nilfn, K => K .nilfn
  | .tnil, K => K .tnil
  | .tcons a b, K => gV a fun a => gV b fun b => K (.tcons a b)
  | .gp id, K => gN id fun id => K (.gp id)
  | .th t, K => gN t fun t => K (.th t)
  | .mp key, K => gN key fun key => K (.mp key)
  | .nilmap, K => K .nilmap
  | .raw x, K => K (.raw x)
theorem gV_eq : ∀ (v : AVal) (K : AVal → Prop), gV v K = K v := by
  intro v
  induction v with
  | int k x => intro K; simp only [gV, gT_eq]
  | bool b => intro K; simp only [gV, gB_eq]
  | str s => intro K; simp only [gV, gTs_eq]
  | arr k n l => intro K; simp only [gV, gN_eq, gTs_eq]
  | pair a b iha ihb => intro K; simp only [gV, iha, ihb]
  | ptr key p => intro K; simp only [gV, gN_eq, gP_eq]
  | sl key p off len => intro K; simp only [gV, gN_eq, gP_eq]
  | sw key => intro K; simp only [gV, gN_eq]
  | kp key p off n => intro K; simp only [gV, gN_eq, gP_eq]
  | iface t v ih => intro K; simp only [gV, gN_eq, ih]
  | fn f a b iha ihb => intro K; simp only [gV, iha, ihb]
  | tcons a b iha ihb => intro K; simp only [gV, iha, ihb]
  | gp id => intro K; simp only [gV, gN_eq]
  | th t => intro K; simp only [gV, gN_eq]
  | mp key => intro K; simp only [gV, gN_eq]
  | _ => intro K; rfl
def gVs : List AVal → (List AVal → Prop) → Prop
  | [], K => K []
  | v :: vs, K => gV v fun v => gVs vs fun vs => K (v :: vs)
theorem gVs_eq : ∀ (vs : List AVal) (K : List AVal → Prop), gVs vs K = K vs
  | [], K => rfl
  | v :: vs, K => by simp only [gVs, gV_eq, gVs_eq vs]
/-- The backbone of a list. -/
def gS {α : Type} : List α → (List α → Prop) → Prop
  | [], K => K []
  | x :: l, K => gS l fun l => K (x :: l)
theorem gS_eq {α : Type} : ∀ (l : List α) (K : List α → Prop), gS l K = K l
  | [], K => rfl
  | x :: l, K => by simp only [gS, gS_eq l]
def gM {α : Type} : List (α × AVal) → (List (α × AVal) → Prop) → Prop
  | [], K => K []
  | (a, v) :: l, K => gV v fun v => gM l fun l => K ((a, v) :: l)
theorem gM_eq {α : Type} : ∀ (l : List (α × AVal)) (K : List (α × AVal) → Prop), gM l K = K l
  | [], K => rfl
  | (a, v) :: l, K => by simp only [gM, gV_eq, gM_eq l]
def gR (r : Root) (K : Root → Prop) : Prop := match r with
  | .var t => gN t fun t => K (.var t)
  | .row e => gN e fun e => K (.row e)
  | .map k e => gN k fun k => gN e fun e => K (.map k e)
theorem gR_eq (r : Root) (K : Root → Prop) : gR r K = K r := by cases r <;> simp only [gR, gN_eq]
def gC (c : Cont) (K : Cont → Prop) : Prop := match c with
  | .var v => gV v fun v => K (.var v)
  | .ints k l => gTs k l fun l => K (.ints k l)
  | .recs c l => gS l fun l => K (.recs c l)
  | .vals l => gVs l fun l => K (.vals l)
  | .map k v l => gS l fun l => K (.map k v l)
  | .mapv k l => gM l fun l => K (.mapv k l)
theorem gC_eq (c : Cont) (K : Cont → Prop) : gC c K = K c := by cases c <;> simp only [gC, gV_eq, gTs_eq, gS_eq, gVs_eq, gM_eq]
def gBk (b : Blk) (K : Blk → Prop) : Prop := match b with
  | ⟨r, c⟩ => gR r fun r => gC c fun c => K ⟨r, c⟩
theorem gBk_eq (b : Blk) (K : Blk → Prop) : gBk b K = K b := by cases b; simp only [gBk, gR_eq, gC_eq]
def gBs : List Blk → (List Blk → Prop) → Prop
  | [], K => K []
  | b :: bs, K => gBk b fun b => gBs bs fun bs => K (b :: bs)
theorem gBs_eq : ∀ (bs : List Blk) (K : List Blk → Prop), gBs bs K = K bs
  | [], K => rfl
  | b :: bs, K => by simp only [gBs, gBk_eq, gBs_eq bs]
def gH : List (Nat × Blk) → (List (Nat × Blk) → Prop) → Prop
  | [], K => K []
  | (i, b) :: hs, K => gN i fun i => gBk b fun b => gH hs fun hs => K ((i, b) :: hs)
theorem gH_eq : ∀ (hs : List (Nat × Blk)) (K : List (Nat × Blk) → Prop), gH hs K = K hs
  | [], K => rfl
  | (i, b) :: hs, K => by simp only [gH, gN_eq, gBk_eq, gH_eq hs]
def gO : List (Option AVal) → (List (Option AVal) → Prop) → Prop
  | [], K => K []
  | none :: l, K => gO l fun l => K (none :: l)
  | some v :: l, K => gV v fun v => gO l fun l => K (some v :: l)
theorem gO_eq : ∀ (l : List (Option AVal)) (K : List (Option AVal) → Prop), gO l K = K l
  | [], K => rfl
  | none :: l, K => by simp only [gO, gO_eq l]
  | some v :: l, K => by simp only [gO, gV_eq, gO_eq l]

/-! ### the evaluator, reckoning -/
/-- A contract, what is handed in and out reckoned. -/
def gCtr (c : Ctr) : Ctr := ⟨fun us bs K => gVs us fun us => gBs bs fun bs => c.run us bs fun v h => gV v fun v => gH h fun h => K v h⟩
theorem gCtr_eq (c : Ctr) : gCtr c = c := by
  cases c
  simp only [gCtr, gVs_eq, gBs_eq, gV_eq, gH_eq]

def gSt (S : St) (K : St → Prop) : Prop := gO S.tmps fun t => K ⟨t, S.heap, S.used⟩
theorem gSt_eq (S : St) (K : St → Prop) : gSt S K = K S := by simp only [gSt, gO_eq]

/-- The state at a loop's head. -/
def canonG (nb : Nat) (live : List Nat) (S : St) (K : St → Prop) : Prop :=
  let t := keepT live 0 S.tmps
  let ks := reach S.heap 512 (keysAt S.heap (upTo 0 nb) ++ keysO t) (upTo 0 nb)
  chk (nodupN ks) (chk (subN (keysO t) ks) (chk (subN (keysAt S.heap ks) ks) (chk (Nat.ble ks.length 256)
    (gO (renameO (fun k => idxN k ks) t) fun t => gH (listOf S.heap (fun k => idxN k ks) 0 ks) fun h => K ⟨t, lookL h, fun _ => false⟩))))
theorem canonG_eq (nb : Nat) (live : List Nat) (S : St) (K : St → Prop) : canonG nb live S K = canon nb live S K := by
  simp only [canonG, canon, gO_eq, gH_eq]

def evalLoopG (nb : Nat) (live : List Nat) (body : St → (XE → St → Prop) → Prop) : Nat → St → (XE → St → Prop) → Prop
  | 0, _, _ => False
  | n + 1, S, K => canonG nb live S fun S => body S (fun e S' => match e with
    | .normal => evalLoopG nb live body n S' K
    | .exit id => K (.exit id) S'
    | .ret => K .ret S')
theorem evalLoopG_eq (nb : Nat) (live : List Nat) (body : St → (XE → St → Prop) → Prop) : ∀ (n : Nat) (S : St) (K : XE → St → Prop), evalLoopG nb live body n S K = evalLoop nb live body n S K
  | 0, S, K => rfl
  | n + 1, S, K => by
    simp only [evalLoopG, evalLoop, canonG_eq]
    congr 1
    funext S
    congr 1
    funext e S'
    cases e with
    | normal => exact evalLoopG_eq nb live body n S' K
    | exit id => rfl
    | ret => rfl

def evalCodeG (env : Env) (C : Tab) (nb : Nat) (live : Nat → List Nat) (fuel : Nat) : Code → St → (XE → St → Prop) → Prop
  | .skip, S, K => K .normal S
  | .region id ops draw, S, K => match draw with
    | true => chk (Region.lexB .any ops) (evalDraw env C id ops.toList ops.toList 0 [] S fun S => gSt S (K .normal))
    | false => evalOps env C id ops.toList ops.toList 0 S fun S => gSt S (K .normal)
  | .seq a b, S, K => evalCodeG env C nb live fuel a S fun e S' => match e with
    | .normal => evalCodeG env C nb live fuel b S' K
    | .exit id => K (.exit id) S'
    | .ret => K .ret S'
  | .cond c a b, S, K => ob (opVal S.tmps c) fun v => match v with
    | .bool t => br t (evalCodeG env C nb live fuel a S K) (evalCodeG env C nb live fuel b S K)
    | _ => False
  | .block id c, S, K => evalCodeG env C nb live fuel c S fun e S' => match e with
    | .normal => K .normal S'
    | .exit i => match Nat.beq i id with
      | true => K .normal S'
      | false => K (.exit i) S'
    | .ret => K .ret S'
  | .loop c, S, K => evalLoopG nb (match firstRegion c with
    | some r => live r
    | none => []) (fun S K => evalCodeG env C nb live fuel c S K) fuel S K
  | .exit id, S, K => K (.exit id) S
  | .ret, S, K => K .ret S
  | _, _, _ => False
theorem evalCodeG_eq (env : Env) (C : Tab) (nb : Nat) (live : Nat → List Nat) (fuel : Nat) : ∀ (c : Code) (S : St) (K : XE → St → Prop), evalCodeG env C nb live fuel c S K = evalCode env C nb live fuel c S K := by
  have e1 : ∀ (K : XE → St → Prop), (fun S => gSt S (K .normal)) = K .normal := fun K => by funext S; exact gSt_eq S _
  intro c
  induction c with
  | seq a b iha ihb =>
    intro S K
    simp only [evalCodeG, evalCode, iha]
    congr 1
    funext e S'
    cases e with
    | normal => exact ihb S' K
    | exit id => rfl
    | ret => rfl
  | cond c a b iha ihb =>
    intro S K
    simp only [evalCodeG, evalCode, iha, ihb]
    congr 1
  | block id a ih =>
    intro S K
    simp only [evalCodeG, evalCode, ih]
    congr 1
  | loop a ih =>
    intro S K
    have : (fun S K => evalCodeG env C nb live fuel a S K) = fun S K => evalCode env C nb live fuel a S K := by funext S K; exact ih S K
    simp only [evalCodeG, evalCode, this, evalLoopG_eq]
    cases firstRegion a <;> rfl
  | region id ops draw =>
    intro S K
    cases draw <;> simp only [evalCodeG, evalCode, e1]
  | _ => intro S K; rfl

def evalFnG (env : Env) (C : Tab) (live : Nat → List Nat) (fn : Func) (body : Code) (fuel : Nat) (args : List AVal) (bs : List Blk) (K : AVal → List (Nat × Blk) → Prop) : Prop :=
  chk (Nat.ble bs.length 256)
  (evalCodeG env C bs.length live fuel body ⟨someL args (fn.ntmps - args.length), ofBlks 0 bs, fun _ => false⟩ fun e S => match e with
    | .exit _ => False
    | _ => ob (resVals env S fn.results.toList) fun vs => finish bs.length S.heap (oneOf vs) K)
theorem evalFnG_eq (env : Env) (C : Tab) (live : Nat → List Nat) (fn : Func) (body : Code) (fuel : Nat) : evalFnG env C live fn body fuel = evalFn env C live fn body fuel := by
  funext args bs K
  simp only [evalFnG, evalFn, evalCodeG_eq]
  congr 1

/-- The table by depth, reckoning. -/
def tabG (env : Env) (base : Tab) (fns : Nat → Option (Func × Code)) (live : Nat → Nat → List Nat) (fuel : Nat) : Nat → Tab
  | 0 => base
  | n + 1 => fun f => match base f with
    | some c => some c
    | none => match fns f with
      | some (fn, body) => some (gCtr ⟨evalFnG env (tabG env base fns live fuel n) (live f) fn body fuel⟩)
      | none => none
theorem tabG_eq (env : Env) (base : Tab) (fns : Nat → Option (Func × Code)) (live : Nat → Nat → List Nat) (fuel : Nat) : ∀ n, tabG env base fns live fuel n = tabN env base fns live fuel n
  | 0 => rfl
  | n + 1 => by
    funext f
    simp only [tabG, tabN, gCtr_eq, tabG_eq env base fns live fuel n, evalFnG_eq]
    cases base f with
    | some c => rfl
    | none => cases fns f <;> rfl

/-- A function's own run, reckoning. -/
noncomputable def runG (l : List (Nat × Ctr)) (f n : Nat) (us : List AVal) (bs : List Blk) (K : AVal → List (Nat × Blk) → Prop) : Prop := match fnsOf f with
  | some (fn, body) => evalFnG env (tabG env (tabL l) fnsOf liveOf 5000 n) (liveOf f) fn body 5000 us bs K
  | none => False
theorem runG_eq (l : List (Nat × Ctr)) (f n : Nat) : runG l f n = run l f n := by
  funext us bs K
  unfold runG run
  cases fnsOf f with
  | none => rfl
  | some p =>
    obtain ⟨fn, body⟩ := p
    simp only [tabG_eq, evalFnG_eq]
attribute [irreducible] runG
end Go.Abs

namespace Go.Abs
open Go.Proofs

/-! ### values held against each other -/
def sameP : List Step → List Step → Bool
  | [], [] => true
  | .f i :: p, .f j :: q => andB (Nat.beq i j) (sameP p q)
  | .i i :: p, .i j :: q => andB (Nat.beq i j) (sameP p q)
  | _, _ => false
theorem sameP_eq : ∀ {p q : List Step}, sameP p q = true → p = q
  | [], [], _ => rfl
  | .f i :: p, .f j :: q, h => by
    obtain ⟨h1, h2⟩ := andB_iff.1 h
    rw [beq_eq h1, sameP_eq h2]
  | .i i :: p, .i j :: q, h => by
    obtain ⟨h1, h2⟩ := andB_iff.1 h
    rw [beq_eq h1, sameP_eq h2]
  | [], _ :: _, h => by simp [sameP] at h
  | .f _ :: _, [], h => by simp [sameP] at h
  | .i _ :: _, [], h => by simp [sameP] at h
  | .f _ :: _, .i _ :: _, h => by simp [sameP] at h
  | .i _ :: _, .f _ :: _, h => by simp [sameP] at h
def sameT (k : IntKind) : List (TT k) → List (TT k) → Bool
  | [], [] => true
  | x :: xs, y :: ys => andB (eqT k x y) (sameT k xs ys)
  | _, _ => false
theorem eqT_eq {k : IntKind} {x y : TT k} (h : eqT k x y = true) : x = y := toI_inj (by simpa [eqT] using h)
theorem sameT_eq {k : IntKind} : ∀ {l m : List (TT k)}, sameT k l m = true → l = m
  | [], [], _ => rfl
  | x :: l, y :: m, h => by
    obtain ⟨h1, h2⟩ := andB_iff.1 h
    rw [eqT_eq h1, sameT_eq h2]
  | [], _ :: _, h => by simp [sameT] at h
  | _ :: _, [], h => by simp [sameT] at h
def sameI (k : IntKind) (x : TT k) (k' : IntKind) (y : TT k') : Bool := match castT k k' y with
  | some y => eqT k x y
  | none => false
def sameLs (k : IntKind) (l : List (TT k)) (k' : IntKind) (m : List (TT k')) : Bool := match castL k k' m with
  | some m => sameT k l m
  | none => false
def sameB (a b : Bool) : Bool := match a with
  | true => b
  | false => !b
def sameV : AVal → AVal → Bool
  | .int k x, .int k' y => sameI k x k' y
  | .bool a, .bool b => sameB a b
  | .str a, .str b => sameT .u8 a b
  | .arr k n l, .arr k' m l' => andB (Nat.beq n m) (sameLs k l k' l')
  | .unit, .unit => true
  | .pair a b, .pair c d => andB (sameV a c) (sameV b d)
  | .ptr k p, .ptr k' p' => andB (Nat.beq k k') (sameP p p')
  | .nilptr, .nilptr => true
  | .sw k, .sw k' => Nat.beq k k'
  | .nilsl, .nilsl => true
  | .iface t a, .iface u b => andB (Nat.beq t u) (sameV a b)
  | .nilIface, .nilIface => true
  | .gp i, .gp j => Nat.beq i j
  | _, _ => false
theorem sameB_eq {a b : Bool} (h : sameB a b = true) : a = b := by
  cases a <;> cases b <;> first | rfl | simp [sameB] at h
theorem sameI_eq {k k' : IntKind} {x : TT k} {y : TT k'} (h : sameI k x k' y = true) : AVal.int k x = AVal.int k' y := by
  unfold sameI at h
  cases hc : castT k k' y with
  | none => rw [hc] at h; cases h
  | some z =>
    rw [hc] at h
    obtain ⟨rfl, rfl⟩ := castT_some hc
    rw [eqT_eq h]
theorem sameLs_eq {k k' : IntKind} {n m : Nat} {x : List (TT k)} {y : List (TT k')} (hn : n = m) (h : sameLs k x k' y = true) : AVal.arr k n x = AVal.arr k' m y := by
  unfold sameLs at h
  cases hc : castL k k' y with
  | none => rw [hc] at h; cases h
  | some z =>
    rw [hc] at h
    obtain ⟨rfl, rfl⟩ := castL_some hc
    rw [sameT_eq h, hn]
theorem sameV_eq : ∀ {v w : AVal}, sameV v w = true → v = w := by
  intro v
  induction v with
  | int k x => intro w h; cases w <;> first | exact sameI_eq h | simp [sameV] at h
  | bool a => intro w h; cases w <;> first | exact congrArg AVal.bool (sameB_eq h) | simp [sameV] at h
  | str a => intro w h; cases w <;> first | exact congrArg AVal.str (sameT_eq (k := .u8) h) | simp [sameV] at h
  | arr k n l => intro w h; cases w <;> first | exact sameLs_eq (beq_eq (andB_iff.1 h).1) (andB_iff.1 h).2 | simp [sameV] at h
  | unit => intro w h; cases w <;> first | rfl | simp [sameV] at h
  | pair a b iha ihb => intro w h; cases w <;> first | exact congr (congrArg AVal.pair (iha (andB_iff.1 h).1)) (ihb (andB_iff.1 h).2) | simp [sameV] at h
  | ptr k p => intro w h; cases w <;> first | exact congr (congrArg AVal.ptr (beq_eq (andB_iff.1 h).1)) (sameP_eq (andB_iff.1 h).2) | simp [sameV] at h
  | nilptr => intro w h; cases w <;> first | rfl | simp [sameV] at h
  | sw k => intro w h; cases w <;> first | exact congrArg AVal.sw (beq_eq h) | simp [sameV] at h
  | nilsl => intro w h; cases w <;> first | rfl | simp [sameV] at h
  | iface t a ih => intro w h; cases w <;> first | exact congr (congrArg AVal.iface (beq_eq (andB_iff.1 h).1)) (ih (andB_iff.1 h).2) | simp [sameV] at h
  | nilIface => intro w h; cases w <;> first | rfl | simp [sameV] at h
  | gp i => intro w h; cases w <;> first | exact congrArg AVal.gp (beq_eq h) | simp [sameV] at h
  | _ => intro w h; cases w <;> simp [sameV] at h
def sameVs : List AVal → List AVal → Bool
  | [], [] => true
  | v :: vs, w :: ws => andB (sameV v w) (sameVs vs ws)
  | _, _ => false
theorem sameVs_eq : ∀ {vs ws : List AVal}, sameVs vs ws = true → vs = ws
  | [], [], _ => rfl
  | v :: vs, w :: ws, h => by
    obtain ⟨h1, h2⟩ := andB_iff.1 h
    rw [sameV_eq h1, sameVs_eq h2]
  | [], _ :: _, h => by simp [sameVs] at h
  | _ :: _, [], h => by simp [sameVs] at h
def sameR : Root → Root → Bool
  | .var t, .var u => Nat.beq t u
  | .row t, .row u => Nat.beq t u
  | _, _ => false
theorem sameR_eq {r s : Root} (h : sameR r s = true) : r = s := by
  cases r <;> cases s <;> first | exact congrArg Root.var (beq_eq h) | exact congrArg Root.row (beq_eq h) | simp [sameR] at h
theorem sameLs_ints {k k' : IntKind} {x : List (TT k)} {y : List (TT k')} (h : sameLs k x k' y = true) : Cont.ints k x = Cont.ints k' y := by
  have := sameLs_eq (n := 0) rfl h
  cases this
  rfl
def sameC : Cont → Cont → Bool
  | .var v, .var w => sameV v w
  | .ints k l, .ints k' m => sameLs k l k' m
  | .vals l, .vals m => sameVs l m
  | _, _ => false
theorem sameC_eq {c d : Cont} (h : sameC c d = true) : c = d := by
  cases c <;> cases d <;> first | exact congrArg Cont.var (sameV_eq h) | exact congrArg Cont.vals (sameVs_eq h) | exact sameLs_ints h | simp [sameC] at h
def sameBl : List Blk → List Blk → Bool
  | [], [] => true
  | ⟨r, c⟩ :: bs, ⟨s, d⟩ :: ds => andB (sameR r s) (andB (sameC c d) (sameBl bs ds))
  | _, _ => false
theorem sameBl_eq : ∀ {bs ds : List Blk}, sameBl bs ds = true → bs = ds
  | [], [], _ => rfl
  | ⟨r, c⟩ :: bs, ⟨s, d⟩ :: ds, h => by
    obtain ⟨h1, h2⟩ := andB_iff.1 h
    obtain ⟨h2, h3⟩ := andB_iff.1 h2
    rw [sameR_eq h1, sameC_eq h2, sameBl_eq h3]
  | [], _ :: _, h => by simp [sameBl] at h
  | _ :: _, [], h => by simp [sameBl] at h

/-! ### calls that are known -/
structure Known : Type 1 where
  us : List AVal
  bs : List Blk
  v : AVal
  h : List (Nat × Blk)
def knRun : List Known → List AVal → List Blk → (AVal → List (Nat × Blk) → Prop) → Prop
  | [], _, _, _ => False
  | k :: ks, us, bs, K => match andB (sameVs us k.us) (sameBl bs k.bs) with
    | true => K k.v k.h
    | false => knRun ks us bs K
def knC (ks : List Known) : Ctr := ⟨knRun ks⟩
theorem kn_det : ∀ (ks : List Known) (us : List AVal) (bs : List Blk), Det fun (K : Out → Prop) => knRun ks us bs fun v h => K ⟨v, h⟩
  | [], us, bs => det_false
  | k :: ks, us, bs => by
    simp only [knRun]
    cases andB (sameVs us k.us) (sameBl bs k.bs) with
    | true => exact det_pure (⟨k.v, k.h⟩ : Out)
    | false => exact kn_det ks us bs
def AllKn (R : List AVal → List Blk → (AVal → List (Nat × Blk) → Prop) → Prop) : List Known → Prop
  | [] => True
  | k :: ks => (∀ K, R k.us k.bs K = K k.v k.h) ∧ AllKn R ks
theorem kn_run {R : List AVal → List Blk → (AVal → List (Nat × Blk) → Prop) → Prop} : ∀ {ks : List Known} {us : List AVal} {bs : List Blk} {K : AVal → List (Nat × Blk) → Prop}, AllKn R ks → knRun ks us bs K → R us bs K
  | [], _, _, _, _, h => h.elim
  | k :: ks, us, bs, K, hk, h => by
    simp only [knRun] at h
    cases hq : andB (sameVs us k.us) (sameBl bs k.bs) with
    | true =>
      rw [hq] at h
      obtain ⟨h1, h2⟩ := andB_iff.1 hq
      rw [sameVs_eq h1, sameBl_eq h2, hk.1]
      exact h
    | false => rw [hq] at h; exact kn_run hk.2 h
theorem kn_ok {l : List (Nat × Ctr)} (hl : AllOk l) {f n : Nat} {ks : List Known} (hk : AllKn (runG l f n) ks) : CtrOk Tryz.prog env f (knC ks) :=
  (run_ok hl f n).of (fun us bs => kn_det ks us bs) fun {ρ Z w us bs xs K} hh hx hr => by
    have := kn_run hk hr
    rw [runG_eq] at this
    exact this

/-! ### the setup of two, and the rows -/
def numL (l : List Nat) : List UInt8 := l.map UInt8.ofNat
def setupV : AVal := .pair (.sw 0) (.pair (.sw 1) (.pair (.sw 2) (.pair .nilsl .unit)))
def setupB : List Blk := [⟨.row 90, .vals [.arr .u8 32 an2, .arr .u8 32 an4]⟩, ⟨.row 3, .ints .i64 [(1 : Int), (2 : Int)]⟩, ⟨.row 162, .vals [.nilsl, .nilsl]⟩]
noncomputable def seen0 : AVal := (zeroV env 8 92).getD .unit
noncomputable def seenV (kind id : Int) : AVal := (((seen0.setF 0 (.int .i64 kind)).getD .unit).setF 2 (.int .i64 id)).getD .unit
end Go.Abs

namespace Go.Abs
open Go.Proofs

def i0 : AVal := .int .i64 (0 : Int)
/-- The judge of the setup of two: (made by tools/genwk.py) -/
def jKey : List UInt8 := [237, 200, 118, 214, 131, 31, 210, 16, 93, 11, 67, 137, 202, 46, 40, 49, 102, 70, 146, 137, 20, 110, 44, 224, 111, 174, 254, 152, 178, 37, 72, 223]
def jOne : List UInt8 := [249, 228, 45, 46, 220, 129, 210, 51, 103, 150, 115, 82, 180, 126, 72, 86, 184, 37, 120, 99, 78, 108, 29, 231, 34, 128, 206, 139, 96, 206, 112, 192]
def jTwo : List UInt8 := [185, 85, 29, 105, 2, 97, 254, 131, 48, 95, 67, 63, 130, 48, 24, 46, 244, 92, 214, 221, 182, 91, 124, 34, 71, 67, 90, 217, 147, 90, 24, 63]
noncomputable def judgeB : List Blk := setupB ++ [
  ⟨.var 233, .var (.pair (.pair (.int .i64 (2 : Int)) (.pair (.arr .u8 32 jKey) (.pair (.sw 4) .unit))) (.pair (.mp 5) (.pair (.mp 6) (.pair (.mp 7) (.pair (.mp 8) (.pair (.mp 9) (.pair (.mp 10) (.pair (.mp 11) (.pair (.mp 12) .unit)))))))))⟩,
  ⟨.row 178, .vals [.pair (.int .i64 (1 : Int)) (.pair (.arr .u8 32 jOne) .unit), .pair (.int .i64 (2 : Int)) (.pair (.arr .u8 32 jTwo) .unit)]⟩,
  ⟨.map 3 3, .map intC intC []⟩, ⟨.map 76 9, .mapv hashC []⟩, ⟨.map 76 3, .map hashC intC []⟩, ⟨.map 235 3, .map sentC intC []⟩,
  ⟨.map 261 3, .map madeC intC []⟩, ⟨.map 261 3, .map madeC intC []⟩, ⟨.map 261 3, .map madeC intC []⟩, ⟨.map 3 3, .map intC intC []⟩]
noncomputable def kn66 : Known := ⟨[setupV], setupB, .tup [.ptr 3 [], .bool true], enumB 0 judgeB⟩
theorem kn66_run : ∀ K, runG baseA 66 20 kn66.us kn66.bs K = K kn66.v kn66.h := by intro K; kernel_rfl
theorem k66_ok : CtrOk Tryz.prog env 66 (knC [kn66]) := kn_ok baseA_ok ⟨kn66_run, trivial⟩
noncomputable def baseW : List (Nat × Ctr) := (66, knC [kn66]) :: base0
theorem baseW_ok : AllOk baseW := ⟨k66_ok, base0_ok⟩
theorem runG_works : ∀ K, runG baseW 7 20 [] [] K = K (.bool true) [] := by intro K; kernel_rfl
theorem run_works (K : AVal → List (Nat × Blk) → Prop) : run baseW 7 20 [] [] K = K (.bool true) [] := by rw [← runG_eq]; exact runG_works K
theorem works_ok : CtrOk Tryz.prog env 7 (pureN (conG (.bool true))) := con_ok baseW_ok run_works
end Go.Abs

namespace Go.Abs
open Go.Proofs

noncomputable def baseHo : List (Nat × Ctr) := [(9, gateN copySeenQ copySeenF), (10, rowsC (okF vAl)), (11, rowsC (okF vAl)), (12, rowsC (okF vPl)), (13, rowsC (okF vPl)), (14, sameVC .acct 81 gate5), (16, sameVC .hash 76 small0), (17, sameVC .seen 92 gate4), (7, pureN (conG (.bool true)))]
theorem baseHo_ok : AllOk baseHo := ⟨copySeen_ok, both_ok acc10_ok, both_ok acc11_ok, both_ok pend12_ok, both_ok pend13_ok, same14_ok, same16_ok, same17_ok, works_ok, trivial⟩
noncomputable def baseHe : List (Nat × Ctr) := [(9, gateN copySeenQ copySeenF), (10, rowsC errF), (11, rowsC errF), (12, rowsC errF), (13, rowsC errF), (17, sameVC .seen 92 gate4), (7, pureN (conG (.bool true)))]
theorem baseHe_ok : AllOk baseHe := ⟨copySeen_ok, both_err acc10_ok, both_err acc11_ok, both_err pend12_ok, both_err pend13_ok, same17_ok, works_ok, trivial⟩
theorem run4o (l : List SeenD) (K : AVal → List (Nat × Blk) → Prop) : run baseHo 4 2 [vS l] [] K = chk (copySeenQ [vS l]) (chk (accGate l) (chk (okRows l) (chk (accGate l) (chk (okRows l) (chk (accGate l) (chk (okRows l) (chk (accGate l) (chk (okRows l)
    (vA (accF l) = vA (accF l) ∧ chk (gate5 (accF l)) (vH (pendF (accF l)) = vH (pendF (accF l)) ∧ chk (small0 (pendF (accF l))) (vS l = vS l ∧ chk (gate4 l) (K (.bool true) [])))))))))))) := by
  have h : run baseHo 4 2 [vS l] [] K = chk (copySeenQ [vS l]) (chk (accGate l) (chk (okRows l) (chk (accGate l) (chk (okRows l) (chk (accGate l) (chk (okRows l) (chk (accGate l) (chk (okRows l)
    (accF l = accF l ∧ chk (gate5 (accF l)) (pendF (accF l) = pendF (accF l) ∧ chk (small0 (pendF (accF l))) (l = l ∧ chk (gate4 l) (K (.bool true) [])))))))))))) := by kernel_rfl
  rw [h]
  simp only [true_and]
theorem run4e (l : List SeenD) (K : AVal → List (Nat × Blk) → Prop) : run baseHe 4 2 [vS l] [] K = chk (copySeenQ [vS l]) (chk (accGate l) (chk (!okRows l) (chk (accGate l) (chk (!okRows l) (chk (accGate l) (chk (!okRows l) (chk (accGate l) (chk (!okRows l)
    (l = l ∧ chk (gate4 l) (K (.bool true) [])))))))))) := by kernel_rfl

/-! ### sizes -/
theorem rowQ_ids {s : SeenD} (h : rowQ s = true) : roomy s.bytes.length 0 = true ∧ roomy s.list.length 0 = true ∧ roomy s.text.length 0 = true ∧ roomy s.ids.length 0 = true := by
  simp only [rowQ, andB_iff, Nat.zero_add] at h
  exact ⟨roomy_le h.1 (Nat.le_refl _) (by omega), roomy_le h.2.1 (Nat.le_refl _) (by omega), roomy_le h.2.2.1 (Nat.le_refl _) (by omega), roomy_le h.2.2.2 (Nat.le_refl _) (by omega)⟩
theorem all4_of : ∀ {l : List SeenD}, rowsQ l = true → all4 l = true
  | [], _ => rfl
  | s :: l, h => by
    obtain ⟨h1, h2⟩ := andB_iff.1 h
    obtain ⟨q1, q2, q3, q4⟩ := rowQ_ids h1
    exact andB_iff.2 ⟨by simp only [small4, andB_iff]; exact ⟨q1, q2, q3, q4⟩, all4_of h2⟩
theorem all5_of : ∀ {L : List AcctD}, (∀ a, a ∈ L → small5 a = true) → all5 L = true
  | [], _ => rfl
  | a :: L, h => andB_iff.2 ⟨h a (by simp), all5_of fun b hb => h b (by simp [hb])⟩
theorem small5_iff {a : AcctD} : small5 a = true ↔ roomy a.ids.length 0 = true ∧ roomy a.text.length 0 = true ∧ roomy a.culprits.length 0 = true ∧ roomy a.shared.length 0 = true := by simp only [small5, andB_iff]
theorem small5_upd {r : SeenD} {a : AcctD} (hr : rowQ r = true) (ha : small5 a = true) (hs : roomy (a.shared.length + 1) 0 = true) : small5 (updD r a) = true := by
  obtain ⟨h1, h2, h3, h4⟩ := small5_iff.1 ha
  obtain ⟨q1, q2, q3, q4⟩ := rowQ_ids hr
  rw [small5_iff]
  unfold updD
  split
  · exact ⟨h1, h2, h3, h4⟩
  · split
    · exact ⟨h1, h2, q4, h4⟩
    · split
      · exact ⟨h1, h2, h3, by simpa using hs⟩
      · exact ⟨h1, h2, h3, h4⟩
theorem small5_step {L : List AcctD} {r : SeenD} (hr : rowQ r = true) (hL : ∀ a, a ∈ L → small5 a = true ∧ roomy (a.shared.length + 1) 0 = true) : ∀ a, a ∈ accStep L r → small5 a = true := by
  intro a ha
  obtain ⟨q1, q2, q3, q4⟩ := rowQ_ids hr
  unfold accStep at ha
  split at ha
  · split at ha
    · rw [List.mem_append] at ha
      rcases ha with ha | ha
      · exact (hL a ha).1
      · simp only [List.mem_singleton] at ha
        subst ha
        exact small5_iff.2 ⟨q4, q3, rfl, rfl⟩
    · exact (hL a ha).1
  · rename_i k hk
    obtain ⟨h1, -⟩ := findS_some hk
    rcases List.mem_or_eq_of_mem_set ha with ha | rfl
    · exact (hL a ha).1
    · have := hL (L.getD k acct0) (by simp [List.getD, h1])
      exact small5_upd hr this.1 this.2
theorem accF_small {l : List SeenD} (hq : rowsQ l = true) (hr : roomy l.length 344 = true) : ∀ (i : Nat), i ≤ l.length → ∀ a, a ∈ accF (l.take i) → small5 a = true
  | 0, _ => by simp [accF]
  | i + 1, h => by
    have ih := accF_small hq hr i (by omega)
    have hi : i < l.length := by omega
    have hrow : rowQ l[i] = true := by
      have : ∀ {l : List SeenD} {i : Nat}, rowsQ l = true → i < l.length → rowQ (l.getD i seenZ) = true := rowsQ_get
      have := this hq hi
      simpa [List.getD, hi] using this
    rw [List.take_add_one, show l[i]?.toList = [l[i]] by simp [hi], accF_snoc]
    refine small5_step hrow fun a ha => ⟨ih a ha, roomy_le hr ?_ (by omega)⟩
    have := (accF_sizes l i (by omega)).2 a ha
    omega

def lawF (l : List SeenD) (K : AVal → List (Nat × Blk) → Prop) : Prop := chk (accGate l) (K (.bool true) [])
theorem lawF_det : DetF lawF := fun l => det_chk (det_pure (⟨_, []⟩ : Out))
theorem law_ok : CtrOk Tryz.prog env 4 (rowsC lawF) := by
  have gates : ∀ {l : List SeenD}, accGate l = true → copySeenQ [vS l] = true ∧ gate4 l = true ∧ gate5 (accF l) = true ∧ small0 (pendF (accF l)) = true := fun {l} hq => by
    obtain ⟨h1, h2⟩ := andB_iff.1 hq
    have hl := (accF_sizes l l.length (Nat.le_refl _)).1
    have hs := accF_small h1 h2 l.length (Nat.le_refl _)
    rw [List.take_length] at hl hs
    have hp := pendF_length (accF l)
    exact ⟨by simp only [copySeenQ, vS, andB_iff]; exact ⟨rfl, h1, h2⟩, andB_iff.2 ⟨roomy_le h2 (Nat.le_refl _) (by omega), all4_of h1⟩, andB_iff.2 ⟨roomy_le h2 hl (by omega), all5_of hs⟩, roomy_le h2 (by omega) (by omega)⟩
  refine rows_or (F := fun l K => chk (accGate l) (chk (okRows l) (K (.bool true) []))) (G := fun l K => chk (accGate l) (chk (!okRows l) (K (.bool true) []))) lawF_det ?_ ?_ fun l K h => ?_
  · refine rows_of (fun l => det_chk (det_chk (det_pure (⟨_, []⟩ : Out)))) ((run_ok baseHo_ok 4 2).of (rowsC0_det fun l => det_chk (det_chk (det_pure (⟨_, []⟩ : Out)))) fun {ρ Z w us bs xs K} hh hx hr => ?_)
    cases bs with
    | cons b bs => exact hr.elim
    | nil =>
      obtain ⟨l, hl, rfl, hr1⟩ := ob0_inv hr
      obtain ⟨hq, hr2⟩ := chk_inv hr1
      obtain ⟨ho, hK⟩ := chk_inv hr2
      obtain ⟨g1, g2, g3, g4⟩ := gates hq
      show run baseHo 4 2 [vS l] [] K
      rw [run4o, g1, hq, ho, g3, g4, g2]
      exact ⟨rfl, rfl, rfl, hK⟩
  · refine rows_of (fun l => det_chk (det_chk (det_pure (⟨_, []⟩ : Out)))) ((run_ok baseHe_ok 4 2).of (rowsC0_det fun l => det_chk (det_chk (det_pure (⟨_, []⟩ : Out)))) fun {ρ Z w us bs xs K} hh hx hr => ?_)
    cases bs with
    | cons b bs => exact hr.elim
    | nil =>
      obtain ⟨l, hl, rfl, hr1⟩ := ob0_inv hr
      obtain ⟨hq, hr2⟩ := chk_inv hr1
      obtain ⟨ho, hK⟩ := chk_inv hr2
      obtain ⟨g1, g2, g3, g4⟩ := gates hq
      show run baseHe 4 2 [vS l] [] K
      rw [run4e, g1, hq, ho, g2]
      exact ⟨rfl, hK⟩
  · obtain ⟨h1, h2⟩ := chk_inv h
    cases hq : okRows l with
    | true => exact .inl (by show chk _ _; rw [h1]; exact h2)
    | false => exact .inr (by show chk _ _; rw [h1]; exact h2)
end Go.Abs
