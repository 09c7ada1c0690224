/- The answers of the curve's and the scalars' doors at the inputs that the closed runs ask for. PRINTED BY genans.py. -/
import Derived.Test.YtadiphoihflmiaaGreatDoorZx
set_option linter.all false
set_option maxRecDepth 1000000
namespace Go.Abs
open Go.Proofs

def an0 : List UInt8 := [12, 0, 0, 0, 0, 0, 0, 0, 0, 0, 0, 0, 0, 0, 0, 0, 0, 0, 0, 0, 0, 0, 0, 0, 0, 0, 0, 0, 0, 0, 0, 0]
def an1 : List UInt8 := [19, 0, 0, 0, 0, 0, 0, 0, 0, 0, 0, 0, 0, 0, 0, 0, 0, 0, 0, 0, 0, 0, 0, 0, 0, 0, 0, 0, 0, 0, 0, 0]
def an2 : List UInt8 := [5, 0, 0, 0, 0, 0, 0, 0, 0, 0, 0, 0, 0, 0, 0, 0, 0, 0, 0, 0, 0, 0, 0, 0, 0, 0, 0, 0, 0, 0, 0, 0]
def an3 : List UInt8 := [237, 200, 118, 214, 131, 31, 210, 16, 93, 11, 67, 137, 202, 46, 40, 49, 102, 70, 146, 137, 20, 110, 44, 224, 111, 174, 254, 152, 178, 37, 72, 223]
def an4 : List UInt8 := [7, 0, 0, 0, 0, 0, 0, 0, 0, 0, 0, 0, 0, 0, 0, 0, 0, 0, 0, 0, 0, 0, 0, 0, 0, 0, 0, 0, 0, 0, 0, 0]
def an5 : List UInt8 := [184, 98, 64, 159, 181, 196, 196, 18, 61, 242, 171, 247, 70, 43, 136, 240, 65, 173, 54, 221, 104, 100, 206, 135, 47, 213, 71, 43, 227, 99, 197, 177]
def an6 : List UInt8 := [249, 228, 45, 46, 220, 129, 210, 51, 103, 150, 115, 82, 180, 126, 72, 86, 184, 37, 120, 99, 78, 108, 29, 231, 34, 128, 206, 139, 96, 206, 112, 192]
def an7 : List UInt8 := [185, 85, 29, 105, 2, 97, 254, 131, 48, 95, 67, 63, 130, 48, 24, 46, 244, 92, 214, 221, 182, 91, 124, 34, 71, 67, 90, 217, 147, 90, 24, 63]
def an8 : List UInt8 := [1, 0, 0, 0, 0, 0, 0, 0, 0, 0, 0, 0, 0, 0, 0, 0, 0, 0, 0, 0, 0, 0, 0, 0, 0, 0, 0, 0, 0, 0, 0, 0]
def an9 : List UInt8 := [2, 0, 0, 0, 0, 0, 0, 0, 0, 0, 0, 0, 0, 0, 0, 0, 0, 0, 0, 0, 0, 0, 0, 0, 0, 0, 0, 0, 0, 0, 0, 0]
def an10 : List UInt8 := [57, 40, 156, 137, 152, 253, 105, 131, 92, 38, 182, 25, 232, 152, 72, 167, 191, 2, 183, 203, 122, 209, 186, 21, 129, 203, 196, 80, 111, 37, 80, 206]
def an11 : List UInt8 := [0, 0, 0, 0, 0, 0, 0, 0, 0, 0, 0, 0, 0, 0, 0, 0, 0, 0, 0, 0, 0, 0, 0, 0, 0, 0, 0, 0, 0, 0, 0, 0]

/-! ### tables of answers -/
def look1 : List (List UInt8 × AVal) → List UInt8 → Option AVal
  | [], _ => none
  | (b, v) :: t, a => match eqL .u8 a b with
    | true => some v
    | false => look1 t a
def look2 : List (List UInt8 × List UInt8 × AVal) → List UInt8 → List UInt8 → Option AVal
  | [], _, _ => none
  | (b, c, v) :: t, a, a' => match eqL .u8 a b with
    | true => match eqL .u8 a' c with
      | true => some v
      | false => look2 t a a'
    | false => look2 t a a'
def ans1G (t : List (List UInt8 × AVal)) : List AVal → Option AVal
  | [.arr .u8 k a] => match Nat.beq k 32 with
    | true => look1 t a
    | false => none
  | _ => none
def ans2G (t : List (List UInt8 × List UInt8 × AVal)) : List AVal → Option AVal
  | [.arr .u8 k a, .arr .u8 j b] => match Nat.beq k 32, Nat.beq j 32 with
    | true, true => look2 t a b
    | _, _ => none
  | _ => none
def Fits1 (F : List UInt8 → AVal) : List (List UInt8 × AVal) → Prop
  | [] => True
  | (b, v) :: t => F b = v ∧ Fits1 F t
def Fits2 (F : List UInt8 → List UInt8 → AVal) : List (List UInt8 × List UInt8 × AVal) → Prop
  | [] => True
  | (b, c, v) :: t => F b c = v ∧ Fits2 F t
theorem look1_is {F : List UInt8 → AVal} : ∀ {t : List (List UInt8 × AVal)} {a : List UInt8} {v : AVal}, Fits1 F t → look1 t a = some v → F a = v
  | [], _, _, _, h => by cases h
  | (b, u) :: t, a, v, hf, h => by
    simp only [look1] at h
    cases hq : eqL .u8 a b with
    | true => rw [hq] at h; cases h; rw [eqL_u8 hq]; exact hf.1
    | false => rw [hq] at h; exact look1_is hf.2 h
theorem look2_is {F : List UInt8 → List UInt8 → AVal} : ∀ {t : List (List UInt8 × List UInt8 × AVal)} {a b : List UInt8} {v : AVal}, Fits2 F t → look2 t a b = some v → F a b = v
  | [], _, _, _, _, h => by cases h
  | (b, c, u) :: t, a, a', v, hf, h => by
    simp only [look2] at h
    cases hq : eqL .u8 a b with
    | true =>
      rw [hq] at h
      cases hq' : eqL .u8 a' c with
      | true => rw [hq'] at h; cases h; rw [eqL_u8 hq, eqL_u8 hq']; exact hf.1
      | false => rw [hq'] at h; exact look2_is hf.2 h
    | false => rw [hq] at h; exact look2_is hf.2 h
/-- A contract by fewer answers. -/
theorem pureN_sub {f : Nat} {g g' : List AVal → Option AVal} (h : CtrOk Tryz.prog env f (pureN g)) (hs : ∀ us v, g' us = some v → g us = some v) : CtrOk Tryz.prog env f (pureN g') :=
  h.of (fun us bs => pureN_det us bs) fun {ρ Z w us bs xs K} hh hx hr => by
    cases bs with
    | nil =>
      obtain ⟨v, hg, hr⟩ := ob_inv hr
      show ob (g us) _
      rw [hs us v hg]
      exact hr
    | cons b bs => exact hr.elim
theorem ans1_ok {f : Nat} {F : List UInt8 → AVal} {t : List (List UInt8 × AVal)} (h : CtrOk Tryz.prog env f (pureN (b32G F))) (ht : Fits1 F t) : CtrOk Tryz.prog env f (pureN (ans1G t)) := pureN_sub h fun us v hg => by
  unfold ans1G at hg
  split at hg
  · split at hg
    · rename_i e; simp only [b32G, e]; rw [look1_is ht hg]
    · cases hg
  · cases hg
theorem ans2_ok {f : Nat} {F : List UInt8 → List UInt8 → AVal} {t : List (List UInt8 × List UInt8 × AVal)} (h : CtrOk Tryz.prog env f (pureN (bb2G F))) (ht : Fits2 F t) : CtrOk Tryz.prog env f (pureN (ans2G t)) := pureN_sub h fun us v hg => by
  unfold ans2G at hg
  split at hg
  · split at hg
    · rename_i e e'; simp only [bb2G, e, e']; rw [look2_is ht hg]
    · cases hg
  · cases hg

/-! ### the answers -/
theorem mb0 : ckMulB an2 an3 = true := by kernel_rfl
theorem mb1 : ckMulB an4 an5 = true := by kernel_rfl
theorem mb2 : ckMulB an0 an6 = true := by kernel_rfl
theorem mb3 : ckMulB an1 an7 = true := by kernel_rfl
theorem ck0 : ckCheck an3 = true := by kernel_rfl
theorem ck1 : ckCheck an5 = true := by kernel_rfl
theorem ck2 : ckCheck an6 = true := by kernel_rfl
theorem ck3 : ckCheck an7 = true := by kernel_rfl
theorem me0 : ckMul an8 an8 an8 = true := by kernel_rfl
theorem me1 : ckMul an8 an5 an5 = true := by kernel_rfl
theorem me2 : ckMul an9 an8 an8 = true := by kernel_rfl
theorem me3 : ckMul an9 an5 an10 = true := by kernel_rfl
theorem ad0 : ckAdd an8 an5 an5 = true := by kernel_rfl
theorem ad1 : ckAdd an5 an3 an6 = true := by kernel_rfl
theorem ad2 : ckAdd an10 an3 an7 = true := by kernel_rfl
theorem pm0 : ckPrime an3 = true := by kernel_rfl
theorem pm1 : ckPrime an5 = true := by kernel_rfl
theorem pm2 : ckPrime an6 = true := by kernel_rfl
theorem pm3 : ckPrime an7 = true := by kernel_rfl
def tMulB : List (List UInt8 × AVal) := [(an2, .arr .u8 32 an3), (an4, .arr .u8 32 an5), (an0, .arr .u8 32 an6), (an1, .arr .u8 32 an7)]
def tCheck : List (List UInt8 × AVal) := [(an3, .int .i64 (0 : Int)), (an5, .int .i64 (0 : Int)), (an6, .int .i64 (0 : Int)), (an7, .int .i64 (0 : Int))]
def tMul : List (List UInt8 × List UInt8 × AVal) := [(an8, an8, okE an8), (an8, an5, okE an5), (an9, an8, okE an8), (an9, an5, okE an10)]
def tAdd : List (List UInt8 × List UInt8 × AVal) := [(an8, an5, okE an5), (an5, an3, okE an6), (an10, an3, okE an7)]
def tPrime : List (List UInt8 × AVal) := [(an3, .tup [.bool true, .int .i64 (0 : Int)]), (an5, .tup [.bool true, .int .i64 (0 : Int)]), (an6, .tup [.bool true, .int .i64 (0 : Int)]), (an7, .tup [.bool true, .int .i64 (0 : Int)])]
theorem aMulB_ok : CtrOk Tryz.prog env 144 (pureN (ans1G tMulB)) := ans1_ok mulB_ok ⟨congrArg (AVal.arr .u8 32) (mulB_is mb0), congrArg (AVal.arr .u8 32) (mulB_is mb1), congrArg (AVal.arr .u8 32) (mulB_is mb2), congrArg (AVal.arr .u8 32) (mulB_is mb3), trivial⟩
theorem aCheck_ok : CtrOk Tryz.prog env 165 (pureN (ans1G tCheck)) := ans1_ok check_ok ⟨check_is ck0, check_is ck1, check_is ck2, check_is ck3, trivial⟩
theorem aMul_ok : CtrOk Tryz.prog env 166 (pureN (ans2G tMul)) := ans2_ok mulE_ok ⟨mulE_is me0, mulE_is me1, mulE_is me2, mulE_is me3, trivial⟩
theorem aAdd_ok : CtrOk Tryz.prog env 168 (pureN (ans2G tAdd)) := ans2_ok addE_ok ⟨addE_is ad0, addE_is ad1, addE_is ad2, trivial⟩
theorem aPrime_ok : CtrOk Tryz.prog env 219 (pureN (ans1G tPrime)) := ans1_ok prime_ok ⟨prime_is pm0, prime_is pm1, prime_is pm2, prime_is pm3, trivial⟩

/-! ### numbers modulo L -/
def sMaF (a b c : List UInt8) : List UInt8 := backF (plF (tiF (valF a) (valF b)) (valF c))
theorem run_sMa (a b c : List UInt8) : ∀ K, run baseS4 205 0 [.arr .u8 32 a, .arr .u8 32 b, .arr .u8 32 c] [] K = K (.arr .u8 32 (sMaF a b c)) [] := by intro K; kernel_rfl
def bb3G (f : List UInt8 → List UInt8 → List UInt8 → AVal) : List AVal → Option AVal
  | [.arr .u8 k a, .arr .u8 j b, .arr .u8 i c] => match Nat.beq k 32, Nat.beq j 32, Nat.beq i 32 with
    | true, true, true => some (f a b c)
    | _, _, _ => none
  | _ => none
theorem sMa_ok : CtrOk Tryz.prog env 205 (pureN (bb3G fun a b c => .arr .u8 32 (sMaF a b c))) := pureN_of_run (n := 0) baseS4_ok fun {ρ Z us xs v} hx hg K hK => by
  unfold bb3G at hg
  split at hg
  · split at hg
    · cases hg
      rename_i e e' e''
      have := beq_eq e; subst this
      have := beq_eq e'; subst this
      have := beq_eq e''; subst this
      exact (run_sMa _ _ _ K).mpr hK
    · cases hg
  · cases hg
def look3 : List (List UInt8 × List UInt8 × List UInt8 × AVal) → List UInt8 → List UInt8 → List UInt8 → Option AVal
  | [], _, _, _ => none
  | (b, c, d, v) :: t, x, y, z => match andB (eqL .u8 x b) (andB (eqL .u8 y c) (eqL .u8 z d)) with
    | true => some v
    | false => look3 t x y z
def Fits3 (F : List UInt8 → List UInt8 → List UInt8 → AVal) : List (List UInt8 × List UInt8 × List UInt8 × AVal) → Prop
  | [] => True
  | (b, c, d, v) :: t => F b c d = v ∧ Fits3 F t
theorem look3_is {F : List UInt8 → List UInt8 → List UInt8 → AVal} : ∀ {t : List (List UInt8 × List UInt8 × List UInt8 × AVal)} {x y z : List UInt8} {v : AVal}, Fits3 F t → look3 t x y z = some v → F x y z = v
  | [], _, _, _, _, _, h => by cases h
  | (b, c, d, u) :: t, x, y, z, v, hf, h => by
    simp only [look3] at h
    cases hq : andB (eqL .u8 x b) (andB (eqL .u8 y c) (eqL .u8 z d)) with
    | true =>
      rw [hq] at h; cases h
      obtain ⟨h1, h2⟩ := andB_iff.1 hq
      obtain ⟨h2, h3⟩ := andB_iff.1 h2
      rw [eqL_u8 h1, eqL_u8 h2, eqL_u8 h3]; exact hf.1
    | false => rw [hq] at h; exact look3_is hf.2 h
def ans3G (t : List (List UInt8 × List UInt8 × List UInt8 × AVal)) : List AVal → Option AVal
  | [.arr .u8 k a, .arr .u8 j b, .arr .u8 i c] => match Nat.beq k 32, Nat.beq j 32, Nat.beq i 32 with
    | true, true, true => look3 t a b c
    | _, _, _ => none
  | _ => none
theorem ans3_ok {f : Nat} {F : List UInt8 → List UInt8 → List UInt8 → AVal} {t : List (List UInt8 × List UInt8 × List UInt8 × AVal)} (h : CtrOk Tryz.prog env f (pureN (bb3G F))) (ht : Fits3 F t) : CtrOk Tryz.prog env f (pureN (ans3G t)) := pureN_sub h fun us v hg => by
  unfold ans3G at hg
  split at hg
  · split at hg
    · rename_i e e' e''; simp only [bb3G, e, e', e'']; rw [look3_is ht hg]
    · cases hg
  · cases hg
theorem sa0 : sAddF an2 an11 = an2 := by kernel_rfl
theorem sa1 : sAddF an4 an11 = an4 := by kernel_rfl
theorem sa2 : sAddF an0 an11 = an0 := by kernel_rfl
theorem sa3 : sAddF an1 an11 = an1 := by kernel_rfl
theorem sm0 : sMaF an11 an8 an4 = an4 := by kernel_rfl
theorem sm1 : sMaF an4 an8 an2 = an0 := by kernel_rfl
theorem sm2 : sMaF an11 an9 an4 = an4 := by kernel_rfl
theorem sm3 : sMaF an4 an9 an2 = an1 := by kernel_rfl
def tsAdd : List (List UInt8 × List UInt8 × AVal) := [(an2, an11, .arr .u8 32 an2), (an4, an11, .arr .u8 32 an4), (an0, an11, .arr .u8 32 an0), (an1, an11, .arr .u8 32 an1)]
def tsMa : List (List UInt8 × List UInt8 × List UInt8 × AVal) := [(an11, an8, an4, .arr .u8 32 an4), (an4, an8, an2, .arr .u8 32 an0), (an11, an9, an4, .arr .u8 32 an4), (an4, an9, an2, .arr .u8 32 an1)]
theorem asAdd_ok : CtrOk Tryz.prog env 183 (pureN (ans2G tsAdd)) := ans2_ok sAdd_ok ⟨congrArg (AVal.arr .u8 32) sa0, congrArg (AVal.arr .u8 32) sa1, congrArg (AVal.arr .u8 32) sa2, congrArg (AVal.arr .u8 32) sa3, trivial⟩
theorem asMa_ok : CtrOk Tryz.prog env 205 (pureN (ans3G tsMa)) := ans3_ok sMa_ok ⟨congrArg (AVal.arr .u8 32) sm0, congrArg (AVal.arr .u8 32) sm1, congrArg (AVal.arr .u8 32) sm2, congrArg (AVal.arr .u8 32) sm3, trivial⟩
theorem id_is : formF ptId = an8 := form_is id_Q (by kernel_rfl)
theorem aId_ok : CtrOk Tryz.prog env 194 (pureN (conG (.arr .u8 32 an8))) := by rw [← id_is]; exact identE_ok

def scZero (a : List UInt8) : Bool := eqL .u64 (valF a) zN
theorem run_isZero (a : List UInt8) : ∀ K, run baseS4 148 0 [.arr .u8 32 a] [] K = K (.bool (scZero a)) [] := by intro K; kernel_rfl
theorem isZero_ok : CtrOk Tryz.prog env 148 (pureN (b32G fun a => .bool (scZero a))) := b32_ok baseS4_ok fun a _ K hK => (run_isZero a K).mpr hK
def scLess (l m : List UInt64) : UInt64 := match l, m with
  | [a0, a1, a2, a3], [b0, b1, b2, b3] => lsB a0 a1 a2 a3 b0 b1 b2 b3
  | _, _ => w0
def scCanon (a : List UInt8) : Bool := eqT .u64 (scLess (fromF a) ordF) (rawI .u64 1)
theorem run_canon (a : List UInt8) : ∀ K, run baseS4 132 2 [.arr .u8 32 a] [] K = K (.bool (scCanon a)) [] := by intro K; kernel_rfl
theorem canonic_ok : CtrOk Tryz.prog env 132 (pureN (b32G fun a => .bool (scCanon a))) := b32_ok baseS4_ok fun a _ K hK => (run_canon a K).mpr hK
def fromIF (n : UInt64) : List UInt8 := backF [n, w0, w0, w0]
theorem run_fromI (n : UInt64) : ∀ K, run baseS4 206 0 [.int .u64 n] [] K = K (.arr .u8 32 (fromIF n)) [] := by intro K; kernel_rfl
def u64G (F : UInt64 → AVal) : List AVal → Option AVal
  | [.int .u64 n] => some (F n)
  | _ => none
theorem fromI_ok : CtrOk Tryz.prog env 206 (pureN (u64G fun n => .arr .u8 32 (fromIF n))) := pureN_of_run (n := 0) baseS4_ok fun {ρ Z us xs v} hx hg K hK => by
  unfold u64G at hg
  split at hg <;> cases hg
  exact (run_fromI _ K).mpr hK
def lookI : List (UInt64 × AVal) → UInt64 → Option AVal
  | [], _ => none
  | (b, v) :: t, a => match eqT .u64 a b with
    | true => some v
    | false => lookI t a
def ansIG (t : List (UInt64 × AVal)) : List AVal → Option AVal
  | [.int .u64 n] => lookI t n
  | _ => none
def FitsI (F : UInt64 → AVal) : List (UInt64 × AVal) → Prop
  | [] => True
  | (b, v) :: t => F b = v ∧ FitsI F t
theorem eqT_u64 {x y : UInt64} (h : eqT .u64 x y = true) : x = y := by
  simp only [eqT, toI, beq_iff_eq] at h
  exact UInt64.toNat_inj.1 (by omega)
theorem lookI_is {F : UInt64 → AVal} : ∀ {t : List (UInt64 × AVal)} {a : UInt64} {v : AVal}, FitsI F t → lookI t a = some v → F a = v
  | [], _, _, _, h => by cases h
  | (b, u) :: t, a, v, hf, h => by
    simp only [lookI] at h
    cases hq : eqT .u64 a b with
    | true => rw [hq] at h; cases h; rw [eqT_u64 hq]; exact hf.1
    | false => rw [hq] at h; exact lookI_is hf.2 h
theorem ansI_ok {f : Nat} {F : UInt64 → AVal} {t : List (UInt64 × AVal)} (h : CtrOk Tryz.prog env f (pureN (u64G F))) (ht : FitsI F t) : CtrOk Tryz.prog env f (pureN (ansIG t)) := pureN_sub h fun us v hg => by
  unfold ansIG at hg
  split at hg
  · simp only [u64G]; rw [lookI_is ht hg]
  · cases hg
theorem iz0 : scZero an2 = false := by kernel_rfl
theorem iz1 : scZero an4 = false := by kernel_rfl
theorem iz2 : scZero an0 = false := by kernel_rfl
theorem iz3 : scZero an1 = false := by kernel_rfl
theorem cn0 : scCanon an0 = true := by kernel_rfl
theorem cn1 : scCanon an1 = true := by kernel_rfl
theorem fi0 : fromIF (UInt64.ofNat 1) = an8 := by kernel_rfl
theorem fi1 : fromIF (UInt64.ofNat 2) = an9 := by kernel_rfl
def tZero : List (List UInt8 × AVal) := [(an2, .bool false), (an4, .bool false), (an0, .bool false), (an1, .bool false)]
def tCanon : List (List UInt8 × AVal) := [(an0, .bool true), (an1, .bool true)]
def tFromI : List (UInt64 × AVal) := [(UInt64.ofNat 1, .arr .u8 32 an8), (UInt64.ofNat 2, .arr .u8 32 an9)]
theorem aZero_ok : CtrOk Tryz.prog env 148 (pureN (ans1G tZero)) := ans1_ok isZero_ok ⟨congrArg AVal.bool iz0, congrArg AVal.bool iz1, congrArg AVal.bool iz2, congrArg AVal.bool iz3, trivial⟩
theorem aCanon_ok : CtrOk Tryz.prog env 132 (pureN (ans1G tCanon)) := ans1_ok canonic_ok ⟨congrArg AVal.bool cn0, congrArg AVal.bool cn1, trivial⟩
theorem aFromI_ok : CtrOk Tryz.prog env 206 (pureN (ansIG tFromI)) := ansI_ok fromI_ok ⟨congrArg (AVal.arr .u8 32) fi0, congrArg (AVal.arr .u8 32) fi1, trivial⟩

/-- The table of the closed runs. -/
noncomputable def baseA : List (Nat × Ctr) := (148, pureN (ans1G tZero)) :: (132, pureN (ans1G tCanon)) :: (206, pureN (ansIG tFromI)) :: (144, pureN (ans1G tMulB)) :: (165, pureN (ans1G tCheck)) :: (166, pureN (ans2G tMul)) :: (168, pureN (ans2G tAdd)) :: (219, pureN (ans1G tPrime)) :: (183, pureN (ans2G tsAdd)) :: (205, pureN (ans3G tsMa)) :: (194, pureN (conG (.arr .u8 32 an8))) :: base0
theorem baseA_ok : AllOk baseA := ⟨aZero_ok, aCanon_ok, aFromI_ok, aMulB_ok, aCheck_ok, aMul_ok, aAdd_ok, aPrime_ok, asAdd_ok, asMa_ok, aId_ok, base0_ok⟩
end Go.Abs
