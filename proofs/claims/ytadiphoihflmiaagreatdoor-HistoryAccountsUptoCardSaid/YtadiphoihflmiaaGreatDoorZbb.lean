/- The field's functions over bare numbers, to be reckoned fast. Points over bare numbers. A point, so many times, over bare numbers. Bytes over bare numbers. Bytes as points over bare numbers. Is a point of prime order? -/
import Derived.Test.YtadiphoihflmiaaGreatDoorZax
import Derived.Test.YtadiphoihflmiaaGreatDoorZba
set_option linter.all false
set_option maxRecDepth 1000000
namespace Go.Abs

/-- Reckoned before it goes on. -/
def fN {α : Type} (n : Nat) (k : Nat → α) : α := Nat.rec (motive := fun _ => α) (k 0) (fun m _ => k (Nat.succ m)) n
theorem fN_eq {α : Type} (n : Nat) (k : Nat → α) : fN n k = k n := by cases n <;> rfl

structure F5 where
  a : Nat
  b : Nat
  c : Nat
  d : Nat
  e : Nat
def fF {α : Type} (x : F5) (k : F5 → α) : α := match x with
  | ⟨a, b, c, d, e⟩ => fN a fun a => fN b fun b => fN c fun c => fN d fun d => fN e fun e => k ⟨a, b, c, d, e⟩
theorem fF_eq {α : Type} (x : F5) (k : F5 → α) : fF x k = k x := by
  obtain ⟨a, b, c, d, e⟩ := x
  simp only [fF, fN_eq]

inductive R5 : List UInt64 → F5 → Prop where
  | mk (a b c d e : UInt64) : R5 [a, b, c, d, e] ⟨a.toNat, b.toNat, c.toNat, d.toNat, e.toNat⟩

theorem R5.of {a b c d e : UInt64} {x : F5} (ha : a.toNat = x.a) (hb : b.toNat = x.b) (hc : c.toNat = x.c) (hd : d.toNat = x.d) (he : e.toNat = x.e) : R5 [a, b, c, d, e] x := by
  obtain ⟨_, _, _, _, _⟩ := x
  simp only at ha hb hc hd he
  subst ha hb hc hd he
  exact .mk a b c d e

theorem nat_M51 (x : UInt64) : UInt64.toNat (andT .u64 x M51) = x.toNat % 2251799813685248 := by
  rw [nat_and]
  show x.toNat &&& UInt64.toNat (rawI .u64 ((2251799813685247 : Nat) : Int)) = _
  rw [nat_raw]
  exact Nat.and_two_pow_sub_one_eq_mod _ 51
theorem nat_c19 (x : UInt64) : UInt64.toNat (mulT .u64 c19 x) = (19 * x.toNat) % 18446744073709551616 := by
  rw [nat_mul]
  show (UInt64.toNat (rawI .u64 ((19 : Nat) : Int)) * _) % _ = _
  rw [nat_raw]
theorem nat_adcS (x y c : UInt64) : UInt64.toNat (adcS x y c) = (x.toNat + y.toNat + c.toNat) % 18446744073709551616 := by rw [adcS, UInt64.toNat_ofNat']
theorem nat_adcC (x y c : UInt64) : UInt64.toNat (adcC x y c) = (x.toNat + y.toNat + c.toNat) / 18446744073709551616 := by
  have := UInt64.toNat_lt x
  have := UInt64.toNat_lt y
  have := UInt64.toNat_lt c
  rw [adcC, UInt64.toNat_ofNat', Nat.mod_eq_of_lt]
  omega
theorem nat_w0 : UInt64.toNat w0 = 0 := rfl
theorem nat_0 : UInt64.toNat (0 : UInt64) = 0 := rfl

/-! ### carried -/
def carN (a b c d e : Nat) : F5 :=
  ⟨(a % 2251799813685248 + (19 * (e / 2251799813685248)) % 18446744073709551616) % 18446744073709551616, (b % 2251799813685248 + a / 2251799813685248) % 18446744073709551616, (c % 2251799813685248 + b / 2251799813685248) % 18446744073709551616,
    (d % 2251799813685248 + c / 2251799813685248) % 18446744073709551616, (e % 2251799813685248 + d / 2251799813685248) % 18446744073709551616⟩
def carM (x : F5) : F5 := match x with
  | ⟨a, b, c, d, e⟩ => carN a b c d e

theorem car_R (a b c d e : UInt64) : R5 (carT a b c d e) (carN a.toNat b.toNat c.toNat d.toNat e.toNat) := by
  refine R5.of ?_ ?_ ?_ ?_ ?_ <;> simp only [nat_add, nat_M51, nat_c19, nat_shr _ 51 (by omega), carN, Nat.reducePow]
theorem carL_R {l : List UInt64} {x : F5} (h : R5 l x) : R5 (carL l) (carM x) := by
  cases h with
  | mk a b c d e => exact car_R a b c d e

/-! ### products -/
def wv (w : UInt64 × UInt64) : Nat := w.1.toNat * 18446744073709551616 + w.2.toNat
theorem wv_wadd (a b : UInt64) (w : UInt64 × UInt64) : wv (wadd a b w) = (wv w + a.toNat * b.toNat) % 340282366920938463463374607431768211456 := by
  have ha := UInt64.toNat_lt a
  have hb := UInt64.toNat_lt b
  have hP : a.toNat * b.toNat < 18446744073709551616 * 18446744073709551616 := Nat.mul_lt_mul'' ha hb
  have e1 : UInt64.toNat (mulH a b) = a.toNat * b.toNat / 18446744073709551616 := by
    rw [mulH, UInt64.toNat_ofNat', Nat.mod_eq_of_lt]
    exact Nat.div_lt_of_lt_mul hP
  have e2 : UInt64.toNat (mulL a b) = a.toNat * b.toNat % 18446744073709551616 := by rw [mulL, UInt64.toNat_ofNat']
  simp only [wv, wadd, nat_adcS, nat_adcC, e1, e2, nat_0]
  generalize a.toNat * b.toNat = P at *
  have := UInt64.toNat_lt w.1
  have := UInt64.toNat_lt w.2
  omega

theorem wv_row (a b c d e f g h i j : UInt64) : wv (row5 a b c d e f g h i j) = (a.toNat * b.toNat + c.toNat * d.toNat + e.toNat * f.toNat + g.toNat * h.toNat + i.toNat * j.toNat) % 340282366920938463463374607431768211456 := by
  simp only [row5, wv_wadd]
  have : wv (w0, w0) = 0 := rfl
  rw [this]
  omega

def t19N (a : Nat) : Nat := (19 * a) % 18446744073709551616
theorem nat_t19 (a : UInt64) : UInt64.toNat (t19 a) = t19N a.toNat := by rw [t19, nat_c19]; rfl

/-- A sum with what was carried: the limb, and what is carried on. -/
def limN (r c : Nat) : Nat := (r % 18446744073709551616 + c) % 18446744073709551616 % 2251799813685248
def cryN (r c : Nat) : Nat := Nat.lor ((((r / 18446744073709551616 + (r % 18446744073709551616 + c) / 18446744073709551616) % 18446744073709551616) * 8192) % 18446744073709551616) ((r % 18446744073709551616 + c) % 18446744073709551616 / 2251799813685248)
theorem wv_div (w : UInt64 × UInt64) : wv w / 18446744073709551616 = w.1.toNat := by
  have := UInt64.toNat_lt w.2
  simp only [wv]; omega
theorem wv_mod (w : UInt64 × UInt64) : wv w % 18446744073709551616 = w.2.toNat := by
  have := UInt64.toNat_lt w.2
  simp only [wv]; omega
theorem nat_outL (r : UInt64 × UInt64) (c : UInt64) : UInt64.toNat (outL r c) = limN (wv r) c.toNat := by
  simp only [outL, nat_M51, nat_adcS, nat_w0, limN, wv_mod, Nat.add_zero]
theorem nat_outC (r : UInt64 × UInt64) (c : UInt64) : UInt64.toNat (outC r c) = cryN (wv r) c.toNat := by
  simp only [outC, nat_or, nat_shl _ 13 (by omega), nat_add, nat_adcC, nat_shr _ 51 (by omega), nat_adcS, nat_w0, cryN, wv_mod, wv_div, Nat.add_zero, Nat.reducePow]
  rfl

def mulK (r0 r1 r2 r3 r4 : Nat) : F5 :=
  fN r0 fun r0 => fN (cryN r0 0) fun c0 => fN r1 fun r1 => fN (cryN r1 c0) fun c1 => fN r2 fun r2 => fN (cryN r2 c1) fun c2 => fN r3 fun r3 => fN (cryN r3 c2) fun c3 => fN r4 fun r4 => fN (cryN r4 c3) fun c4 =>
  fN ((limN r0 0 + (19 * c4) % 18446744073709551616) % 18446744073709551616) fun x0 => fN (limN r1 c0) fun x1 => fN (limN r2 c1) fun x2 => fN (limN r3 c2) fun x3 => fN (limN r4 c3) fun x4 => carN x0 x1 x2 x3 x4
def mulN (x y : F5) : F5 := match x, y with
  | ⟨a0, a1, a2, a3, a4⟩, ⟨b0, b1, b2, b3, b4⟩ => fN (t19N a1) fun n1 => fN (t19N a2) fun n2 => fN (t19N a3) fun n3 => fN (t19N a4) fun n4 =>
    mulK ((a0 * b0 + n1 * b4 + n2 * b3 + n3 * b2 + n4 * b1) % 340282366920938463463374607431768211456) ((a0 * b1 + a1 * b0 + n2 * b4 + n3 * b3 + n4 * b2) % 340282366920938463463374607431768211456)
      ((a0 * b2 + a1 * b1 + a2 * b0 + n3 * b4 + n4 * b3) % 340282366920938463463374607431768211456) ((a0 * b3 + a1 * b2 + a2 * b1 + a3 * b0 + n4 * b4) % 340282366920938463463374607431768211456)
      ((a0 * b4 + a1 * b3 + a2 * b2 + a3 * b1 + a4 * b0) % 340282366920938463463374607431768211456)

theorem mul_R {l m : List UInt64} {x y : F5} (h : R5 l x) (h' : R5 m y) : R5 (mulF l m) (mulN x y) := by
  cases h with
  | mk a0 a1 a2 a3 a4 =>
  cases h' with
  | mk b0 b1 b2 b3 b4 =>
  simp only [mulF, mulT5, mulN, mulK, fN_eq, chain5, carL]
  have := car_R (addT .u64 (outL (row5 a0 b0 (t19 a1) b4 (t19 a2) b3 (t19 a3) b2 (t19 a4) b1) w0) (mulT .u64 c19 (outC (row5 a0 b4 a1 b3 a2 b2 a3 b1 a4 b0) (outC (row5 a0 b3 a1 b2 a2 b1 a3 b0 (t19 a4) b4) (outC (row5 a0 b2 a1 b1 a2 b0 (t19 a3) b4 (t19 a4) b3) (outC (row5 a0 b1 a1 b0 (t19 a2) b4 (t19 a3) b3 (t19 a4) b2) (outC (row5 a0 b0 (t19 a1) b4 (t19 a2) b3 (t19 a3) b2 (t19 a4) b1) w0)))))))
    (outL (row5 a0 b1 a1 b0 (t19 a2) b4 (t19 a3) b3 (t19 a4) b2) (outC (row5 a0 b0 (t19 a1) b4 (t19 a2) b3 (t19 a3) b2 (t19 a4) b1) w0))
    (outL (row5 a0 b2 a1 b1 a2 b0 (t19 a3) b4 (t19 a4) b3) (outC (row5 a0 b1 a1 b0 (t19 a2) b4 (t19 a3) b3 (t19 a4) b2) (outC (row5 a0 b0 (t19 a1) b4 (t19 a2) b3 (t19 a3) b2 (t19 a4) b1) w0)))
    (outL (row5 a0 b3 a1 b2 a2 b1 a3 b0 (t19 a4) b4) (outC (row5 a0 b2 a1 b1 a2 b0 (t19 a3) b4 (t19 a4) b3) (outC (row5 a0 b1 a1 b0 (t19 a2) b4 (t19 a3) b3 (t19 a4) b2) (outC (row5 a0 b0 (t19 a1) b4 (t19 a2) b3 (t19 a3) b2 (t19 a4) b1) w0))))
    (outL (row5 a0 b4 a1 b3 a2 b2 a3 b1 a4 b0) (outC (row5 a0 b3 a1 b2 a2 b1 a3 b0 (t19 a4) b4) (outC (row5 a0 b2 a1 b1 a2 b0 (t19 a3) b4 (t19 a4) b3) (outC (row5 a0 b1 a1 b0 (t19 a2) b4 (t19 a3) b3 (t19 a4) b2) (outC (row5 a0 b0 (t19 a1) b4 (t19 a2) b3 (t19 a3) b2 (t19 a4) b1) w0)))))
  simp only [nat_add, nat_c19, nat_outL, nat_outC, wv_row, nat_t19, nat_w0] at this
  exact this

/-! ### sums and differences -/
def addN (x y : F5) : F5 := match x, y with
  | ⟨a0, a1, a2, a3, a4⟩, ⟨b0, b1, b2, b3, b4⟩ => carN ((a0 + b0) % 18446744073709551616) ((a1 + b1) % 18446744073709551616) ((a2 + b2) % 18446744073709551616) ((a3 + b3) % 18446744073709551616) ((a4 + b4) % 18446744073709551616)
def subN5 (x y : F5) : F5 := match x, y with
  | ⟨a0, a1, a2, a3, a4⟩, ⟨b0, b1, b2, b3, b4⟩ => carN ((a0 + (4503599627370458 + 18446744073709551616 - b0) % 18446744073709551616) % 18446744073709551616) ((a1 + (4503599627370494 + 18446744073709551616 - b1) % 18446744073709551616) % 18446744073709551616)
    ((a2 + (4503599627370494 + 18446744073709551616 - b2) % 18446744073709551616) % 18446744073709551616) ((a3 + (4503599627370494 + 18446744073709551616 - b3) % 18446744073709551616) % 18446744073709551616) ((a4 + (4503599627370494 + 18446744073709551616 - b4) % 18446744073709551616) % 18446744073709551616)
theorem nat_P0 : UInt64.toNat P0 = 4503599627370458 := by kernel_rfl
theorem nat_P1 : UInt64.toNat P1 = 4503599627370494 := by kernel_rfl
theorem add_R {l m : List UInt64} {x y : F5} (h : R5 l x) (h' : R5 m y) : R5 (addF l m) (addN x y) := by
  cases h with
  | mk a0 a1 a2 a3 a4 =>
  cases h' with
  | mk b0 b1 b2 b3 b4 =>
  have := car_R (addT .u64 a0 b0) (addT .u64 a1 b1) (addT .u64 a2 b2) (addT .u64 a3 b3) (addT .u64 a4 b4)
  simp only [nat_add] at this
  exact this
theorem sub_R {l m : List UInt64} {x y : F5} (h : R5 l x) (h' : R5 m y) : R5 (subF l m) (subN5 x y) := by
  cases h with
  | mk a0 a1 a2 a3 a4 =>
  cases h' with
  | mk b0 b1 b2 b3 b4 =>
  have := car_R (addT .u64 a0 (subT .u64 P0 b0)) (addT .u64 a1 (subT .u64 P1 b1)) (addT .u64 a2 (subT .u64 P1 b2)) (addT .u64 a3 (subT .u64 P1 b3)) (addT .u64 a4 (subT .u64 P1 b4))
  simp only [nat_add, nat_sub, nat_P0, nat_P1] at this
  exact this
end Go.Abs

namespace Go.Abs

structure Q5 where
  x : F5
  y : F5
  z : F5
  t : F5
structure RQ (p : Pt) (q : Q5) : Prop where
  x : R5 p.x q.x
  y : R5 p.y q.y
  z : R5 p.z q.z
  t : R5 p.t q.t

def sqN5 (x : F5) : F5 := mulN x x
theorem sq_R {l : List UInt64} {x : F5} (h : R5 l x) : R5 (sqF l) (sqN5 x) := mul_R h h
def sqsN : Nat → F5 → F5
  | 0, x => x
  | n + 1, x => fF (sqN5 x) fun y => sqsN n y
theorem sqs_R : ∀ {n : Nat} {l : List UInt64} {x : F5}, R5 l x → R5 (sqN n l) (sqsN n x)
  | 0, l, x, h => h
  | n + 1, l, x, h => by
    simp only [sqN, sqsN, fF_eq]
    exact sqs_R (sq_R h)

def powN (a : F5) : F5 × F5 :=
  fF (sqN5 a) fun two => fF (mulN a (sqsN 2 two)) fun nine => fF (mulN nine two) fun elev => fF (mulN nine (sqN5 elev)) fun x5 => fF (mulN x5 (sqsN 5 x5)) fun x10 => fF (mulN x10 (sqsN 10 x10)) fun x20 =>
  fF (mulN x20 (sqsN 20 x20)) fun x40 => fF (mulN x10 (sqsN 10 x40)) fun x50 => fF (mulN x50 (sqsN 50 x50)) fun x100 => fF (mulN x100 (sqsN 100 x100)) fun x200 => fF (mulN x50 (sqsN 50 x200)) fun x250 => (x250, elev)
theorem pow_R {l : List UInt64} {x : F5} (h : R5 l x) : R5 (x250F l) (powN x).1 ∧ R5 (elevF l) (powN x).2 := by
  simp only [powN, fF_eq]
  have h2 := sq_R h
  have h9 := mul_R h (sqs_R (n := 2) h2)
  have h11 := mul_R h9 h2
  have h5 := mul_R h9 (sq_R h11)
  have h10 := mul_R h5 (sqs_R (n := 5) h5)
  have h20 := mul_R h10 (sqs_R (n := 10) h10)
  have h40 := mul_R h20 (sqs_R (n := 20) h20)
  have h50 := mul_R h10 (sqs_R (n := 10) h40)
  have h100 := mul_R h50 (sqs_R (n := 50) h50)
  have h200 := mul_R h100 (sqs_R (n := 100) h100)
  exact ⟨mul_R h50 (sqs_R (n := 50) h200), h11⟩
def invN (a : F5) : F5 := match powN a with
  | (x, e) => mulN (sqsN 5 x) e
def eigN (a : F5) : F5 := match powN a with
  | (x, _) => mulN (sqsN 2 x) a
theorem inv_R {l : List UInt64} {x : F5} (h : R5 l x) : R5 (invF l) (invN x) := mul_R (sqs_R (n := 5) (pow_R h).1) (pow_R h).2
theorem eig_R {l : List UInt64} {x : F5} (h : R5 l x) : R5 (eigF l) (eigN x) := mul_R (sqs_R (n := 2) (pow_R h).1) h

/-! ### points -/
def fQ {α : Type} (p : Q5) (k : Q5 → α) : α := match p with
  | ⟨x, y, z, t⟩ => fF x fun x => fF y fun y => fF z fun z => fF t fun t => k ⟨x, y, z, t⟩
theorem fQ_eq {α : Type} (p : Q5) (k : Q5 → α) : fQ p k = k p := by
  obtain ⟨x, y, z, t⟩ := p
  simp only [fQ, fF_eq]
def dN : F5 := ⟨929955233495203, 466365720129213, 1662059464998953, 2033849074728123, 1442794654840575⟩
theorem d_R : R5 dF dN := by
  have : dF = [UInt64.ofNat 929955233495203, UInt64.ofNat 466365720129213, UInt64.ofNat 1662059464998953, UInt64.ofNat 2033849074728123, UInt64.ofNat 1442794654840575] := by kernel_rfl
  rw [this]
  exact R5.of (by kernel_rfl) (by kernel_rfl) (by kernel_rfl) (by kernel_rfl) (by kernel_rfl)

attribute [local irreducible] mulF addF subF mulN addN subN5 dF dN
def four (e f g h : F5) : Q5 := ⟨mulN e f, mulN g h, mulN f g, mulN e h⟩
def addQ (p q : Q5) : Q5 :=
  fF (mulN p.x q.x) fun a => fF (mulN p.y q.y) fun b => fF (mulN dN p.t) fun c => fF (mulN c q.t) fun c => fF (mulN p.z q.z) fun d => fF (addN p.x p.y) fun u => fF (addN q.x q.y) fun v => fF (mulN u v) fun s =>
  fF (subN5 s a) fun e => fF (subN5 e b) fun e => fF (subN5 d c) fun f => fF (addN d c) fun g => fF (addN b a) fun h => four e f g h
def dblQ (p : Q5) : Q5 :=
  fF (sqN5 p.x) fun a => fF (sqN5 p.y) fun b => fF (sqN5 p.z) fun c => fF (addN c c) fun c => fF (addN p.x p.y) fun s => fF (sqN5 s) fun s =>
  fF (addN a b) fun h => fF (subN5 h s) fun e => fF (subN5 a b) fun g => fF (addN c g) fun f => four e f g h
theorem add_Q {p p' : Pt} {q q' : Q5} (h : RQ p q) (h' : RQ p' q') : RQ (ptAdd p p') (addQ q q') := by
  simp only [addQ, fF_eq, ptAdd, ptAdd.fin, ptAdd.four, four]
  have a := mul_R h.x h'.x
  have b := mul_R h.y h'.y
  have c := mul_R (mul_R d_R h.t) h'.t
  have d := mul_R h.z h'.z
  have s := mul_R (add_R h.x h.y) (add_R h'.x h'.y)
  have e := sub_R (sub_R s a) b
  have f := sub_R d c
  have g := add_R d c
  have hh := add_R b a
  exact ⟨mul_R e f, mul_R g hh, mul_R f g, mul_R e hh⟩
theorem dbl_Q {p : Pt} {q : Q5} (h : RQ p q) : RQ (ptDbl p) (dblQ q) := by
  simp only [dblQ, fF_eq, ptDbl, ptDbl.fin, ptDbl.four, ptDbl.five, four]
  have a := sq_R h.x
  have b := sq_R h.y
  have c := add_R (sq_R h.z) (sq_R h.z)
  have s := sq_R (add_R h.x h.y)
  have hh := add_R a b
  have e := sub_R hh s
  have g := sub_R a b
  have f := add_R c g
  exact ⟨mul_R e f, mul_R g hh, mul_R f g, mul_R e hh⟩
end Go.Abs

namespace Go.Abs

def nibN (k : List Nat) (m : Nat) : Nat := (k.getD (m / 2) 0) / 2 ^ (4 * (m % 2)) % 16
def tabK {α : Type} : Nat → Q5 → Q5 → (List Q5 → α) → α
  | 0, _, _, K => K []
  | n + 1, p, q, K => fQ (addQ q p) fun r => tabK n p r fun l => K (q :: l)
def tabQ : Nat → Q5 → Q5 → List Q5
  | 0, _, _ => []
  | n + 1, p, q => q :: tabQ n p (addQ q p)
theorem tabK_eq {α : Type} : ∀ (n : Nat) (p q : Q5) (K : List Q5 → α), tabK n p q K = K (tabQ n p q)
  | 0, p, q, K => rfl
  | n + 1, p, q, K => by simp only [tabK, fQ_eq, tabK_eq n, tabQ]
def zQ : Q5 := ⟨⟨0, 0, 0, 0, 0⟩, ⟨0, 0, 0, 0, 0⟩, ⟨0, 0, 0, 0, 0⟩, ⟨0, 0, 0, 0, 0⟩⟩
def idQ : Q5 := ⟨⟨0, 0, 0, 0, 0⟩, ⟨1, 0, 0, 0, 0⟩, ⟨1, 0, 0, 0, 0⟩, ⟨0, 0, 0, 0, 0⟩⟩
def nthQ : List Q5 → Nat → Q5
  | [], _ => zQ
  | q :: _, 0 => q
  | _ :: l, n + 1 => nthQ l n
def loopQ (tab : List Q5) (k : List Nat) : Nat → Q5 → Q5
  | 0, r => r
  | m + 1, r => fQ (dblQ r) fun r => fQ (dblQ r) fun r => fQ (dblQ r) fun r => fQ (dblQ r) fun r => match nibN k m with
    | 0 => loopQ tab k m r
    | j + 1 => fQ (addQ r (nthQ tab (j + 1))) fun r => loopQ tab k m r
def mulQ (p : Q5) (k : List Nat) : Q5 := tabK 16 p idQ fun tab => loopQ tab k 64 idQ

theorem z_R : R5 zF ⟨0, 0, 0, 0, 0⟩ := R5.mk 0 0 0 0 0
theorem one_R : R5 oneF ⟨1, 0, 0, 0, 0⟩ := R5.of (by kernel_rfl) (by kernel_rfl) (by kernel_rfl) (by kernel_rfl) (by kernel_rfl)
theorem id_Q : RQ ptId idQ := ⟨z_R, one_R, one_R, z_R⟩
theorem z_Q : RQ ptZ zQ := ⟨z_R, z_R, z_R, z_R⟩

inductive RL : List Pt → List Q5 → Prop where
  | nil : RL [] []
  | cons {p : Pt} {q : Q5} {ps : List Pt} {qs : List Q5} : RQ p q → RL ps qs → RL (p :: ps) (q :: qs)
theorem tab_R : ∀ (n : Nat) {p r : Pt} {q s : Q5}, RQ p q → RQ r s → RL (tabR n p r) (tabQ n q s)
  | 0, _, _, _, _, _, _ => .nil
  | n + 1, _, _, _, _, h, h' => .cons h' (tab_R n h (add_Q h' h))
theorem nth_R : ∀ {ps : List Pt} {qs : List Q5} (n : Nat), RL ps qs → RQ (nthPt ps n) (nthQ qs n)
  | _, _, n, .nil => z_Q
  | _, _, 0, .cons h _ => h
  | _, _, n + 1, .cons _ h => nth_R n h

def okN (m : Nat) : Bool := Nat.beq (toI .i64 (hq m)).toNat (m / 2) && Nat.beq (toI .i64 (hc m)).toNat (4 * (m % 2))
theorem okN_all : allB okN 64 = true := by kernel_rfl
theorem nat8_and15 (x : UInt8) : UInt8.toNat (andT .u8 x (rawI .u8 15)) = x.toNat % 16 := by
  have e : (UInt8.toNat (andT .u8 x (rawI .u8 15)) : Int) = IntKind.u8.wrap ((BitVec.ofInt 8 (toI .u8 x) &&& BitVec.ofInt 8 15).toNat : Int) := toI_ofI .u8 _
  have h1 : (BitVec.ofInt 8 (toI .u8 x) &&& BitVec.ofInt 8 15).toNat = x.toNat % 16 := by
    rw [BitVec.toNat_and]
    have a : (BitVec.ofInt 8 (toI .u8 x)).toNat = x.toNat := by
      simp [toI]
    have b : (BitVec.ofInt 8 15).toNat = 15 := by decide
    rw [a, b]
    exact Nat.and_two_pow_sub_one_eq_mod _ 4
  have w : ∀ n : Int, IntKind.u8.wrap n = n % 256 := fun n => by simp [IntKind.wrap, IntKind.signed, IntKind.bits]
  rw [h1, w] at e
  omega
theorem nat8_shr (x : UInt8) (n : Nat) (hn : n ≤ 8) : UInt8.toNat (shrT .u8 x n) = x.toNat / 2 ^ n := by
  have := toI_shrT .u8 x n
  simp only [toI, IntKind.bits] at this
  rw [Nat.min_eq_left hn] at this
  have h2 : Int.fdiv (UInt8.toNat x : Int) (2 ^ n) = ((x.toNat / 2 ^ n : Nat) : Int) := by
    rw [Int.fdiv_eq_ediv_of_nonneg _ (Int.pow_nonneg (by omega))]; simp
  rw [h2] at this
  omega
theorem getD_map (l : List UInt8) (i : Nat) : (l.getD i (zeroT .u8)).toNat = (l.map UInt8.toNat).getD i 0 := by
  induction l generalizing i with
  | nil => rfl
  | cons x l ih => cases i with
    | zero => rfl
    | succ i => simpa using ih i
theorem nib_R (k : List UInt8) {m : Nat} (hm : m < 64) : (nib k (m : Int)).toNat = nibN (k.map UInt8.toNat) m := by
  have h := allB_spec okN_all m hm
  simp only [okN, Bool.and_eq_true] at h
  have h1 := beq_eq h.1
  have h2 := beq_eq h.2
  unfold hq at h1
  unfold hc at h2
  rw [nib, nat8_and15, h1, h2, nat8_shr _ _ (by omega), getD_map]
  rfl

theorem lt0 (x : UInt8) : ltT .u8 (rawI .u8 0) x = decide (0 < x.toNat) := by
  have : toI .u8 (rawI .u8 0) = 0 := by kernel_rfl
  unfold ltT
  rw [this]
  simp only [toI]
  congr 1
  exact propext ⟨fun h => by omega, fun h => by omega⟩
theorem loop_R {p : Pt} {q : Q5} (h : RQ p q) (k : List UInt8) : ∀ (m : Nat) {r : Pt} {s : Q5}, m ≤ 64 → RQ r s → RQ (loopM p k m r) (loopQ (tabQ 16 q idQ) (k.map UInt8.toNat) m s)
  | 0, r, s, _, hr => hr
  | m + 1, r, s, hm, hr => by
    have hd := dbl_Q (dbl_Q (dbl_Q (dbl_Q hr)))
    have hn := nib_R k (m := m) (by omega)
    simp only [loopM, loopQ, fQ_eq]
    unfold nextM
    rw [lt0, ← hn]
    cases hj : (nib k (m : Int)).toNat with
    | zero => exact loop_R h k m (by omega) hd
    | succ j => exact loop_R h k m (by omega) (add_Q hd (nth_R (j + 1) (tab_R 16 h id_Q)))
theorem mul_Q {p : Pt} {q : Q5} (h : RQ p q) (k : List UInt8) : RQ (ptMul p k) (mulQ q (k.map UInt8.toNat)) := by
  unfold mulQ
  rw [tabK_eq]
  exact loop_R h k 64 (by omega) id_Q
end Go.Abs

namespace Go.Abs

theorem nat8_conv (x : UInt64) : UInt8.toNat (convT .u64 .u8 x) = x.toNat % 256 := by
  have e : (UInt8.toNat (convT .u64 .u8 x) : Int) = IntKind.u8.wrap (UInt64.toNat x : Int) := toI_convT .u64 .u8 x
  have w : ∀ n : Int, IntKind.u8.wrap n = n % 256 := fun n => by simp [IntKind.wrap, IntKind.signed, IntKind.bits]
  rw [w] at e
  omega
/-- The bytes of a word. -/
def stN : Nat → Nat → Nat → List Nat
  | 0, _, _ => []
  | n + 1, w, i => w / 2 ^ i % 256 :: stN n w (i + 8)
theorem st_R : ∀ (n : Nat) (w : UInt64) (i : Nat), i + 8 * n ≤ 64 → (stB n w i).map UInt8.toNat = stN n w.toNat i
  | 0, w, i, _ => rfl
  | n + 1, w, i, h => by
    simp only [stB, stN, List.map_cons, nat8_conv, nat_shr w i (by omega)]
    rw [st_R n w (i + 8) (by omega)]

def wN (w0 w1 w2 w3 : Nat) : List Nat := stN 8 w0 0 ++ stN 8 w1 0 ++ stN 8 w2 0 ++ stN 8 w3 0
def byWN (a0 a1 a2 a3 a4 : Nat) : List Nat :=
  wN (Nat.lor a0 ((a1 * 2251799813685248) % 18446744073709551616)) (Nat.lor (a1 / 8192) ((a2 * 274877906944) % 18446744073709551616)) (Nat.lor (a2 / 67108864) ((a3 * 33554432) % 18446744073709551616)) (Nat.lor (a3 / 549755813888) ((a4 * 4096) % 18446744073709551616))
theorem byW_R (a0 a1 a2 a3 a4 : UInt64) : (byW a0 a1 a2 a3 a4).map UInt8.toNat = byWN a0.toNat a1.toNat a2.toNat a3.toNat a4.toNat := by
  simp only [byW, byWN, wN, List.map_append, stA, st_R 8 _ 0 (by omega), nat_or, nat_shl _ 51 (by omega), nat_shl _ 38 (by omega), nat_shl _ 25 (by omega), nat_shl _ 12 (by omega), nat_shr _ 13 (by omega), nat_shr _ 26 (by omega), nat_shr _ 39 (by omega), Nat.reducePow]
  rfl

def q19N (a0 a1 a2 a3 a4 : Nat) : Nat :=
  (a4 + (a3 + (a2 + (a1 + (a0 + 19) % 18446744073709551616 / 2251799813685248) % 18446744073709551616 / 2251799813685248) % 18446744073709551616 / 2251799813685248) % 18446744073709551616 / 2251799813685248) % 18446744073709551616 / 2251799813685248
theorem nat_19 : UInt64.toNat c19 = 19 := by kernel_rfl
theorem q19_R (a0 a1 a2 a3 a4 : UInt64) : (q19 a0 a1 a2 a3 a4).toNat = q19N a0.toNat a1.toNat a2.toNat a3.toNat a4.toNat := by
  simp only [q19, q19N, nat_add, nat_shr _ 51 (by omega), nat_19, Nat.reducePow]
def byRN (b0 a1 a2 a3 a4 : Nat) : List Nat :=
  fN ((a1 + b0 / 2251799813685248) % 18446744073709551616) fun b1 => fN ((a2 + b1 / 2251799813685248) % 18446744073709551616) fun b2 => fN ((a3 + b2 / 2251799813685248) % 18446744073709551616) fun b3 =>
  fN ((a4 + b3 / 2251799813685248) % 18446744073709551616 % 2251799813685248) fun b4 => byWN (b0 % 2251799813685248) (b1 % 2251799813685248) (b2 % 2251799813685248) (b3 % 2251799813685248) b4
theorem byR_R (b0 a1 a2 a3 a4 : UInt64) : (byR b0 a1 a2 a3 a4).map UInt8.toNat = byRN b0.toNat a1.toNat a2.toNat a3.toNat a4.toNat := by
  simp only [byR, byR.byS, byR.byT, byR.byU, byRN, fN_eq, byW_R, nat_add, nat_M51, nat_shr _ 51 (by omega), Nat.reducePow]
def byCN (x : F5) : List Nat := match x with
  | ⟨a0, a1, a2, a3, a4⟩ => fN ((a0 + (19 * q19N a0 a1 a2 a3 a4) % 18446744073709551616) % 18446744073709551616) fun b0 => byRN b0 a1 a2 a3 a4
def bytesN (x : F5) : List Nat := fF (carM x) fun x => fF (carM x) fun x => byCN x
theorem byC_R {l : List UInt64} {x : F5} (h : R5 l x) : (byC l).map UInt8.toNat = byCN x := by
  cases h with
  | mk a b c d e => simp only [byC, byCN, fN_eq, byR_R, nat_add, nat_c19, q19_R]
theorem bytes_R {l : List UInt64} {x : F5} (h : R5 l x) : (bytesF l).map UInt8.toNat = bytesN x := by
  simp only [bytesN, fF_eq]
  exact byC_R (carL_R (carL_R h))

def eqNs : List Nat → List Nat → Bool
  | [], [] => true
  | x :: xs, y :: ys => match Nat.beq x y with
    | true => eqNs xs ys
    | false => false
  | _, _ => false
theorem eqL_N : ∀ (a b : List UInt8), eqL .u8 a b = eqNs (a.map UInt8.toNat) (b.map UInt8.toNat)
  | [], [] => rfl
  | x :: a, y :: b => by
    have e : eqT .u8 x y = Nat.beq x.toNat y.toNat := by
      rw [Bool.eq_iff_iff]
      simp only [eqT, toI, beq_iff_eq, Nat.beq_eq]
      omega
    simp only [eqL, List.map_cons, eqNs, e, eqL_N a b]
    cases Nat.beq x.toNat y.toNat <;> rfl
  | [], _ :: _ => rfl
  | _ :: _, [] => rfl
def sameN (x y : F5) : Bool := eqNs (bytesN x) (bytesN y)
theorem same_R {l m : List UInt64} {x y : F5} (h : R5 l x) (h' : R5 m y) : sameF l m = sameN x y := by
  rw [sameF, eqL_N, bytes_R h, bytes_R h', sameN]

theorem nat8_and1 (x : UInt8) : UInt8.toNat (andT .u8 x (rawI .u8 1)) = x.toNat % 2 := by
  have e : (UInt8.toNat (andT .u8 x (rawI .u8 1)) : Int) = IntKind.u8.wrap ((BitVec.ofInt 8 (toI .u8 x) &&& BitVec.ofInt 8 1).toNat : Int) := toI_ofI .u8 _
  have h1 : (BitVec.ofInt 8 (toI .u8 x) &&& BitVec.ofInt 8 1).toNat = x.toNat % 2 := by
    rw [BitVec.toNat_and]
    have a : (BitVec.ofInt 8 (toI .u8 x)).toNat = x.toNat := by
      simp [toI]
    have b : (BitVec.ofInt 8 1).toNat = 1 := by decide
    rw [a, b]
    exact Nat.and_two_pow_sub_one_eq_mod _ 1
  have w : ∀ n : Int, IntKind.u8.wrap n = n % 256 := fun n => by simp [IntKind.wrap, IntKind.signed, IntKind.bits]
  rw [h1, w] at e
  omega
def oddN (x : F5) : Bool := Nat.beq ((bytesN x).getD 0 0 % 2) 1
theorem odd_R {l : List UInt64} {x : F5} (h : R5 l x) : oddF l = oddN x := by
  have e1 : toI .u8 (rawI .u8 1) = 1 := by kernel_rfl
  have e2 : ∀ z : UInt8, eqT .u8 z (rawI .u8 1) = Nat.beq z.toNat 1 := fun z => by
    rw [Bool.eq_iff_iff, eqT, e1]
    simp only [toI, beq_iff_eq, Nat.beq_eq]
    omega
  rw [oddF, e2, nat8_and1, getD_map, bytes_R h, oddN]

theorem nat8_or128 (x : UInt8) : UInt8.toNat (orT .u8 x (rawI .u8 128)) = Nat.lor x.toNat 128 := by
  have e : (UInt8.toNat (orT .u8 x (rawI .u8 128)) : Int) = IntKind.u8.wrap ((BitVec.ofInt 8 (toI .u8 x) ||| BitVec.ofInt 8 128).toNat : Int) := toI_ofI .u8 _
  have h1 : (BitVec.ofInt 8 (toI .u8 x) ||| BitVec.ofInt 8 128).toNat = Nat.lor x.toNat 128 := by
    rw [BitVec.toNat_or]
    have a : (BitVec.ofInt 8 (toI .u8 x)).toNat = x.toNat := by
      simp [toI]
    have b : (BitVec.ofInt 8 128).toNat = 128 := by decide
    rw [a, b]
    rfl
  have w : ∀ n : Int, IntKind.u8.wrap n = n % 256 := fun n => by simp [IntKind.wrap, IntKind.signed, IntKind.bits]
  have h4 : x.toNat ||| 128 < 2 ^ 8 := Nat.or_lt_two_pow (UInt8.toNat_lt x) (by omega)
  have h5 : Nat.lor x.toNat 128 < 256 := h4
  rw [h1, w] at e
  omega
def signN (b : Bool) (l : List Nat) : List Nat := match b with
  | true => l.set 31 (Nat.lor (l.getD 31 0) 128)
  | false => l
theorem sign_R (b : Bool) (l : List UInt8) : (signF b l).map UInt8.toNat = signN b (l.map UInt8.toNat) := by
  cases b with
  | false => rfl
  | true => simp only [signF, signN, List.map_set, nat8_or128, getD_map]
def formN (p : Q5) : List Nat := fF (invN p.z) fun z => fF (mulN p.x z) fun x => fF (mulN p.y z) fun y => signN (oddN x) (bytesN y)
theorem form_R {p : Pt} {q : Q5} (h : RQ p q) : (formF p).map UInt8.toNat = formN q := by
  simp only [formN, fF_eq]
  have hz := inv_R h.z
  have hx := mul_R h.x hz
  have hy := mul_R h.y hz
  rw [formF, sign_R, odd_R hx, bytes_R hy]

/-! ### in -/
theorem nat_conv8 (x : UInt8) : UInt64.toNat (convT .u8 .u64 x) = x.toNat := by
  have e : (UInt64.toNat (convT .u8 .u64 x) : Int) = IntKind.u64.wrap (UInt8.toNat x : Int) := toI_convT .u8 .u64 x
  have := UInt8.toNat_lt x
  rw [wrap64] at e
  omega
def ldWN : Nat → Nat → List Nat → Nat
  | _, acc, [] => acc
  | i, acc, b :: bs => fN (Nat.lor acc (b * 2 ^ i % 18446744073709551616)) fun acc => ldWN (i + 8) acc bs
theorem ldW_R : ∀ (l : List UInt8) (i : Nat) (acc : UInt64), i + 8 * l.length ≤ 64 → (ldW i acc l).toNat = ldWN i acc.toNat (l.map UInt8.toNat)
  | [], i, acc, _ => rfl
  | b :: l, i, acc, h => by
    simp only [List.length_cons] at h
    simp only [ldW, List.map_cons, ldWN, fN_eq]
    rw [ldW_R l (i + 8) _ (by omega), nat_or, nat_shl _ i (by omega), nat_conv8]
    rfl
def loadN (l : List Nat) : F5 :=
  fN (ldWN 0 0 (l.take 8)) fun w0 => fN (ldWN 0 0 ((l.drop 8).take 8)) fun w1 => fN (ldWN 0 0 ((l.drop 16).take 8)) fun w2 => fN (ldWN 0 0 (l.drop 24)) fun w3 =>
    ⟨(w0 % 2251799813685248 + (19 * (w3 / 9223372036854775808)) % 18446744073709551616) % 18446744073709551616, (Nat.lor (w0 / 2251799813685248) ((w1 * 8192) % 18446744073709551616)) % 2251799813685248,
      (Nat.lor (w1 / 274877906944) ((w2 * 67108864) % 18446744073709551616)) % 2251799813685248, (Nat.lor (w2 / 33554432) ((w3 * 549755813888) % 18446744073709551616)) % 2251799813685248, w3 / 4096 % 2251799813685248⟩
theorem load_R {l : List UInt8} (h : l.length = 32) : R5 (loadF l) (loadN (l.map UInt8.toNat)) := by
  have e1 := ldW_R (l.take 8) 0 w0 (by simp [h])
  have e2 := ldW_R ((l.drop 8).take 8) 0 w0 (by simp [h])
  have e3 := ldW_R ((l.drop 16).take 8) 0 w0 (by simp [h])
  have e4 := ldW_R (l.drop 24) 0 w0 (by simp [h])
  simp only [List.map_take, List.map_drop, nat_w0] at e1 e2 e3 e4
  simp only [loadN, fN_eq, loadF, ldL]
  refine R5.of ?_ ?_ ?_ ?_ ?_ <;> simp only [nat_add, nat_M51, nat_c19, nat_or, ldA, e1, e2, e3, e4, nat_shr _ 63 (by omega), nat_shr _ 51 (by omega), nat_shr _ 38 (by omega), nat_shr _ 25 (by omega), nat_shr _ 12 (by omega), nat_shl _ 13 (by omega), nat_shl _ 26 (by omega), nat_shl _ 39 (by omega), Nat.reducePow] <;> rfl

def rB : List Nat := [176, 160, 14, 74, 39, 27, 238, 196, 120, 228, 47, 173, 6, 24, 67, 47, 167, 215, 251, 61, 153, 0, 77, 43, 11, 223, 193, 79, 128, 36, 131, 43]
theorem r_R : R5 rF (loadN rB) := load_R (l := rootB) (by decide)
attribute [local irreducible] mulF addF subF mulN addN subN5 dF dN bytesF bytesN loadF loadN rF sameF sameN eigF eigN
def rootN (u v : F5) : F5 × Bool :=
  fF (mulN (sqN5 v) v) fun v3 => fF (mulN (sqN5 v3) v) fun v7 => fF (eigN (mulN u v7)) fun t => fF (mulN (mulN u v3) t) fun x => fF (mulN v (sqN5 x)) fun s => match sameN s u with
    | true => (x, true)
    | false => fF (mulN x (loadN rB)) fun x => fF (mulN v (sqN5 x)) fun s => match sameN s u with
      | true => (x, true)
      | false => fF (mulN x (loadN rB)) fun x => (x, false)
theorem root_R {l m : List UInt64} {u v : F5} (h : R5 l u) (h' : R5 m v) : R5 (rootF l m).1 (rootN u v).1 ∧ (rootF l m).2 = (rootN u v).2 := by
  have h3 := mul_R (sq_R h') h'
  have h7 := mul_R (sq_R h3) h'
  have hx := mul_R (mul_R h h3) (eig_R (mul_R h h7))
  have hx2 := mul_R hx r_R
  have f1 := same_R (mul_R h' (sq_R hx)) h
  have f2 := same_R (mul_R h' (sq_R hx2)) h
  simp only [rootN, fF_eq]
  have g1 : fitF l m (rxF l m) = _ := f1
  have g2 : fitF l m (mulF (rxF l m) rF) = _ := f2
  unfold rootF
  rw [g1, g2]
  cases sameN (mulN v (sqN5 (mulN (mulN u (mulN (sqN5 v) v)) (eigN (mulN u (mulN (sqN5 (mulN (sqN5 v) v)) v)))))) u with
  | true => exact ⟨hx, rfl⟩
  | false =>
    simp only
    cases sameN (mulN v (sqN5 (mulN (mulN (mulN u (mulN (sqN5 v) v)) (eigN (mulN u (mulN (sqN5 (mulN (sqN5 v) v)) v)))) (loadN rB)))) u with
    | true => exact ⟨hx2, rfl⟩
    | false => exact ⟨mul_R hx2 r_R, rfl⟩
end Go.Abs

namespace Go.Abs

theorem nat8_and127 (x : UInt8) : UInt8.toNat (andT .u8 x (rawI .u8 127)) = x.toNat % 128 := by
  have e : (UInt8.toNat (andT .u8 x (rawI .u8 127)) : Int) = IntKind.u8.wrap ((BitVec.ofInt 8 (toI .u8 x) &&& BitVec.ofInt 8 127).toNat : Int) := toI_ofI .u8 _
  have h1 : (BitVec.ofInt 8 (toI .u8 x) &&& BitVec.ofInt 8 127).toNat = x.toNat % 128 := by
    rw [BitVec.toNat_and]
    have a : (BitVec.ofInt 8 (toI .u8 x)).toNat = x.toNat := by
      simp [toI]
    have b : (BitVec.ofInt 8 127).toNat = 127 := by decide
    rw [a, b]
    exact Nat.and_two_pow_sub_one_eq_mod _ 7
  have w : ∀ n : Int, IntKind.u8.wrap n = n % 256 := fun n => by simp [IntKind.wrap, IntKind.signed, IntKind.bits]
  rw [h1, w] at e
  omega
def clrN (e : List Nat) : List Nat := e.set 31 (e.getD 31 0 % 128)
def topN (e : List Nat) : Bool := Nat.beq (e.getD 31 0 / 128) 1
theorem clr_R (e : List UInt8) : (clrF e).map UInt8.toNat = clrN (e.map UInt8.toNat) := by
  simp only [clrF, clrN, List.map_set, nat8_and127, getD_map]
theorem top_R (e : List UInt8) : topF e = topN (e.map UInt8.toNat) := by
  have e1 : toI .u8 (rawI .u8 1) = 1 := by kernel_rfl
  have e2 : ∀ z : UInt8, eqT .u8 z (rawI .u8 1) = Nat.beq z.toNat 1 := fun z => by
    rw [Bool.eq_iff_iff, eqT, e1]
    simp only [toI, beq_iff_eq, Nat.beq_eq]
    omega
  rw [topF, e2, nat8_shr _ 7 (by omega), getD_map, topN]
attribute [local irreducible] mulF addF subF mulN addN subN5 dF dN bytesF bytesN loadF loadN rF sameF sameN eigF eigN rootF rootN

def z32N : List Nat := List.replicate 32 0
def oneN : F5 := ⟨1, 0, 0, 0, 0⟩
def zN5 : F5 := ⟨0, 0, 0, 0, 0⟩
def xN (e : List Nat) (x : F5) : F5 := match oddN x == topN e with
  | true => x
  | false => subN5 zN5 x
/-- The end of an opening, by the root's answer. -/
def endF (e : List UInt8) (y : List UInt64) (r : List UInt64 × Bool) : Pt × Bool := match r with
  | (x, true) => match topF e && eqL .u8 (bytesF x) z32 with
    | true => (ptZ, false)
    | false => (mkPt y (openX e y x), true)
  | (_, false) => (ptZ, false)
def endN (e : List Nat) (y : F5) (r : F5 × Bool) : Q5 × Bool := match r with
  | (x, true) => match topN e && eqNs (bytesN x) z32N with
    | true => (zQ, false)
    | false => fF (xN e x) fun x => fF (mulN x y) fun t => (⟨x, y, oneN, t⟩, true)
  | (_, false) => (zQ, false)
theorem z32_R : z32.map UInt8.toNat = z32N := by kernel_rfl
theorem end_R {e : List UInt8} {l : List UInt64} {y : F5} (hy : R5 l y) {r : List UInt64 × Bool} {s : F5 × Bool} (h : R5 r.1 s.1) (h' : r.2 = s.2) : RQ (endF e l r).1 (endN (e.map UInt8.toNat) y s).1 ∧ (endF e l r).2 = (endN (e.map UInt8.toNat) y s).2 := by
  obtain ⟨x, b⟩ := r
  obtain ⟨x', b'⟩ := s
  simp only at h h'
  subst h'
  cases b with
  | false => exact ⟨z_Q, rfl⟩
  | true =>
    simp only [endF, endN, fF_eq]
    rw [eqL_N, bytes_R h, z32_R, top_R]
    cases topN (e.map UInt8.toNat) && eqNs (bytesN x') z32N with
    | true => exact ⟨z_Q, rfl⟩
    | false =>
      have hx : R5 (openX e l x) (xN (e.map UInt8.toNat) x') := by
        unfold openX xN
        rw [odd_R h, top_R]
        cases oddN x' == topN (e.map UInt8.toNat) with
        | true => exact h
        | false => exact sub_R z_R h
      exact ⟨⟨hx, hy, one_R, mul_R hx hy⟩, rfl⟩
theorem openF_end (e : List UInt8) : openF e = match eqL .u8 (bytesF (loadF (clrF e))) (clrF e) with
  | false => (ptZ, false)
  | true => endF e (loadF (clrF e)) (rootF (opU (loadF (clrF e))) (opV (loadF (clrF e)))) := by
  unfold openF
  cases eqL .u8 (bytesF (loadF (clrF e))) (clrF e) with
  | false => rfl
  | true =>
    generalize rootF (opU (loadF (clrF e))) (opV (loadF (clrF e))) = r
    obtain ⟨x, b⟩ := r
    cases b <;> rfl
def openN (e : List Nat) : Q5 × Bool :=
  fF (loadN (clrN e)) fun y => match eqNs (bytesN y) (clrN e) with
    | false => (zQ, false)
    | true => fF (sqN5 y) fun yy => fF (subN5 yy oneN) fun u => fF (mulN dN yy) fun v => fF (addN v oneN) fun v => endN e y (rootN u v)
theorem openN_eq (e : List Nat) : openN e = match eqNs (bytesN (loadN (clrN e))) (clrN e) with
    | false => (zQ, false)
    | true => endN e (loadN (clrN e)) (rootN (subN5 (sqN5 (loadN (clrN e))) oneN) (addN (mulN dN (sqN5 (loadN (clrN e)))) oneN)) := by
  simp only [openN, fF_eq]
theorem rootE (e : List UInt8) (h : e.length = 32) : R5 (rootF (opU (loadF (clrF e))) (opV (loadF (clrF e)))).1 (rootN (subN5 (sqN5 (loadN (clrN (e.map UInt8.toNat)))) oneN) (addN (mulN dN (sqN5 (loadN (clrN (e.map UInt8.toNat))))) oneN)).1 ∧
      (rootF (opU (loadF (clrF e))) (opV (loadF (clrF e)))).2 = (rootN (subN5 (sqN5 (loadN (clrN (e.map UInt8.toNat)))) oneN) (addN (mulN dN (sqN5 (loadN (clrN (e.map UInt8.toNat))))) oneN)).2 := by
  have hl : (clrF e).length = 32 := by simp [clrF, h]
  have hy := load_R hl
  rw [clr_R] at hy
  have hyy := sq_R hy
  have hu := sub_R hyy one_R
  have hv := add_R (mul_R d_R hyy) one_R
  unfold opU opV oneN
  exact root_R hu hv
theorem openP {e : List UInt8} {y : List UInt64} {z : F5} (hy : R5 y z) {r : List UInt64 × Bool} {s : F5 × Bool} (b : Bool) (h1 : R5 r.1 s.1) (h2 : r.2 = s.2) : RQ (match b with
  | false => (ptZ, false)
  | true => endF e y r : Pt × Bool).1 (match b with
    | false => (zQ, false)
    | true => endN (e.map UInt8.toNat) z s : Q5 × Bool).1 ∧ (match b with
  | false => (ptZ, false)
  | true => endF e y r : Pt × Bool).2 = (match b with
    | false => (zQ, false)
    | true => endN (e.map UInt8.toNat) z s : Q5 × Bool).2 := by
  cases b with
  | false => exact ⟨z_Q, rfl⟩
  | true => exact end_R hy h1 h2
theorem open_R (e : List UInt8) (h : e.length = 32) : RQ (openF e).1 (openN (e.map UInt8.toNat)).1 ∧ (openF e).2 = (openN (e.map UInt8.toNat)).2 := by
  have hl : (clrF e).length = 32 := by simp [clrF, h]
  have hy := load_R hl
  rw [clr_R] at hy
  have hr := rootE e h
  rw [openN_eq, openF_end, eqL_N, bytes_R hy, clr_R]
  exact openP hy _ hr.1 hr.2
end Go.Abs

namespace Go.Abs
open Go.Proofs

def isIdF (p : Pt) : Bool := match sameF p.x zF with
  | true => sameF p.y p.z
  | false => false
theorem run_isId (p : Pt) : ∀ K, run base12 243 0 [p.v] [] K = br (sameF p.x zF) (K (.bool (sameF p.y p.z)) []) (K (.bool false) []) := by intro K; kernel_rfl
theorem isId_run (p : Pt) (K : AVal → List (Nat × Blk) → Prop) : run base12 243 0 [p.v] [] K = K (.bool (isIdF p)) [] := by
  rw [run_isId]
  unfold isIdF
  cases sameF p.x zF <;> rfl
theorem isId_ok : CtrOk Tryz.prog env 243 (pureN (pt1G fun p => .bool (isIdF p))) := pt1_ok base12_ok isId_run

def ordB : List UInt8 := [237, 211, 245, 92, 26, 99, 18, 88, 214, 156, 247, 162, 222, 249, 222, 20, 0, 0, 0, 0, 0, 0, 0, 0, 0, 0, 0, 0, 0, 0, 0, 16]
def basePr (op : List UInt8 → Pt × Bool) : List (Nat × Ctr) := (243, pureN (pt1G fun p => .bool (isIdF p))) :: baseD op
theorem basePr_ok : AllOk (basePr openF) := ⟨isId_ok, baseD_ok⟩
def primeE (e : List UInt8) : AVal := match (openF e).2 with
  | true => .tup [.bool (isIdF (ptMul (openF e).1 ordB)), .int .i64 (0 : Int)]
  | false => .tup [.bool false, .int .i64 (41 : Int)]
theorem run_prime (op : List UInt8 → Pt × Bool) (e : List UInt8) : ∀ K, run (basePr op) 219 2 [.arr .u8 32 e] [] K =
  br (!(op e).2) (K (.tup [.bool false, .int .i64 (41 : Int)]) []) (K (.tup [.bool (isIdF (ptMul (op e).1 ordB)), .int .i64 (0 : Int)]) []) := by intro K; kernel_rfl
theorem prime_ok : CtrOk Tryz.prog env 219 (pureN (b32G primeE)) := b32_ok basePr_ok fun e _ K hK => by
  rw [run_prime]
  unfold primeE at hK
  cases h : (openF e).2 <;> rw [h] at hK <;> exact hK

/-! ### the doors over bare numbers -/
def isIdN (q : Q5) : Bool := match sameN q.x zN5 with
  | true => sameN q.y q.z
  | false => false
theorem isId_N {p : Pt} {q : Q5} (h : RQ p q) : isIdF p = isIdN q := by
  unfold isIdF isIdN
  rw [same_R h.x z_R, same_R h.y h.z]
  rfl

def bxN : List Nat := bxB.map UInt8.toNat
def byN : List Nat := byB.map UInt8.toNat
def baseQK {α : Type} (K : Q5 → α) : α := fF (loadN bxN) fun x => fF (loadN byN) fun y => fF (mulN x y) fun t => K ⟨x, y, oneN, t⟩
def baseQ : Q5 := ⟨loadN bxN, loadN byN, oneN, mulN (loadN bxN) (loadN byN)⟩
theorem baseQK_eq {α : Type} (K : Q5 → α) : baseQK K = K baseQ := by simp only [baseQK, fF_eq, baseQ]
theorem base_Q : RQ basePt baseQ := by
  have hx := load_R (l := bxB) (by decide)
  have hy := load_R (l := byB) (by decide)
  exact ⟨hx, hy, one_R, mul_R hx hy⟩

theorem eqNs_eq : ∀ {a b : List Nat}, eqNs a b = true → a = b
  | [], [], _ => rfl
  | x :: a, y :: b, h => by
    simp only [eqNs] at h
    cases hq : Nat.beq x y with
    | false => rw [hq] at h; cases h
    | true => rw [hq] at h; rw [beq_eq hq, eqNs_eq h]
  | [], _ :: _, h => by cases h
  | _ :: _, [], h => by cases h
theorem map8_inj : ∀ {a b : List UInt8}, a.map UInt8.toNat = b.map UInt8.toNat → a = b
  | [], [], _ => rfl
  | x :: a, y :: b, h => by
    simp only [List.map_cons, List.cons.injEq] at h
    rw [UInt8.toNat_inj.1 h.1, map8_inj h.2]
  | [], _ :: _, h => by cases h
  | _ :: _, [], h => by cases h
theorem form_is {p : Pt} {q : Q5} (h : RQ p q) {l : List UInt8} (e : eqNs (formN q) (l.map UInt8.toNat) = true) : formF p = l :=
  map8_inj (by rw [form_R h]; exact eqNs_eq e)

def bN (l : List UInt8) : List Nat := l.map UInt8.toNat
/-- A multiple of the base is this one. -/
def ckMulB (k l : List UInt8) : Bool := baseQK fun p => fQ (mulQ p (bN k)) fun r => eqNs (formN r) (bN l)
theorem mulB_is {k l : List UInt8} (h : ckMulB k l = true) : formF (ptMul basePt k) = l := by
  simp only [ckMulB, baseQK_eq, fQ_eq] at h
  exact form_is (mul_Q base_Q k) h

def opN {α : Type} (e : List UInt8) (no : α) (K : Q5 → α) : α := match openN (bN e) with
  | (p, true) => fQ p K
  | (_, false) => no
theorem op_is {e : List UInt8} (he : Nat.beq e.length 32 = true) {K : Q5 → Bool} (h : opN e false K = true) : (openF e).2 = true ∧ ∃ q, RQ (openF e).1 q ∧ K q = true := by
  obtain ⟨h1, h2⟩ := open_R e (beq_eq he)
  unfold opN at h
  rw [show bN e = e.map UInt8.toNat from rfl] at h
  cases ho : openN (e.map UInt8.toNat) with
  | mk q b =>
    rw [ho] at h h1 h2
    cases b with
    | false => cases h
    | true =>
      simp only [fQ_eq] at h
      exact ⟨h2, q, h1, h⟩

def len32 (e : List UInt8) : Bool := Nat.beq e.length 32
def ckCheck (e : List UInt8) : Bool := andB (len32 e) (opN e false fun _ => true)
theorem check_is {e : List UInt8} (h : ckCheck e = true) : checkF e = .int .i64 (0 : Int) := by
  obtain ⟨h1, h2⟩ := andB_iff.1 h
  obtain ⟨h3, _⟩ := op_is h1 h2
  rw [checkF, h3]
def ckMul (k e l : List UInt8) : Bool := andB (len32 e) (opN e false fun p => fQ (mulQ p (bN k)) fun r => eqNs (formN r) (bN l))
theorem mulE_is {k e l : List UInt8} (h : ckMul k e l = true) : mulE k e = okE l := by
  obtain ⟨h1, h2⟩ := andB_iff.1 h
  obtain ⟨h3, q, h4, h5⟩ := op_is h1 h2
  simp only [fQ_eq] at h5
  rw [mulE, h3]
  exact congrArg okE (form_is (mul_Q h4 k) h5)
def ckAdd (a b l : List UInt8) : Bool := andB (andB (len32 a) (len32 b)) (opN a false fun p => opN b false fun q => fQ (addQ p q) fun r => eqNs (formN r) (bN l))
theorem addE_is {a b l : List UInt8} (h : ckAdd a b l = true) : addE a b = okE l := by
  obtain ⟨h1, h2⟩ := andB_iff.1 h
  obtain ⟨h1, h1'⟩ := andB_iff.1 h1
  obtain ⟨h3, q, h4, h5⟩ := op_is h1 h2
  obtain ⟨h6, q', h7, h8⟩ := op_is h1' h5
  simp only [fQ_eq] at h8
  rw [addE, h3, h6]
  exact congrArg okE (form_is (add_Q h4 h7) h8)
def ckPrime (e : List UInt8) : Bool := andB (len32 e) (opN e false fun p => fQ (mulQ p (bN ordB)) isIdN)
theorem prime_is {e : List UInt8} (h : ckPrime e = true) : primeE e = .tup [.bool true, .int .i64 (0 : Int)] := by
  obtain ⟨h1, h2⟩ := andB_iff.1 h
  obtain ⟨h3, q, h4, h5⟩ := op_is h1 h2
  simp only [fQ_eq] at h5
  rw [primeE, h3]
  simp only
  rw [isId_N (mul_Q h4 ordB), show mulQ q (ordB.map UInt8.toNat) = mulQ q (bN ordB) from rfl, h5]
end Go.Abs
