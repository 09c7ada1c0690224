/- The field's functions over bare numbers, to be reckoned fast. -/
import Derived.Test.YtadiphoihflmiaaGreatDoorZr
set_option linter.all false
set_option maxRecDepth 1000000
namespace Go.Abs

/-- Reckoned before it goes on. -/
def fN {α : Type} (n : Nat) (k : Nat → α) : α := Nat.rec (motive := fun _ => α) (k 0) (fun m _ => k (Nat.succ m)) n
theorem fN_eq {α : Type} (n : Nat) (k : Nat → α) : fN n k = k n := by cases n <;> rfl

structure F5 where
  a : Nat
  b : Nat
  c : Nat
  d : Nat
  e : Nat
def fF {α : Type} (x : F5) (k : F5 → α) : α := match x with
  | ⟨a, b, c, d, e⟩ => fN a fun a => fN b fun b => fN c fun c => fN d fun d => fN e fun e => k ⟨a, b, c, d, e⟩
theorem fF_eq {α : Type} (x : F5) (k : F5 → α) : fF x k = k x := by
  obtain ⟨a, b, c, d, e⟩ := x
  simp only [fF, fN_eq]

inductive R5 : List UInt64 → F5 → Prop where
  | mk (a b c d e : UInt64) : R5 [a, b, c, d, e] ⟨a.toNat, b.toNat, c.toNat, d.toNat, e.toNat⟩

theorem R5.of {a b c d e : UInt64} {x : F5} (ha : a.toNat = x.a) (hb : b.toNat = x.b) (hc : c.toNat = x.c) (hd : d.toNat = x.d) (he : e.toNat = x.e) : R5 [a, b, c, d, e] x := by
  obtain ⟨_, _, _, _, _⟩ := x
  simp only at ha hb hc hd he
  subst ha hb hc hd he
  exact .mk a b c d e

theorem nat_M51 (x : UInt64) : UInt64.toNat (andT .u64 x M51) = x.toNat % 2251799813685248 := by
  rw [nat_and]
  show x.toNat &&& UInt64.toNat (rawI .u64 ((2251799813685247 : Nat) : Int)) = _
  rw [nat_raw]
  exact Nat.and_two_pow_sub_one_eq_mod _ 51
theorem nat_c19 (x : UInt64) : UInt64.toNat (mulT .u64 c19 x) = (19 * x.toNat) % 18446744073709551616 := by
  rw [nat_mul]
  show (UInt64.toNat (rawI .u64 ((19 : Nat) : Int)) * _) % _ = _
  rw [nat_raw]
theorem nat_adcS (x y c : UInt64) : UInt64.toNat (adcS x y c) = (x.toNat + y.toNat + c.toNat) % 18446744073709551616 := by rw [adcS, UInt64.toNat_ofNat']
theorem nat_adcC (x y c : UInt64) : UInt64.toNat (adcC x y c) = (x.toNat + y.toNat + c.toNat) / 18446744073709551616 := by
  have := UInt64.toNat_lt x
  have := UInt64.toNat_lt y
  have := UInt64.toNat_lt c
  rw [adcC, UInt64.toNat_ofNat', Nat.mod_eq_of_lt]
  omega
theorem nat_w0 : UInt64.toNat w0 = 0 := rfl
theorem nat_0 : UInt64.toNat (0 : UInt64) = 0 := rfl

/-! ### carried -/
def carN (a b c d e : Nat) : F5 :=
  ⟨(a % 2251799813685248 + (19 * (e / 2251799813685248)) % 18446744073709551616) % 18446744073709551616, (b % 2251799813685248 + a / 2251799813685248) % 18446744073709551616, (c % 2251799813685248 + b / 2251799813685248) % 18446744073709551616,
    (d % 2251799813685248 + c / 2251799813685248) % 18446744073709551616, (e % 2251799813685248 + d / 2251799813685248) % 18446744073709551616⟩
def carM (x : F5) : F5 := match x with
  | ⟨a, b, c, d, e⟩ => carN a b c d e

theorem car_R (a b c d e : UInt64) : R5 (carT a b c d e) (carN a.toNat b.toNat c.toNat d.toNat e.toNat) := by
  refine R5.of ?_ ?_ ?_ ?_ ?_ <;> simp only [nat_add, nat_M51, nat_c19, nat_shr _ 51 (by omega), carN, Nat.reducePow]
theorem carL_R {l : List UInt64} {x : F5} (h : R5 l x) : R5 (carL l) (carM x) := by
  cases h with
  | mk a b c d e => exact car_R a b c d e

/-! ### products -/
def wv (w : UInt64 × UInt64) : Nat := w.1.toNat * 18446744073709551616 + w.2.toNat
theorem wv_wadd (a b : UInt64) (w : UInt64 × UInt64) : wv (wadd a b w) = (wv w + a.toNat * b.toNat) % 340282366920938463463374607431768211456 := by
  have ha := UInt64.toNat_lt a
  have hb := UInt64.toNat_lt b
  have hP : a.toNat * b.toNat < 18446744073709551616 * 18446744073709551616 := Nat.mul_lt_mul'' ha hb
  have e1 : UInt64.toNat (mulH a b) = a.toNat * b.toNat / 18446744073709551616 := by
    rw [mulH, UInt64.toNat_ofNat', Nat.mod_eq_of_lt]
    exact Nat.div_lt_of_lt_mul hP
  have e2 : UInt64.toNat (mulL a b) = a.toNat * b.toNat % 18446744073709551616 := by rw [mulL, UInt64.toNat_ofNat']
  simp only [wv, wadd, nat_adcS, nat_adcC, e1, e2, nat_0]
  generalize a.toNat * b.toNat = P at *
  have := UInt64.toNat_lt w.1
  have := UInt64.toNat_lt w.2
  omega

theorem wv_row (a b c d e f g h i j : UInt64) : wv (row5 a b c d e f g h i j) = (a.toNat * b.toNat + c.toNat * d.toNat + e.toNat * f.toNat + g.toNat * h.toNat + i.toNat * j.toNat) % 340282366920938463463374607431768211456 := by
  simp only [row5, wv_wadd]
  have : wv (w0, w0) = 0 := rfl
  rw [this]
  omega

def t19N (a : Nat) : Nat := (19 * a) % 18446744073709551616
theorem nat_t19 (a : UInt64) : UInt64.toNat (t19 a) = t19N a.toNat := by rw [t19, nat_c19]; rfl

/-- A sum with what was carried: the limb, and what is carried on. -/
def limN (r c : Nat) : Nat := (r % 18446744073709551616 + c) % 18446744073709551616 % 2251799813685248
def cryN (r c : Nat) : Nat := Nat.lor ((((r / 18446744073709551616 + (r % 18446744073709551616 + c) / 18446744073709551616) % 18446744073709551616) * 8192) % 18446744073709551616) ((r % 18446744073709551616 + c) % 18446744073709551616 / 2251799813685248)
theorem wv_div (w : UInt64 × UInt64) : wv w / 18446744073709551616 = w.1.toNat := by
  have := UInt64.toNat_lt w.2
  simp only [wv]; omega
theorem wv_mod (w : UInt64 × UInt64) : wv w % 18446744073709551616 = w.2.toNat := by
  have := UInt64.toNat_lt w.2
  simp only [wv]; omega
theorem nat_outL (r : UInt64 × UInt64) (c : UInt64) : UInt64.toNat (outL r c) = limN (wv r) c.toNat := by
  simp only [outL, nat_M51, nat_adcS, nat_w0, limN, wv_mod, Nat.add_zero]
theorem nat_outC (r : UInt64 × UInt64) (c : UInt64) : UInt64.toNat (outC r c) = cryN (wv r) c.toNat := by
  simp only [outC, nat_or, nat_shl _ 13 (by omega), nat_add, nat_adcC, nat_shr _ 51 (by omega), nat_adcS, nat_w0, cryN, wv_mod, wv_div, Nat.add_zero, Nat.reducePow]
  rfl

def mulK (r0 r1 r2 r3 r4 : Nat) : F5 :=
  fN r0 fun r0 => fN (cryN r0 0) fun c0 => fN r1 fun r1 => fN (cryN r1 c0) fun c1 => fN r2 fun r2 => fN (cryN r2 c1) fun c2 => fN r3 fun r3 => fN (cryN r3 c2) fun c3 => fN r4 fun r4 => fN (cryN r4 c3) fun c4 =>
  fN ((limN r0 0 + (19 * c4) % 18446744073709551616) % 18446744073709551616) fun x0 => fN (limN r1 c0) fun x1 => fN (limN r2 c1) fun x2 => fN (limN r3 c2) fun x3 => fN (limN r4 c3) fun x4 => carN x0 x1 x2 x3 x4
def mulN (x y : F5) : F5 := match x, y with
  | ⟨a0, a1, a2, a3, a4⟩, ⟨b0, b1, b2, b3, b4⟩ => fN (t19N a1) fun n1 => fN (t19N a2) fun n2 => fN (t19N a3) fun n3 => fN (t19N a4) fun n4 =>
    mulK ((a0 * b0 + n1 * b4 + n2 * b3 + n3 * b2 + n4 * b1) % 340282366920938463463374607431768211456) ((a0 * b1 + a1 * b0 + n2 * b4 + n3 * b3 + n4 * b2) % 340282366920938463463374607431768211456)
      ((a0 * b2 + a1 * b1 + a2 * b0 + n3 * b4 + n4 * b3) % 340282366920938463463374607431768211456) ((a0 * b3 + a1 * b2 + a2 * b1 + a3 * b0 + n4 * b4) % 340282366920938463463374607431768211456)
      ((a0 * b4 + a1 * b3 + a2 * b2 + a3 * b1 + a4 * b0) % 340282366920938463463374607431768211456)

theorem mul_R {l m : List UInt64} {x y : F5} (h : R5 l x) (h' : R5 m y) : R5 (mulF l m) (mulN x y) := by
  cases h with
  | mk a0 a1 a2 a3 a4 =>
  cases h' with
  | mk b0 b1 b2 b3 b4 =>
  simp only [mulF, mulT5, mulN, mulK, fN_eq, chain5, carL]
  have := car_R (addT .u64 (outL (row5 a0 b0 (t19 a1) b4 (t19 a2) b3 (t19 a3) b2 (t19 a4) b1) w0) (mulT .u64 c19 (outC (row5 a0 b4 a1 b3 a2 b2 a3 b1 a4 b0) (outC (row5 a0 b3 a1 b2 a2 b1 a3 b0 (t19 a4) b4) (outC (row5 a0 b2 a1 b1 a2 b0 (t19 a3) b4 (t19 a4) b3) (outC (row5 a0 b1 a1 b0 (t19 a2) b4 (t19 a3) b3 (t19 a4) b2) (outC (row5 a0 b0 (t19 a1) b4 (t19 a2) b3 (t19 a3) b2 (t19 a4) b1) w0)))))))
    (outL (row5 a0 b1 a1 b0 (t19 a2) b4 (t19 a3) b3 (t19 a4) b2) (outC (row5 a0 b0 (t19 a1) b4 (t19 a2) b3 (t19 a3) b2 (t19 a4) b1) w0))
    (outL (row5 a0 b2 a1 b1 a2 b0 (t19 a3) b4 (t19 a4) b3) (outC (row5 a0 b1 a1 b0 (t19 a2) b4 (t19 a3) b3 (t19 a4) b2) (outC (row5 a0 b0 (t19 a1) b4 (t19 a2) b3 (t19 a3) b2 (t19 a4) b1) w0)))
    (outL (row5 a0 b3 a1 b2 a2 b1 a3 b0 (t19 a4) b4) (outC (row5 a0 b2 a1 b1 a2 b0 (t19 a3) b4 (t19 a4) b3) (outC (row5 a0 b1 a1 b0 (t19 a2) b4 (t19 a3) b3 (t19 a4) b2) (outC (row5 a0 b0 (t19 a1) b4 (t19 a2) b3 (t19 a3) b2 (t19 a4) b1) w0))))
    (outL (row5 a0 b4 a1 b3 a2 b2 a3 b1 a4 b0) (outC (row5 a0 b3 a1 b2 a2 b1 a3 b0 (t19 a4) b4) (outC (row5 a0 b2 a1 b1 a2 b0 (t19 a3) b4 (t19 a4) b3) (outC (row5 a0 b1 a1 b0 (t19 a2) b4 (t19 a3) b3 (t19 a4) b2) (outC (row5 a0 b0 (t19 a1) b4 (t19 a2) b3 (t19 a3) b2 (t19 a4) b1) w0)))))
  simp only [nat_add, nat_c19, nat_outL, nat_outC, wv_row, nat_t19, nat_w0] at this
  exact this

/-! ### sums and differences -/
def addN (x y : F5) : F5 := match x, y with
  | ⟨a0, a1, a2, a3, a4⟩, ⟨b0, b1, b2, b3, b4⟩ => carN ((a0 + b0) % 18446744073709551616) ((a1 + b1) % 18446744073709551616) ((a2 + b2) % 18446744073709551616) ((a3 + b3) % 18446744073709551616) ((a4 + b4) % 18446744073709551616)
def subN5 (x y : F5) : F5 := match x, y with
  | ⟨a0, a1, a2, a3, a4⟩, ⟨b0, b1, b2, b3, b4⟩ => carN ((a0 + (4503599627370458 + 18446744073709551616 - b0) % 18446744073709551616) % 18446744073709551616) ((a1 + (4503599627370494 + 18446744073709551616 - b1) % 18446744073709551616) % 18446744073709551616)
    ((a2 + (4503599627370494 + 18446744073709551616 - b2) % 18446744073709551616) % 18446744073709551616) ((a3 + (4503599627370494 + 18446744073709551616 - b3) % 18446744073709551616) % 18446744073709551616) ((a4 + (4503599627370494 + 18446744073709551616 - b4) % 18446744073709551616) % 18446744073709551616)
theorem nat_P0 : UInt64.toNat P0 = 4503599627370458 := by kernel_rfl
theorem nat_P1 : UInt64.toNat P1 = 4503599627370494 := by kernel_rfl
theorem add_R {l m : List UInt64} {x y : F5} (h : R5 l x) (h' : R5 m y) : R5 (addF l m) (addN x y) := by
  cases h with
  | mk a0 a1 a2 a3 a4 =>
  cases h' with
  | mk b0 b1 b2 b3 b4 =>
  have := car_R (addT .u64 a0 b0) (addT .u64 a1 b1) (addT .u64 a2 b2) (addT .u64 a3 b3) (addT .u64 a4 b4)
  simp only [nat_add] at this
  exact this
theorem sub_R {l m : List UInt64} {x y : F5} (h : R5 l x) (h' : R5 m y) : R5 (subF l m) (subN5 x y) := by
  cases h with
  | mk a0 a1 a2 a3 a4 =>
  cases h' with
  | mk b0 b1 b2 b3 b4 =>
  have := car_R (addT .u64 a0 (subT .u64 P0 b0)) (addT .u64 a1 (subT .u64 P1 b1)) (addT .u64 a2 (subT .u64 P1 b2)) (addT .u64 a3 (subT .u64 P1 b3)) (addT .u64 a4 (subT .u64 P1 b4))
  simp only [nat_add, nat_sub, nat_P0, nat_P1] at this
  exact this
end Go.Abs
