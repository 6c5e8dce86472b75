/-
  Bits: an or of parts that do not meet is a sum.
-/
import Derived.Laws.BitsAllLaws
import Derived.Laws.BitsLemmas
namespace Go.Proofs.YtahbhhenobehfaaGreatDoor

theorem ofInt_i64 (a : Nat) (ha : a < 9223372036854775808) : (BitVec.ofInt 64 (a : Int)).toNat = a := by
  rw [BitVec.ofInt_natCast, BitVec.toNat_ofNat]; exact Nat.mod_eq_of_lt (by omega)
theorem i64_or_nat (a b : Nat) (ha : a < 9223372036854775808) (hb : b < 9223372036854775808) : bits .or .i64 (a : Int) (b : Int) = ((a ||| b : Nat) : Int) := by
  have hx : a ||| b < 2 ^ 63 := Nat.or_lt_two_pow (by omega) (by omega)
  show IntKind.i64.wrap ((BitVec.ofInt 64 (a : Int) ||| BitVec.ofInt 64 (b : Int)).toNat : Int) = _
  rw [BitVec.toNat_or, ofInt_i64 a ha, ofInt_i64 b hb, IntKind.wrap_i64]
  omega
theorem ofInt_u32 (a : Nat) (ha : a < 4294967296) : (BitVec.ofInt 32 (a : Int)).toNat = a := by
  rw [BitVec.ofInt_natCast, BitVec.toNat_ofNat]; exact Nat.mod_eq_of_lt (by omega)
theorem u32_or_nat (a b : Nat) (ha : a < 4294967296) (hb : b < 4294967296) : bits .or .u32 (a : Int) (b : Int) = ((a ||| b : Nat) : Int) := by
  have hx : a ||| b < 2 ^ 32 := Nat.or_lt_two_pow (by omega) (by omega)
  show IntKind.u32.wrap ((BitVec.ofInt 32 (a : Int) ||| BitVec.ofInt 32 (b : Int)).toNat : Int) = _
  rw [BitVec.toNat_or, ofInt_u32 a ha, ofInt_u32 b hb, IntKind.wrap_u32]
  omega
theorem or_nat (a b i p : Nat) (hp : p = 2 ^ i) (h : b < p) : a * p ||| b = a * p + b := by
  subst hp
  rw [← Nat.shiftLeft_eq, Nat.shiftLeft_add_eq_or_of_lt h]
theorem or_i64 (a b i p : Nat) (hp : p = 2 ^ i) (h : b < p) (X Y : Int) (hX : X = ((a * p : Nat) : Int)) (hY : Y = (b : Int)) (h1 : a * p < 9223372036854775808) (h2 : b < 9223372036854775808) : bits .or .i64 X Y = X + Y := by
  subst hX hY
  rw [i64_or_nat _ _ h1 h2, or_nat a b i p hp h]
  omega
theorem or_u32 (a b i p : Nat) (hp : p = 2 ^ i) (h : b < p) (X Y : Int) (hX : X = ((a * p : Nat) : Int)) (hY : Y = (b : Int)) (h1 : a * p < 4294967296) (h2 : b < 4294967296) : bits .or .u32 X Y = X + Y := by
  subst hX hY
  rw [u32_or_nat _ _ h1 h2, or_nat a b i p hp h]
  omega
theorem or_len (x y : Int) (hx : 0 ≤ x ∧ x ≤ 255) (hy : 0 ≤ y ∧ y ≤ 255) : bits .or .i64 (x * 256) y = x * 256 + y :=
  or_i64 x.toNat y.toNat 8 256 (by decide +kernel) (by omega) _ _ (by omega) (by omega) (by omega) (by omega)
theorem or_sum1 (x y : Int) (hx : 0 ≤ x ∧ x ≤ 255) (hy : 0 ≤ y ∧ y ≤ 255) : bits .or .u32 (x * 16777216) (y * 65536) = x * 16777216 + y * 65536 :=
  or_u32 x.toNat (y * 65536).toNat 24 16777216 (by decide +kernel) (by omega) _ _ (by omega) (by omega) (by omega) (by omega)
theorem or_sum2 (x y : Int) (hx : 0 ≤ x ∧ x ≤ 65535) (hy : 0 ≤ y ∧ y ≤ 255) : bits .or .u32 (x * 65536) (y * 256) = x * 65536 + y * 256 :=
  or_u32 x.toNat (y * 256).toNat 16 65536 (by decide +kernel) (by omega) _ _ (by omega) (by omega) (by omega) (by omega)
theorem or_sum3 (x y : Int) (hx : 0 ≤ x ∧ x ≤ 16777215) (hy : 0 ≤ y ∧ y ≤ 255) : bits .or .u32 (x * 256) y = x * 256 + y :=
  or_u32 x.toNat y.toNat 8 256 (by decide +kernel) (by omega) _ _ (by omega) (by omega) (by omega) (by omega)
/-- The four bytes of a checksum, put together. -/
theorem or_sum (x2 x3 x4 x5 : Int) (h2 : 0 ≤ x2 ∧ x2 ≤ 255) (h3 : 0 ≤ x3 ∧ x3 ≤ 255) (h4 : 0 ≤ x4 ∧ x4 ≤ 255) (h5 : 0 ≤ x5 ∧ x5 ≤ 255) :
    bits .or .u32 (bits .or .u32 (bits .or .u32 (x2 * 16777216) (x3 * 65536)) (x4 * 256)) x5 = x2 * 16777216 + x3 * 65536 + x4 * 256 + x5 := by
  rw [or_sum1 x2 x3 h2 h3]
  have e1 := or_sum2 (x2 * 256 + x3) x4 (by omega) h4
  rw [show (x2 * 256 + x3) * 65536 = x2 * 16777216 + x3 * 65536 from by omega] at e1
  rw [e1]
  have e2 := or_sum3 (x2 * 65536 + x3 * 256 + x4) x5 (by omega) h5
  rw [show (x2 * 65536 + x3 * 256 + x4) * 256 = x2 * 16777216 + x3 * 65536 + x4 * 256 from by omega] at e2
  exact e2
end Go.Proofs.YtahbhhenobehfaaGreatDoor
