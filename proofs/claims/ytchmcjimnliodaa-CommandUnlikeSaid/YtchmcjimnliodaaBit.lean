/- The machine's and, or, xor on unsigned numbers, as those of Nat. -/
import Derived.WalkKit
import Derived.Test.YtchmcjimnliodaaPlain
import Derived.Laws.Bits64b
namespace Go.Proofs.Ytchmcjimnliodaa

theorem ofInt_toNat (w a : Nat) (h : a < 2 ^ w) : (BitVec.ofInt w (a : Int)).toNat = a := by
  rw [BitVec.ofInt_natCast, BitVec.toNat_ofNat]; exact Nat.mod_eq_of_lt h
theorem wrap_nat (k : IntKind) (hk : k.signed = false) (a : Nat) (h : a < 2 ^ k.bits) : k.wrap (a : Int) = (a : Int) := by
  unfold IntKind.wrap
  simp only [hk, Bool.false_and, Bool.false_eq_true, if_false]
  exact Int.emod_eq_of_lt (by omega) (by exact_mod_cast h)
theorem bits_and (k : IntKind) (hk : k.signed = false) (a b : Nat) (ha : a < 2 ^ k.bits) (hb : b < 2 ^ k.bits) : bits .and k (a : Int) (b : Int) = ((a &&& b : Nat) : Int) := by
  show k.wrap ((BitVec.ofInt k.bits (a : Int) &&& BitVec.ofInt k.bits (b : Int)).toNat : Int) = _
  rw [BitVec.toNat_and, ofInt_toNat _ _ ha, ofInt_toNat _ _ hb]
  exact wrap_nat k hk _ (Nat.and_lt_two_pow _ hb)
theorem bits_or (k : IntKind) (hk : k.signed = false) (a b : Nat) (ha : a < 2 ^ k.bits) (hb : b < 2 ^ k.bits) : bits .or k (a : Int) (b : Int) = ((a ||| b : Nat) : Int) := by
  show k.wrap ((BitVec.ofInt k.bits (a : Int) ||| BitVec.ofInt k.bits (b : Int)).toNat : Int) = _
  rw [BitVec.toNat_or, ofInt_toNat _ _ ha, ofInt_toNat _ _ hb]
  exact wrap_nat k hk _ (Nat.or_lt_two_pow ha hb)
theorem bits_xor (k : IntKind) (hk : k.signed = false) (a b : Nat) (ha : a < 2 ^ k.bits) (hb : b < 2 ^ k.bits) : bits .xor k (a : Int) (b : Int) = ((a ^^^ b : Nat) : Int) := by
  show k.wrap ((BitVec.ofInt k.bits (a : Int) ^^^ BitVec.ofInt k.bits (b : Int)).toNat : Int) = _
  rw [BitVec.toNat_xor, ofInt_toNat _ _ ha, ofInt_toNat _ _ hb]
  exact wrap_nat k hk _ (Nat.xor_lt_two_pow ha hb)
theorem or_128 (y : Nat) : ((UInt8.ofNat y).toNat ||| 128) = y % 128 + 128 := by
  rw [UInt8.toNat_ofNat']
  have h := Nat.mod_lt y (show 0 < 256 by decide)
  have key : ∀ z, z < 256 → z ||| 128 = z % 128 + 128 := by decide +kernel
  rw [show (2 : Nat) ^ 8 = 256 from rfl, key _ h]
  omega
/-- 'byte(x) | 128'. -/
theorem byte_more (y : Nat) : bits .or .u8 ((y : Int) % 256) 128 = ((UInt8.ofNat (y % 128 + 128)).toNat : Int) := by
  have h := (UInt8.ofNat y).toNat_lt
  have e : ((y : Int) % 256) = ((UInt8.ofNat y).toNat : Int) := by rw [UInt8.toNat_ofNat']; simp
  rw [e, show (128 : Int) = ((128 : Nat) : Int) from rfl, bits_or .u8 rfl _ _ h (by decide), or_128, UInt8.toNat_ofNat']
  omega
theorem ofInt_neg1 : BitVec.ofInt 64 18446744073709551615 = BitVec.allOnes 64 := by decide
/-- 'uint64(x)<<1 ^ uint64(x>>63)'. -/
theorem fold_bits {x : Int} (h : I64 x) : bits .xor .u64 (IntKind.u64.wrap (IntKind.u64.wrap x * 2)) (IntKind.u64.wrap (x / 9223372036854775808)) = (fold x : Int) := by
  obtain ⟨h1, h2⟩ := h
  rw [IntKind.wrap_u64, IntKind.wrap_u64, IntKind.wrap_u64]
  by_cases hx : 0 ≤ x
  · have e1 : x % 18446744073709551616 * 2 % 18446744073709551616 = ((2 * x).toNat : Int) := by omega
    have e2 : x / 9223372036854775808 % 18446744073709551616 = ((0 : Nat) : Int) := by omega
    rw [e1, e2, bits_xor .u64 rfl _ _ (by show (2 * x).toNat < 18446744073709551616; omega) (by decide)]
    unfold fold
    rw [if_pos hx]; simp
  · have e1 : x % 18446744073709551616 * 2 % 18446744073709551616 = ((2 * x + 18446744073709551616).toNat : Int) := by omega
    have e2 : x / 9223372036854775808 % 18446744073709551616 = 18446744073709551615 := by omega
    rw [e1, e2]
    show IntKind.u64.wrap ((BitVec.ofInt 64 ((2 * x + 18446744073709551616).toNat : Int) ^^^ BitVec.ofInt 64 18446744073709551615).toNat : Int) = _
    rw [ofInt_neg1, BitVec.xor_allOnes, BitVec.toNat_not, ofInt_toNat 64 _ (by show _ < 18446744073709551616; omega), IntKind.wrap_u64]
    unfold fold
    rw [if_neg hx]
    omega
theorem and_127 {z : Nat} (_h : z < 256) : z &&& 127 = z % 128 := by
  have := Nat.and_two_pow_sub_one_eq_mod z 7
  simpa using this
/-- 'x | uint64(b&127) << shift'. -/
theorem num_val {y z k : Nat} (hy : y < 2 ^ (7 * k)) (hz : z < 256) (hk : k ≤ 9) (h9 : k = 9 → z % 128 ≤ 1) :
    bits .or .u64 (y : Int) (IntKind.u64.wrap (IntKind.u64.wrap (bits .and .u8 (z : Int) 127) * 2 ^ (7 * k))) = ((y + z % 128 * 2 ^ (7 * k) : Nat) : Int) := by
  have hb : z % 128 * 2 ^ (7 * k) < 2 ^ 64 := by
    rcases Nat.lt_or_ge k 9 with h | h
    · have h1 : 2 ^ (7 * k) ≤ 2 ^ 56 := Nat.pow_le_pow_right (by omega) (by omega)
      have h2 : z % 128 < 128 := Nat.mod_lt _ (by omega)
      calc z % 128 * 2 ^ (7 * k) ≤ 127 * 2 ^ 56 := Nat.mul_le_mul (by omega) h1
        _ < 2 ^ 64 := by decide
    · obtain rfl : k = 9 := by omega
      have := h9 rfl
      have h3 : z % 128 * 2 ^ (7 * 9) ≤ 1 * 2 ^ 63 := Nat.mul_le_mul this (Nat.le_refl _)
      exact Nat.lt_of_le_of_lt h3 (by decide)
  have hy64 : y < 2 ^ 64 := Nat.lt_of_lt_of_le hy (Nat.pow_le_pow_right (by omega) (by omega))
  have e1 : bits .and .u8 (z : Int) 127 = ((z % 128 : Nat) : Int) := by
    rw [show (127 : Int) = ((127 : Nat) : Int) from rfl, bits_and .u8 rfl z 127 hz (by decide), and_127 hz]
  have hz2 : z % 128 < 128 := Nat.mod_lt _ (by omega)
  rw [e1, wrap_nat .u64 rfl _ (show z % 128 < 2 ^ 64 by omega)]
  have e2 : ((z % 128 : Nat) : Int) * 2 ^ (7 * k) = ((z % 128 * 2 ^ (7 * k) : Nat) : Int) := by
    rw [Int.natCast_mul, Int.natCast_pow]; rfl
  rw [e2, wrap_nat .u64 rfl _ hb, bits_or .u64 rfl _ _ hy64 hb]
  congr 1
  rw [Nat.or_comm, Nat.mul_comm, ← Nat.two_pow_add_eq_or_of_lt hy, Nat.add_comm]
theorem num_val_lt {y z k : Nat} (hy : y < 2 ^ (7 * k)) : y + z % 128 * 2 ^ (7 * k) < 2 ^ (7 * (k + 1)) := by
  have h2 : z % 128 < 128 := Nat.mod_lt _ (by omega)
  have h3 : (z % 128 + 1) * 2 ^ (7 * k) ≤ 128 * 2 ^ (7 * k) := Nat.mul_le_mul (by omega) (Nat.le_refl _)
  have h4 : 2 ^ (7 * (k + 1)) = 128 * 2 ^ (7 * k) := by
    rw [show 7 * (k + 1) = 7 * k + 7 from by omega, Nat.pow_add]; omega
  rw [Nat.add_mul] at h3
  omega
end Go.Proofs.Ytchmcjimnliodaa
