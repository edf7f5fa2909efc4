/-
  Words of 32 bits and bytes as the walk meets them: sums, bits, turns. No program is in sight.
-/
import Derived.Laws.BitsAllLaws
import Derived.Laws.BitsLemmas
import Derived.Laws.Shifts
namespace Go.Sha
/-- The number of a word, of a byte: behind a name, so that the walk leaves it whole. -/
def U (x : UInt32) : Int := (x.toNat : Int)
def B8 (x : UInt8) : Int := (x.toNat : Int)
theorem U_nonneg (x : UInt32) : 0 ≤ U x := Int.natCast_nonneg _
theorem U_lt (x : UInt32) : U x < 4294967296 := by have := x.toNat_lt; unfold U; omega
theorem B8_nonneg (x : UInt8) : 0 ≤ B8 x := Int.natCast_nonneg _
theorem B8_lt (x : UInt8) : B8 x < 256 := by have := x.toNat_lt; unfold B8; omega
theorem U_inj {a b : UInt32} (h : U a = U b) : a = b := UInt32.toNat_inj.1 (by unfold U at h; omega)
theorem B8_inj {a b : UInt8} (h : B8 a = B8 b) : a = b := UInt8.toNat_inj.1 (by unfold B8 at h; omega)
/-- A word, a byte, as a value. -/
abbrev wv (x : UInt32) : Value := .int .u32 (U x)
abbrev bv (x : UInt8) : Value := .int .u8 (B8 x)

theorem u32_wrap_add (a b : UInt32) : IntKind.u32.wrap (U a + U b) = U (a + b) := by
  unfold U; rw [IntKind.wrap_u32, UInt32.toNat_add]; omega
theorem u32_wrap_mul (a b : UInt32) : IntKind.u32.wrap (U a * U b) = U (a * b) := by
  unfold U; rw [IntKind.wrap_u32, UInt32.toNat_mul]; omega
theorem u32_bits_xor (a b : UInt32) : bits .xor .u32 (U a) (U b) = U (a ^^^ b) := by
  unfold U; rw [u32_xor_nat _ _ a.toNat_lt b.toNat_lt, UInt32.toNat_xor]
theorem u32_bits_and (a b : UInt32) : bits .and .u32 (U a) (U b) = U (a &&& b) := by
  unfold U; rw [u32_and_nat _ _ a.toNat_lt b.toNat_lt, UInt32.toNat_and]
theorem u32_bits_or (a b : UInt32) : bits .or .u32 (U a) (U b) = U (a ||| b) := by
  unfold U; rw [u32_or_nat _ _ a.toNat_lt b.toNat_lt, UInt32.toNat_or]
theorem u32_bits_not (a : UInt32) : bits .xor .u32 4294967295 (U a) = U (~~~a) := by
  have h : ((4294967295 : Int)) = U (4294967295 : UInt32) := rfl
  rw [h, u32_bits_xor]
  congr 1
theorem u32_bits_max (a : UInt32) : bits .xor .u32 IntKind.u32.max (U a) = U (~~~a) := u32_bits_not a
theorem u8_bits_xor (a b : UInt8) : bits .xor .u8 (B8 a) (B8 b) = B8 (a ^^^ b) := by
  unfold B8; rw [u8_xor_nat _ _ a.toNat_lt b.toNat_lt, UInt8.toNat_xor]
theorem u8_bits_or (a b : UInt8) : bits .or .u8 (B8 a) (B8 b) = B8 (a ||| b) := by
  unfold B8; rw [u8_or_nat _ _ a.toNat_lt b.toNat_lt, UInt8.toNat_or]

theorem u32_mod_add (a b : UInt32) : (U a + U b) % 4294967296 = U (a + b) := by rw [← u32_wrap_add, IntKind.wrap_u32]
theorem u32_signed : IntKind.u32.signed = false := rfl

/-- A word turned to the right by n, 0 < n < 32. -/
def rot (x : UInt32) (n : Nat) : UInt32 := .ofNat (x.toNat >>> n ||| (x.toNat <<< (32 - n)) % 4294967296)
theorem rot_toNat (x : UInt32) (n : Nat) : (rot x n).toNat = (x.toNat >>> n ||| (x.toNat <<< (32 - n)) % 4294967296) := by
  unfold rot
  rw [UInt32.toNat_ofNat']
  apply Nat.mod_eq_of_lt
  apply Nat.or_lt_two_pow
  · exact Nat.lt_of_le_of_lt (by rw [Nat.shiftRight_eq_div_pow]; exact Nat.div_le_self _ _) x.toNat_lt
  · exact Nat.mod_lt _ (by decide)
theorem rot_walk (x : UInt32) (n : Nat) : bits .or .u32 (U x / 2 ^ n) (U x * 2 ^ (32 - n) % 4294967296) = U (rot x n) := by
  unfold U
  have h1 : ((x.toNat : Int) / 2 ^ n) = ((x.toNat >>> n : Nat) : Int) := by rw [Nat.shiftRight_eq_div_pow]; simp
  have h2 : ((x.toNat : Int) * 2 ^ (32 - n) % 4294967296) = (((x.toNat <<< (32 - n)) % 4294967296 : Nat) : Int) := by
    rw [Nat.shiftLeft_eq]; simp
  rw [h1, h2, u32_or_nat, rot_toNat]
  · exact Nat.lt_of_le_of_lt (by rw [Nat.shiftRight_eq_div_pow]; exact Nat.div_le_self _ _) x.toNat_lt
  · exact Nat.mod_lt _ (by decide)
/-- A word moved to the right, by a number that is known. -/
def shr (x : UInt32) (n : Nat) : UInt32 := .ofNat (x.toNat >>> n)
theorem shr_toNat (x : UInt32) (n : Nat) : (shr x n).toNat = x.toNat >>> n := by
  unfold shr
  rw [UInt32.toNat_ofNat']
  exact Nat.mod_eq_of_lt (Nat.lt_of_le_of_lt (by rw [Nat.shiftRight_eq_div_pow]; exact Nat.div_le_self _ _) x.toNat_lt)
theorem u32_shr (x : UInt32) (n : Nat) : U x / 2 ^ n = U (shr x n) := by
  unfold U; rw [shr_toNat, Nat.shiftRight_eq_div_pow]; simp
theorem u32_shr3 (x : UInt32) : U x / 8 = U (shr x 3) := u32_shr x 3
theorem u32_shr10 (x : UInt32) : U x / 1024 = U (shr x 10) := u32_shr x 10
def rot3 (x : UInt32) (a b c : Nat) : UInt32 := rot x a ^^^ rot x b ^^^ rot x c
end Go.Sha
