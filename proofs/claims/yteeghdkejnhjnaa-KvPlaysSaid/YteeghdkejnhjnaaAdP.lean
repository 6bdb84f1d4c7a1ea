/- Plain arithmetic on addresses of eight bytes: their numbers, the stirring, the bytes of a number. No program in sight. -/
import Derived.WalkKit
import Derived.Laws.Bits64
import Derived.Laws.BitsLemmas
namespace Go.Proofs.Yteeghdkejnhjnaa.Ad
open Go

/-- Eight bytes. -/
structure A8 where
  (x0 x1 x2 x3 x4 x5 x6 x7 : UInt8)
  deriving DecidableEq

/-- The value of an address. -/
@[reducible] def A8.v (a : A8) : Value := .agg #[.int .u8 a.x0.toNat, .int .u8 a.x1.toNat, .int .u8 a.x2.toNat, .int .u8 a.x3.toNat, .int .u8 a.x4.toNat, .int .u8 a.x5.toNat, .int .u8 a.x6.toNat, .int .u8 a.x7.toNat]

def A8.l (a : A8) : List UInt8 := [a.x0, a.x1, a.x2, a.x3, a.x4, a.x5, a.x6, a.x7]

/-- The number of an address. -/
def A8.num (a : A8) : Nat := ((((((a.x0.toNat * 256 + a.x1.toNat) * 256 + a.x2.toNat) * 256 + a.x3.toNat) * 256 + a.x4.toNat) * 256 + a.x5.toNat) * 256 + a.x6.toNat) * 256 + a.x7.toNat

theorem u8_lt (x : UInt8) : x.toNat < 256 := x.toNat_lt

theorem A8.num_lt (a : A8) : a.num < 18446744073709551616 := by
  have := u8_lt a.x0; have := u8_lt a.x1; have := u8_lt a.x2; have := u8_lt a.x3
  have := u8_lt a.x4; have := u8_lt a.x5; have := u8_lt a.x6; have := u8_lt a.x7
  unfold A8.num; omega

/-- The address of a number below 2^64. -/
def A8.of (n : Nat) : A8 :=
  ⟨UInt8.ofNat (n / 72057594037927936 % 256), UInt8.ofNat (n / 281474976710656 % 256), UInt8.ofNat (n / 1099511627776 % 256), UInt8.ofNat (n / 4294967296 % 256),
   UInt8.ofNat (n / 16777216 % 256), UInt8.ofNat (n / 65536 % 256), UInt8.ofNat (n / 256 % 256), UInt8.ofNat (n % 256)⟩

theorem ofNat_toNat (n : Nat) (h : n < 256) : (UInt8.ofNat n).toNat = n := by
  simp only [UInt8.toNat_ofNat']
  exact Nat.mod_eq_of_lt h

theorem A8.num_of (n : Nat) (h : n < 18446744073709551616) : (A8.of n).num = n := by
  unfold A8.num A8.of
  simp only []
  rw [ofNat_toNat _ (by omega), ofNat_toNat _ (by omega), ofNat_toNat _ (by omega), ofNat_toNat _ (by omega), ofNat_toNat _ (by omega), ofNat_toNat _ (by omega), ofNat_toNat _ (by omega), ofNat_toNat _ (by omega)]
  omega

theorem A8.ext_num {a b : A8} (h : a.num = b.num) : a = b := by
  have := u8_lt a.x0; have := u8_lt a.x1; have := u8_lt a.x2; have := u8_lt a.x3
  have := u8_lt a.x4; have := u8_lt a.x5; have := u8_lt a.x6; have := u8_lt a.x7
  have := u8_lt b.x0; have := u8_lt b.x1; have := u8_lt b.x2; have := u8_lt b.x3
  have := u8_lt b.x4; have := u8_lt b.x5; have := u8_lt b.x6; have := u8_lt b.x7
  obtain ⟨a0, a1, a2, a3, a4, a5, a6, a7⟩ := a
  obtain ⟨b0, b1, b2, b3, b4, b5, b6, b7⟩ := b
  simp only [A8.num] at *
  have e0 : a0 = b0 := UInt8.toNat_inj.1 (by omega)
  have e1 : a1 = b1 := UInt8.toNat_inj.1 (by omega)
  have e2 : a2 = b2 := UInt8.toNat_inj.1 (by omega)
  have e3 : a3 = b3 := UInt8.toNat_inj.1 (by omega)
  have e4 : a4 = b4 := UInt8.toNat_inj.1 (by omega)
  have e5 : a5 = b5 := UInt8.toNat_inj.1 (by omega)
  have e6 : a6 = b6 := UInt8.toNat_inj.1 (by omega)
  have e7 : a7 = b7 := UInt8.toNat_inj.1 (by omega)
  subst e0 e1 e2 e3 e4 e5 e6 e7
  rfl

/-- One round of the stirring. -/
def mix (x s c : Nat) : Nat := (x ^^^ x / s) * c % 18446744073709551616
def stir (x : Nat) : Nat :=
  let a := mix x 1073741824 13787848793156543929
  let b := mix a 134217728 10723151780598845931
  b ^^^ b / 2147483648

theorem mix_lt (x s c : Nat) : mix x s c < 18446744073709551616 := Nat.mod_lt _ (by decide)
theorem stir_lt (x : Nat) : stir x < 18446744073709551616 := by
  unfold stir
  exact Nat.xor_lt_two_pow (n := 64) (mix_lt _ _ _) (Nat.lt_of_le_of_lt (Nat.div_le_self _ _) (mix_lt _ _ _))

/-- The address that is derived. -/
def derive (a : A8) (n : Nat) : A8 := A8.of (stir ((a.num + stir ((n + 11400714819323198485) % 18446744073709551616)) % 18446744073709551616))

/-- The join of a shifted number and a byte. -/
theorem or_byte (n c : Nat) (hn : n * 256 < 18446744073709551616) (hc : c < 256) : bits .or .u64 ((n : Int) * 256) (c : Int) = ((n * 256 + c : Nat) : Int) := by
  have h1 : ((n : Int) * 256) = ((n * 256 : Nat) : Int) := by simp
  rw [h1, (bits_nat .u64 64 (by decide) (fun n h0 h1 => by rw [IntKind.wrap_u64]; omega) (n * 256) c (by omega) (by omega)).2]
  congr 1
  have := Nat.two_pow_add_eq_or_of_lt (i := 8) (b := c) (by omega) n
  rw [show n * 256 = 2 ^ 8 * n by omega, ← this]

end Go.Proofs.Yteeghdkejnhjnaa.Ad
