/- Plain arithmetic: the stirring loses nothing; unlike nonces and unlike addresses derive unlike addresses. Texts and addresses. No program in sight. -/
import Derived.Test.YtldeialjonanmaaDoorAdP
import Derived.Test.YtldeialjonanmaaDoorAdR
namespace Go.Proofs.YtldeialjonanmaaDoor.Ad
open Go

theorem xs_inj (s : Nat) (hs : 0 < s) (x y : Nat) (h : x ^^^ x / 2 ^ s = y ^^^ y / 2 ^ s) : x = y := by
  have hx : x / 2 ^ s = x >>> s := (Nat.shiftRight_eq_div_pow x s).symm
  have hy : y / 2 ^ s = y >>> s := (Nat.shiftRight_eq_div_pow y s).symm
  rw [hx, hy] at h
  have hz : x ^^^ y = (x ^^^ y) >>> s := by
    rw [Nat.shiftRight_xor_distrib]
    have : x ^^^ y = x ^^^ (x ^^^ x >>> s) ^^^ (y ^^^ y >>> s) ^^^ y := by
      rw [h]
      rw [Nat.xor_assoc x, Nat.xor_self, Nat.xor_zero]
    rw [this]
    have e1 : x ^^^ (x ^^^ x >>> s) = x >>> s := by rw [← Nat.xor_assoc, Nat.xor_self, Nat.zero_xor]
    rw [e1, Nat.xor_assoc, Nat.xor_assoc, Nat.xor_comm (y >>> s) y, ← Nat.xor_assoc y, Nat.xor_self, Nat.zero_xor]
  have h0 : x ^^^ y = 0 := by
    rw [Nat.shiftRight_eq_div_pow] at hz
    generalize x ^^^ y = z at hz
    have h2 : 2 ≤ 2 ^ s := by
      calc 2 = 2 ^ 1 := rfl
        _ ≤ 2 ^ s := Nat.pow_le_pow_right (by decide) hs
    have : z / 2 ^ s ≤ z / 2 := Nat.div_le_div_left h2 (by decide)
    omega
  have : x ^^^ y ^^^ y = y := by rw [h0, Nat.zero_xor]
  rw [Nat.xor_assoc, Nat.xor_self, Nat.xor_zero] at this
  exact this

theorem mul_inj (c d a b : Nat) (hcd : c * d % 18446744073709551616 = 1) (ha : a < 18446744073709551616) (hb : b < 18446744073709551616) (h : a * c % 18446744073709551616 = b * c % 18446744073709551616) : a = b := by
  have key : ∀ n, n < 18446744073709551616 → (n * c % 18446744073709551616) * d % 18446744073709551616 = n := by
    intro n hn
    rw [Nat.mod_mul_mod, Nat.mul_assoc, ← Nat.mul_mod_mod, hcd, Nat.mul_one, Nat.mod_eq_of_lt hn]
  have := key a ha
  rw [h, key b hb] at this
  exact this.symm

theorem xs_lt (s x : Nat) (h : x < 18446744073709551616) : x ^^^ x / s < 18446744073709551616 :=
  Nat.xor_lt_two_pow (n := 64) h (Nat.lt_of_le_of_lt (Nat.div_le_self _ _) h)

theorem stir_inj (x y : Nat) (hx : x < 18446744073709551616) (hy : y < 18446744073709551616) (h : stir x = stir y) : x = y := by
  unfold stir at h
  have h1 := xs_inj 31 (by decide) _ _ h
  unfold mix at h1
  have h2 := mul_inj 10723151780598845931 3573116690164977347 _ _ (by decide) (xs_lt _ _ (Nat.mod_lt _ (by decide))) (xs_lt _ _ (Nat.mod_lt _ (by decide))) h1
  have h3 := xs_inj 27 (by decide) _ _ h2
  have h4 := mul_inj 13787848793156543929 10871156337175269513 _ _ (by decide) (xs_lt _ _ hx) (xs_lt _ _ hy) h3
  exact xs_inj 30 (by decide) _ _ h4

theorem of_inj (m n : Nat) (hm : m < 18446744073709551616) (hn : n < 18446744073709551616) (h : A8.of m = A8.of n) : m = n := by
  rw [← A8.num_of m hm, ← A8.num_of n hn, h]

theorem derive_nonce (a : A8) (n m : Nat) (hn : n < 18446744073709551616) (hm : m < 18446744073709551616) : derive a n = derive a m ↔ n = m := by
  constructor
  · intro h
    have h1 := of_inj _ _ (stir_lt _) (stir_lt _) h
    have h2 := stir_inj _ _ (Nat.mod_lt _ (by decide)) (Nat.mod_lt _ (by decide)) h1
    have l1 := stir_lt ((n + 11400714819323198485) % 18446744073709551616)
    have l2 := stir_lt ((m + 11400714819323198485) % 18446744073709551616)
    have h3 := stir_inj _ _ (Nat.mod_lt _ (by decide)) (Nat.mod_lt _ (by decide)) (show stir ((n + 11400714819323198485) % 18446744073709551616) = stir ((m + 11400714819323198485) % 18446744073709551616) by omega)
    omega
  · rintro rfl; rfl
theorem derive_addr (a b : A8) (n : Nat) : derive a n = derive b n ↔ a = b := by
  constructor
  · intro h
    have h1 := of_inj _ _ (stir_lt _) (stir_lt _) h
    have h2 := stir_inj _ _ (Nat.mod_lt _ (by decide)) (Nat.mod_lt _ (by decide)) h1
    have := a.num_lt
    have := b.num_lt
    exact A8.ext_num (by omega)
  · rintro rfl; rfl
end Go.Proofs.YtldeialjonanmaaDoor.Ad
