/- The walks of the ledger's closures: what Add, Sub, Bump make of an entry; bits.Add64. -/
import Derived.Test.YtkdckcjnjljdmaaCAcS
import Derived.Laws.Externs
namespace Go.Proofs.Ytkdckcjnjljdmaa.Ac
open Go Go.RowKit Kt Ad

theorem add64_any (b k : Nat) (w : World) : (callFunc 44 #[.int .u64 b, .int .u64 k, .int .u64 0]).run Try.prog w = .ok (.value (.tuple #[.int .u64 (((b + k) % 18446744073709551616 : Nat) : Int), .int .u64 (((b + k) / 18446744073709551616 : Nat) : Int)])) w := by
  rw [run_callFunc_extern Try.func44 (by kernel_rfl) (by kernel_rfl) (by kernel_rfl) (e := add64Entry) (by kernel_rfl), run_add64 _ _ _ (by omega) (by omega) (by omega) (by omega)]
  simp only [Result.andThen]
  congr 3
theorem add64_lo {b k : Nat} (h : b + k < 18446744073709551616) (w : World) : (callFunc 44 #[.int .u64 b, .int .u64 k, .int .u64 0]).run Try.prog w = .ok (.value (.tuple #[.int .u64 ((b + k : Nat) : Int), .int .u64 0])) w := by
  rw [add64_any, Nat.mod_eq_of_lt h, Nat.div_eq_of_lt h]; rfl
theorem add64_hi {b k : Nat} (hb : b < 18446744073709551616) (hk : k < 18446744073709551616) (h : 18446744073709551616 ≤ b + k) (w : World) : (callFunc 44 #[.int .u64 b, .int .u64 k, .int .u64 0]).run Try.prog w = .ok (.value (.tuple #[.int .u64 ((b + k - 18446744073709551616 : Nat) : Int), .int .u64 1])) w := by
  rw [add64_any, show (b + k) % 18446744073709551616 = b + k - 18446744073709551616 by omega, show (b + k) / 18446744073709551616 = 1 by omega]; rfl

end Go.Proofs.Ytkdckcjnjljdmaa.Ac
