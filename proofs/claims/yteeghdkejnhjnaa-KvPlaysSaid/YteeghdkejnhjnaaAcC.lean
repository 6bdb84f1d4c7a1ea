/- The walks of the ledger's closures: what Add, Sub, Bump make of an entry; bits.Add64. -/
import Derived.Test.YteeghdkejnhjnaaAcS
import Derived.Laws.Externs
namespace Go.Proofs.Yteeghdkejnhjnaa.Ac
open Go Go.RowKit Kt Ad

theorem add64_any (b k : Nat) (w : World) : (callFunc 84 #[.int .u64 b, .int .u64 k, .int .u64 0]).run Try.prog w = .ok (.value (.tuple #[.int .u64 (((b + k) % 18446744073709551616 : Nat) : Int), .int .u64 (((b + k) / 18446744073709551616 : Nat) : Int)])) w := by
  rw [run_callFunc_extern Try.func84 (by kernel_rfl) (by kernel_rfl) (by kernel_rfl) (e := add64Entry) (by kernel_rfl), run_add64 _ _ _ (by omega) (by omega) (by omega) (by omega)]
  simp only [Result.andThen]
  congr 3
theorem add64_lo {b k : Nat} (h : b + k < 18446744073709551616) (w : World) : (callFunc 84 #[.int .u64 b, .int .u64 k, .int .u64 0]).run Try.prog w = .ok (.value (.tuple #[.int .u64 ((b + k : Nat) : Int), .int .u64 0])) w := by
  rw [add64_any, Nat.mod_eq_of_lt h, Nat.div_eq_of_lt h]; rfl
theorem add64_hi {b k : Nat} (hb : b < 18446744073709551616) (hk : k < 18446744073709551616) (h : 18446744073709551616 ≤ b + k) (w : World) : (callFunc 84 #[.int .u64 b, .int .u64 k, .int .u64 0]).run Try.prog w = .ok (.value (.tuple #[.int .u64 ((b + k - 18446744073709551616 : Nat) : Int), .int .u64 1])) w := by
  rw [add64_any, show (b + k) % 18446744073709551616 = b + k - 18446744073709551616 by omega, show (b + k) / 18446744073709551616 = 1 by omega]; rfl

set_option maxRecDepth 100000 in
set_option maxHeartbeats 1000000 in
theorem add1_ok {W : World} {p b n k : Nat} (hp : W.cell? ⟨p, 0, none⟩ = some (.int .u64 k)) (hl : p < W.heap.size) (h : b + k < 18446744073709551616) :
    Calls Try.prog 83 #[.agg #[.int .u64 b, .int .u64 n], .pointer (some ⟨p, 0, none⟩)] W fun e w' => e = .returned (.tuple #[.agg #[.int .u64 ((b + k : Nat) : Int), .int .u64 n], .int .i64 0]) ∧ Below W.heap.size W w' := by
  have ha := add64_lo h
  obtain ⟨s, hs⟩ : ∃ s, s = b + k := ⟨_, rfl⟩
  rw [← hs] at ha ⊢
  clear hs
  go_enter Try.func83, Try.ntmps83
  go_wp2
  exact bodyPost_ret (v := .tuple #[.agg #[.int .u64 s, .int .u64 n], .int .i64 0]) (by simp [results, Try.results83, go_sem]) rfl ⟨rfl, (((Below.refl _ _).alloc (Nat.le_refl _) _).alloc (by simp) _)⟩

set_option maxRecDepth 100000 in
set_option maxHeartbeats 1000000 in
theorem add1_over {W : World} {p b n k : Nat} (hp : W.cell? ⟨p, 0, none⟩ = some (.int .u64 k)) (hl : p < W.heap.size) (hb : b < 18446744073709551616) (hk : k < 18446744073709551616) (h : 18446744073709551616 ≤ b + k) :
    Calls Try.prog 83 #[.agg #[.int .u64 b, .int .u64 n], .pointer (some ⟨p, 0, none⟩)] W fun e w' => e = .returned (.tuple #[.agg #[.int .u64 b, .int .u64 n], .int .i64 211]) ∧ Below W.heap.size W w' := by
  have ha := add64_hi hb hk h
  obtain ⟨s, hs⟩ : ∃ s, s = b + k - 18446744073709551616 := ⟨_, rfl⟩
  rw [← hs] at ha
  clear hs h hb hk
  go_enter Try.func83, Try.ntmps83
  go_wp2
  exact bodyPost_ret (v := .tuple #[.agg #[.int .u64 b, .int .u64 n], .int .i64 211]) (by simp [results, Try.results83, go_sem]) rfl ⟨rfl, (((Below.refl _ _).alloc (Nat.le_refl _) _).alloc (by simp) _)⟩

set_option maxRecDepth 100000 in
set_option maxHeartbeats 1000000 in
theorem sub1_ok {W : World} {p b n k : Nat} (hp : W.cell? ⟨p, 0, none⟩ = some (.int .u64 k)) (hl : p < W.heap.size) (hb : b < 18446744073709551616) (h : k ≤ b) :
    Calls Try.prog 85 #[.agg #[.int .u64 b, .int .u64 n], .pointer (some ⟨p, 0, none⟩)] W fun e w' => e = .returned (.tuple #[.agg #[.int .u64 ((b - k : Nat) : Int), .int .u64 n], .int .i64 0]) ∧ Below W.heap.size W w' := by
  have hc : ((b - k : Nat) : Int) = (b : Int) - k := by omega
  rw [hc]
  clear hc
  go_enter Try.func85, Try.ntmps85
  go_wp2
  exact bodyPost_ret (v := .tuple #[.agg #[.int .u64 ((b : Int) - k), .int .u64 n], .int .i64 0]) (by simp [results, Try.results85, go_sem]) rfl ⟨rfl, (((Below.refl _ _).alloc (Nat.le_refl _) _).alloc (by simp) _)⟩

set_option maxRecDepth 100000 in
set_option maxHeartbeats 1000000 in
theorem sub1_low {W : World} {p b n k : Nat} (hp : W.cell? ⟨p, 0, none⟩ = some (.int .u64 k)) (hl : p < W.heap.size) (h : b < k) :
    Calls Try.prog 85 #[.agg #[.int .u64 b, .int .u64 n], .pointer (some ⟨p, 0, none⟩)] W fun e w' => e = .returned (.tuple #[.agg #[.int .u64 b, .int .u64 n], .int .i64 210]) ∧ Below W.heap.size W w' := by
  go_enter Try.func85, Try.ntmps85
  go_wp2
  exact bodyPost_ret (v := .tuple #[.agg #[.int .u64 b, .int .u64 n], .int .i64 210]) (by simp [results, Try.results85, go_sem]) rfl ⟨rfl, (((Below.refl _ _).alloc (Nat.le_refl _) _).alloc (by simp) _)⟩

set_option maxRecDepth 100000 in
set_option maxHeartbeats 1000000 in
theorem bump1_ok {W : World} {b n : Nat} (h : n < 18446744073709551615) :
    Calls Try.prog 86 #[.agg #[.int .u64 b, .int .u64 n]] W fun e w' => e = .returned (.tuple #[.agg #[.int .u64 b, .int .u64 ((n + 1 : Nat) : Int)], .int .i64 0]) ∧ Below W.heap.size W w' := by
  have hc : ((n + 1 : Nat) : Int) = (n : Int) + 1 := by omega
  rw [hc]
  clear hc
  go_enter Try.func86, Try.ntmps86
  go_wp2
  exact bodyPost_ret (v := .tuple #[.agg #[.int .u64 b, .int .u64 ((n : Int) + 1)], .int .i64 0]) (by simp [results, Try.results86, go_sem]) rfl ⟨rfl, (((Below.refl _ _).alloc (Nat.le_refl _) _).alloc (by simp) _)⟩

set_option maxRecDepth 100000 in
set_option maxHeartbeats 1000000 in
theorem bump1_over {W : World} {b : Nat} :
    Calls Try.prog 86 #[.agg #[.int .u64 b, .int .u64 18446744073709551615]] W fun e w' => e = .returned (.tuple #[.agg #[.int .u64 b, .int .u64 0], .int .i64 211]) ∧ Below W.heap.size W w' := by
  have hw : IntKind.u64.wrap 18446744073709551616 = 0 := by decide
  go_enter Try.func86, Try.ntmps86
  go_wp2
  exact bodyPost_ret (v := .tuple #[.agg #[.int .u64 b, .int .u64 0], .int .i64 211]) (by simp [results, Try.results86, go_sem]) rfl ⟨rfl, (((Below.refl _ _).alloc (Nat.le_refl _) _).alloc (by simp) _)⟩
end Go.Proofs.Yteeghdkejnhjnaa.Ac
