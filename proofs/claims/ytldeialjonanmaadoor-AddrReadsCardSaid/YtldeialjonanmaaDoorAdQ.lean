/- The walks of the document's functions on addresses: Number, right, Stir, half. -/
import Derived.Test.YtldeialjonanmaaDoorAdD
import Derived.Test.YtldeialjonanmaaDoorAdR
namespace Go.Proofs.YtldeialjonanmaaDoor.Ad
open Go Go.RowKit Kt

set_option maxHeartbeats 1000000 in
theorem rnumber_any (a : A8) (w : World) :
    Calls Tryd.prog 14 #[a.v] w fun e w' => e = .returned (.int .u64 (a.num : Nat)) ∧ Below w.heap.size w w' := by
  obtain ⟨x0, x1, x2, x3, x4, x5, x6, x7⟩ := a
  have h0 := u8_lt x0; have h1 := u8_lt x1; have h2 := u8_lt x2; have h3 := u8_lt x3
  have h4 := u8_lt x4; have h5 := u8_lt x5; have h6 := u8_lt x6; have h7 := u8_lt x7
  simp only [A8.v]
  go_enter Tryd.func14, Tryd.ntmps14
  go_wp2
  refine wp_loop_rounds 9 ?_
  iterate 9 (rw [rounds_succ]; go_wp2)
  go_ret
  exact ⟨ret_int (by simp only [A8.num]; omega), (Below.refl _ _).alloc (Nat.le_refl _) _⟩

theorem right_any (x n : Nat) (w : World) (hx : x < 18446744073709551616) (hn : n ≤ 64) :
    Calls Tryd.prog 28 #[.int .u64 x, .int .i64 n] w fun e w' => e = .returned (.int .u64 (x / 2 ^ n : Nat)) ∧ w = w' := by
  go_enter Tryd.func28, Tryd.ntmps28
  go_wp2
  go_loop [0, 5] (fun v i => ∃ k : Nat, k ≤ n ∧ i = .int .i64 k ∧ v = .int .u64 (x / 2 ^ k : Nat)) (fun _ i => n - (intOf i).toNat)
  case atStart => exact ⟨0, Nat.zero_le _, rfl, by simp⟩
  case round =>
    obtain ⟨k, hk, rfl, rfl⟩ := hrel
    have hb : x / 2 ^ k < 18446744073709551616 := Nat.lt_of_le_of_lt (Nat.div_le_self _ _) hx
    have HS := Lib.hid (show x / 2 ^ (k + 1) = x / 2 ^ k / 2 by rw [Nat.pow_succ, Nat.div_div_eq_div_mul])
    generalize hy : x / 2 ^ k = y at *
    have HY := Lib.hid hy
    clear hy
    by_cases hlt : k < n
    · go_wp2
      go_round
      case rel => exact ⟨k + 1, by omega, by go_num, by rw [HS.out]; rfl⟩
      case measure => simp [intOf]; omega
    · obtain rfl : k = n := by omega
      go_wp2
      go_ret
      exact ⟨ret_int (by rw [← HY.out]; simp), rfl⟩

theorem right30 (x : Nat) (w : World) (hx : x < 18446744073709551616) :
    Calls Tryd.prog 28 #[.int .u64 x, .int .i64 30] w fun e w' => e = .returned (.int .u64 (x / 1073741824 : Nat)) ∧ w = w' := right_any x 30 w hx (by decide)
theorem right27 (x : Nat) (w : World) (hx : x < 18446744073709551616) :
    Calls Tryd.prog 28 #[.int .u64 x, .int .i64 27] w fun e w' => e = .returned (.int .u64 (x / 134217728 : Nat)) ∧ w = w' := right_any x 27 w hx (by decide)
theorem right31 (x : Nat) (w : World) (hx : x < 18446744073709551616) :
    Calls Tryd.prog 28 #[.int .u64 x, .int .i64 31] w fun e w' => e = .returned (.int .u64 (x / 2147483648 : Nat)) ∧ w = w' := right_any x 31 w hx (by decide)

theorem mul_wrap (a c : Nat) : IntKind.u64.wrap ((a : Int) * (c : Int)) = ((a * c % 18446744073709551616 : Nat) : Int) := by rw [IntKind.wrap_u64]; simp

theorem rstir_any (x : Nat) (w : World) (hx : x < 18446744073709551616) :
    Calls Tryd.prog 20 #[.int .u64 x] w fun e w' => e = .returned (.int .u64 (stir x : Nat)) ∧ w = w' := by
  obtain ⟨v1, h1⟩ : ∃ v1, v1 = mix x 1073741824 13787848793156543929 := ⟨_, rfl⟩
  obtain ⟨v2, h2⟩ : ∃ v2, v2 = mix v1 134217728 10723151780598845931 := ⟨_, rfl⟩
  have l1 : v1 < 18446744073709551616 := h1 ▸ mix_lt _ _ _
  have l2 : v2 < 18446744073709551616 := h2 ▸ mix_lt _ _ _
  have hst : stir x = v2 ^^^ v2 / 2147483648 := by subst h2; subst h1; rfl
  have e1 : IntKind.u64.wrap (bits .xor .u64 (x : Int) ((x : Int) / 1073741824) * 13787848793156543929) = (v1 : Int) := h1 ▸ mixStep_u64 x 1073741824 13787848793156543929 hx
  have e2 : IntKind.u64.wrap (bits .xor .u64 (v1 : Int) ((v1 : Int) / 134217728) * 10723151780598845931) = (v2 : Int) := h2 ▸ mixStep_u64 v1 134217728 10723151780598845931 l1
  have e3 : bits .xor .u64 (v2 : Int) ((v2 : Int) / 2147483648) = (stir x : Nat) := hst ▸ xorShift_u64 v2 2147483648 l2
  have H1 := Lib.hid e1
  have H2 := Lib.hid e2
  have H3 := Lib.hid e3
  clear e1 e2 e3 h1 h2 hst
  go_enter Tryd.func20, Tryd.ntmps20
  go_wp2_with fail
  refine (right30 _ _ hx).mono ?_
  rintro e w' ⟨rfl, rfl⟩
  go_wp2_with fail
  rw [H1.out]
  refine (right27 _ _ l1).mono ?_
  rintro e w' ⟨rfl, rfl⟩
  go_wp2_with fail
  rw [H2.out]
  refine (right31 _ _ l2).mono ?_
  rintro e w' ⟨rfl, rfl⟩
  go_wp2_with fail
  go_ret
  exact ⟨ret_int H3.out, rfl⟩

theorem half_hex (c : UInt8) (w : World) (h : isHex c = true) :
    Calls Tryd.prog 24 #[.int .u8 c.toNat] w fun e w' => e = .returned (.int .i64 (hexN c : Nat)) ∧ w' = w := by
  have h1 : (48 ≤ c.toNat ∧ c.toNat ≤ 57 ∧ hexN c = c.toNat - 48) ∨ (97 ≤ c.toNat ∧ c.toNat ≤ 102 ∧ hexN c = c.toNat - 87) := by
    simp only [isHex, hexN, Bool.or_eq_true, Bool.and_eq_true, decide_eq_true_eq, UInt8.le_iff_toNat_le, UInt8.reduceToNat] at h ⊢
    rcases h with h | h
    · exact .inl ⟨h.1, h.2, by rw [if_pos h.2]⟩
    · exact .inr ⟨h.1, h.2, by rw [if_neg (by omega)]⟩
  generalize hexN c = n at *
  generalize c.toNat = x at *
  rcases h1 with ⟨a, b, rfl⟩ | ⟨a, b, rfl⟩
  · go_enter Tryd.func24, Tryd.ntmps24
    go_wp2
    go_ret
    exact ⟨ret_int (by omega), rfl⟩
  · have a' : ¬ x ≤ 57 := by omega
    go_enter Tryd.func24, Tryd.ntmps24
    go_wp2
    go_ret
    exact ⟨ret_int (by omega), rfl⟩
theorem half_not (c : UInt8) (w : World) (h : isHex c = false) :
    Calls Tryd.prog 24 #[.int .u8 c.toNat] w fun e w' => e = .returned (.int .i64 (-1)) ∧ w' = w := by
  have h1 : (c.toNat < 48) ∨ (57 < c.toNat ∧ c.toNat < 97) ∨ (102 < c.toNat) := by
    simp only [isHex, Bool.or_eq_false_iff, Bool.and_eq_false_iff, decide_eq_false_iff_not, UInt8.le_iff_toNat_le, UInt8.reduceToNat] at h
    omega
  generalize c.toNat = x at *
  rcases h1 with a | ⟨a, b⟩ | a
  · have a1 : ¬ 48 ≤ x := by omega
    have a2 : ¬ 97 ≤ x := by omega
    go_enter Tryd.func24, Tryd.ntmps24
    go_wp2
    all_goals go_ret
    all_goals exact ⟨rfl, rfl⟩
  · have a1 : 48 ≤ x := by omega
    have a3 : ¬ x ≤ 57 := by omega
    have a2 : ¬ 97 ≤ x := by omega
    go_enter Tryd.func24, Tryd.ntmps24
    go_wp2
    all_goals go_ret
    all_goals exact ⟨rfl, rfl⟩
  · have a1 : 48 ≤ x := by omega
    have a3 : ¬ x ≤ 57 := by omega
    have a2 : 97 ≤ x := by omega
    have a4 : ¬ x ≤ 102 := by omega
    go_enter Tryd.func24, Tryd.ntmps24
    go_wp2
    all_goals go_ret
    all_goals exact ⟨rfl, rfl⟩
end Go.Proofs.YtldeialjonanmaaDoor.Ad
