/- The walks of the functions on an address's number, of the stirring and of what is derived: the program's and the document's. -/
import Derived.Test.YtldeialjonanmaaDoorAdP
import Derived.Test.YtldeialjonanmaaDoorKit
namespace Go.Proofs.YtldeialjonanmaaDoor.Ad
open Go Go.RowKit Kt

theorem stir_form (x : Nat) (h : x < 18446744073709551616) :
    bits .xor .u64 (IntKind.u64.wrap (bits .xor .u64 (IntKind.u64.wrap (bits .xor .u64 (x : Int) ((x : Int) / 1073741824) * 13787848793156543929)) (IntKind.u64.wrap (bits .xor .u64 (x : Int) ((x : Int) / 1073741824) * 13787848793156543929) / 134217728) * 10723151780598845931))
      (IntKind.u64.wrap (bits .xor .u64 (IntKind.u64.wrap (bits .xor .u64 (x : Int) ((x : Int) / 1073741824) * 13787848793156543929)) (IntKind.u64.wrap (bits .xor .u64 (x : Int) ((x : Int) / 1073741824) * 13787848793156543929) / 134217728) * 10723151780598845931) / 2147483648) = (stir x : Nat) := by
  have e1 : IntKind.u64.wrap (bits .xor .u64 (x : Int) ((x : Int) / 1073741824) * 13787848793156543929) = ((mix x 1073741824 13787848793156543929 : Nat) : Int) := mixStep_u64 x 1073741824 13787848793156543929 h
  rw [e1]
  have e2 : IntKind.u64.wrap (bits .xor .u64 ((mix x 1073741824 13787848793156543929 : Nat) : Int) (((mix x 1073741824 13787848793156543929 : Nat) : Int) / 134217728) * 10723151780598845931) = ((mix (mix x 1073741824 13787848793156543929) 134217728 10723151780598845931 : Nat) : Int) :=
    mixStep_u64 _ 134217728 10723151780598845931 (mix_lt _ _ _)
  rw [e2]
  exact xorShift_u64 _ 2147483648 (mix_lt _ _ _)

theorem stir_any (x : Nat) (w : World) (h1 : x < 18446744073709551616) :
    Calls Tryd.prog 18 #[.int .u64 x] w fun e w' => e = .returned (.int .u64 (stir x : Nat)) ∧ w = w' := by
  have HF := Lib.hid (stir_form x h1)
  go_enter Tryd.func18, Tryd.ntmps18
  go_wp2
  go_ret
  exact ⟨ret_int HF.out, rfl⟩

theorem or0 (c : Nat) (hc : c < 256) : bits .or .u64 0 (c : Int) = (c : Nat) := by
  have := or_byte 0 c (by decide) hc
  simpa using this
theorem or_step (n c : Nat) (hn : n < 72057594037927936) (hc : c < 256) : bits .or .u64 (IntKind.u64.wrap ((n : Int) * 256)) (c : Int) = ((n * 256 + c : Nat) : Int) := by
  have : IntKind.u64.wrap ((n : Int) * 256) = (n : Int) * 256 := by rw [IntKind.wrap_u64]; omega
  rw [this, or_byte n c (by omega) hc]

theorem number_form (a : A8) :
    bits .or .u64 (IntKind.u64.wrap (bits .or .u64 (IntKind.u64.wrap (bits .or .u64 (IntKind.u64.wrap (bits .or .u64 (IntKind.u64.wrap (bits .or .u64 (IntKind.u64.wrap (bits .or .u64 (IntKind.u64.wrap (bits .or .u64 (IntKind.u64.wrap (bits .or .u64 0 (a.x0.toNat : Int) * 256)) (a.x1.toNat : Int) * 256)) (a.x2.toNat : Int) * 256)) (a.x3.toNat : Int) * 256)) (a.x4.toNat : Int) * 256)) (a.x5.toNat : Int) * 256)) (a.x6.toNat : Int) * 256)) (a.x7.toNat : Int) = (a.num : Int) := by
  have := u8_lt a.x0; have := u8_lt a.x1; have := u8_lt a.x2; have := u8_lt a.x3
  have := u8_lt a.x4; have := u8_lt a.x5; have := u8_lt a.x6; have := u8_lt a.x7
  rw [or0 _ (by omega), or_step _ _ (by omega) (by omega), or_step _ _ (by omega) (by omega), or_step _ _ (by omega) (by omega), or_step _ _ (by omega) (by omega), or_step _ _ (by omega) (by omega), or_step _ _ (by omega) (by omega), or_step _ _ (by omega) (by omega)]
  rfl

set_option maxHeartbeats 1000000 in
theorem number_any (a : A8) (w : World) :
    Calls Tryd.prog 19 #[a.v] w fun e w' => e = .returned (.int .u64 (a.num : Nat)) ∧ Below w.heap.size w w' := by
  have HF := Lib.hid (number_form a)
  obtain ⟨x0, x1, x2, x3, x4, x5, x6, x7⟩ := a
  have h0 := u8_lt x0; have h1 := u8_lt x1; have h2 := u8_lt x2; have h3 := u8_lt x3
  have h4 := u8_lt x4; have h5 := u8_lt x5; have h6 := u8_lt x6; have h7 := u8_lt x7
  simp only [A8.v]
  go_enter Tryd.func19, Tryd.ntmps19
  go_wp2
  refine wp_loop_rounds 9 ?_
  iterate 9 (rw [rounds_succ]; go_wp2)
  go_ret
  exact ⟨ret_int HF.out, (Below.refl _ _).alloc (Nat.le_refl _) _⟩
end Go.Proofs.YtldeialjonanmaaDoor.Ad
