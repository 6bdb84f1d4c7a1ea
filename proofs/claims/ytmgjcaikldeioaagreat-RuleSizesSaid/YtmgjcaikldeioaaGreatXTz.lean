/- The opcodes' functions: Sig's closure; body's result. -/
import Derived.Test.YtmgjcaikldeioaaGreatXTy
namespace Go.Proofs.YtmgjcaikldeioaaGreat.Ty
open Go Go.RowKit Go.Lib Kt Fm Gr

theorem w2u8 (a : Nat) : IntKind.u8.wrap (a : Int) = ((UInt8.ofNat a).toNat : Int) := by
 rw [IntKind.wrap_u8, UInt8.toNat_ofNat']
 omega
set_option maxRecDepth 100000 in
set_option maxHeartbeats 4000000 in
theorem sig1_any {W : World} (b : Bool) : Calls Tryz.prog 130 #[.bool b] W fun e w' => e = .returned (.int .u8 (tyOf' b).toNat) ∧ w' = W := by
 cases b
 ·go_enter Tryz.func130, Tryz.ntmps130
  go_wp2_with fail
  go_ret
  exact ⟨rfl, rfl⟩
 ·go_enter Tryz.func130, Tryz.ntmps130
  go_wp2_with fail
  go_ret
  exact ⟨rfl, rfl⟩
set_option maxRecDepth 100000 in
set_option maxHeartbeats 4000000 in
theorem result_any {W : World} (a : Nat) : Calls Tryz.prog 117 #[.int .u32 a] W fun e w' => ∃ v, e = .returned v ∧ Sl w' 1 u8c v (resT a) ∧ Below W.heap.size W w' := by
 by_cases h : a % 256 = 64
 ·have hw : IntKind.u8.wrap (a : Int) = 64 := by rw [IntKind.wrap_u8]; omega
  go_enter Tryz.func117, Tryz.ntmps117
  go_wp2_with fail
  go_ret
  exact ⟨_, rfl, by rw [resT, if_pos h]; exact Sl.nil _ _ _ _, Below.refl _ _⟩
 ·have hw : IntKind.u8.wrap (a : Int) = ((UInt8.ofNat a).toNat : Int) := w2u8 a
  have hn : ¬ ((UInt8.ofNat a).toNat : Int) = 64 := by rw [UInt8.toNat_ofNat']; omega
  go_enter Tryz.func117, Tryz.ntmps117
  go_wp2_with fail
  go_ret
  have e : ((a : Int) % 256) = ((UInt8.ofNat a).toNat : Int) := by rw [UInt8.toNat_ofNat']; omega
  refine ⟨_, rfl, ?_, (Below.refl _ _).alloc (Nat.le_refl _) _⟩
  rw [resT, if_neg h, e]
  exact sl_one (Lies.new W _ _)
end Go.Proofs.YtmgjcaikldeioaaGreat.Ty
