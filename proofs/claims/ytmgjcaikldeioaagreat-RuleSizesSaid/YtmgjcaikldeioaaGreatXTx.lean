/- The opcodes' functions: in, Float, Known, wide. -/
import Derived.Test.YtmgjcaikldeioaaGreatXTw
import Derived.Test.YtmgjcaikldeioaaGreatXTq
namespace Go.Proofs.YtmgjcaikldeioaaGreat.Ty
open Go Go.RowKit Go.Lib Kt Fm Gr

def inI (op : UInt8) (a b : Int) : Bool := decide (a ≤ (op.toNat : Int)) && decide ((op.toNat : Int) ≤ b)
theorem inI_eq (op : UInt8) (a b : Nat) : inI op a b = inB op a b := by
 unfold inI inB
 rw [decide_eq_decide.2 (Int.ofNat_le (m := a) (n := op.toNat)), decide_eq_decide.2 (Int.ofNat_le (m := op.toNat) (n := b))]
set_option maxRecDepth 100000 in
set_option maxHeartbeats 4000000 in
theorem in_any {W : World} (op : UInt8) (a b : Int) : Calls Tryz.prog 129 #[.int .u8 op.toNat, .int .u8 a, .int .u8 b] W fun e w' => e = .returned (.bool (inI op a b)) ∧ w' = W := by
 by_cases h1 : a ≤ (op.toNat : Int)
 ·by_cases h2 : (op.toNat : Int) ≤ b
  ·go_enter Tryz.func129, Tryz.ntmps129
   go_wp2_with fail
   go_ret
   exact ⟨by simp [inI, h1, h2], rfl⟩
  ·go_enter Tryz.func129, Tryz.ntmps129
   go_wp2_with fail
   go_ret
   exact ⟨by simp [inI, h2], rfl⟩
 ·go_enter Tryz.func129, Tryz.ntmps129
  go_wp2_with fail
  go_ret
  have e : inI op a b = false := by
   unfold inI
   rw [decide_eq_false (Int.not_le.2 h1)]
   rfl
  exact ⟨by rw [e]; rfl, rfl⟩
set_option maxRecDepth 100000 in
set_option maxHeartbeats 4000000 in
theorem float_any {W : World} (op : UInt8) : Calls Tryz.prog 128 #[.int .u8 op.toNat] W fun e w' => e = .returned (.bool (floatB op)) ∧ w' = W := by
 have e0 := inI_eq op 42 43
 have e1 := inI_eq op 56 57
 have e2 := inI_eq op 67 68
 have e3 := inI_eq op 91 102
 have e4 := inI_eq op 139 166
 have e5 := inI_eq op 168 171
 have e6 := inI_eq op 174 191
 have HF : Hid (floatB op = (inI op 42 43 || (inI op 56 57 || (inI op 67 68 || (inI op 91 102 || (inI op 139 166 || (inI op 168 171 || inI op 174 191))))))) := zh (by
  unfold floatB
  rw [← e0, ← e1, ← e2, ← e3, ← e4, ← e5, ← e6]
  rfl)
 clear e0 e1 e2 e3 e4 e5 e6
 go_enter Tryz.func128, Tryz.ntmps128
 go_wp2_with (go_at_call 129; refine (in_any op _ _).mono ?_; rintro en wx ⟨rfl, rfl⟩)
 all_goals (go_ret; exact ⟨by rw [HF.out]; simp [*], rfl⟩)
set_option maxRecDepth 100000 in
set_option maxHeartbeats 4000000 in
theorem known_any {W : World} (op : UInt8) : Calls Tryz.prog 111 #[.int .u8 op.toNat] W fun e w' => e = .returned (.bool (knownB op)) ∧ w' = W := by
 have e0 := inI_eq op 11 17
 have e1 := inI_eq op 26 27
 have e2 := inI_eq op 32 36
 have e3 := inI_eq op 40 173
 have HF : Hid (knownB op = (!floatB op && (decide ((op.toNat : Int) ≤ 5) || (inI op 11 17 || (inI op 26 27 || (inI op 32 36 || inI op 40 173)))))) := zh (by
  unfold knownB
  rw [← e0, ← e1, ← e2, ← e3, ← decide_eq_decide.2 (Int.ofNat_le (m := op.toNat) (n := 5))]
  rfl)
 clear e0 e1 e2 e3
 go_enter Tryz.func111, Tryz.ntmps111
 go_wp2_with (first | (go_at_call 128; refine (float_any op).mono ?_; rintro en wx ⟨rfl, rfl⟩) | (go_at_call 129; refine (in_any op _ _).mono ?_; rintro en wx ⟨rfl, rfl⟩))
 all_goals (go_ret; exact ⟨by rw [HF.out]; simp [*], rfl⟩)
set_option maxRecDepth 100000 in
set_option maxHeartbeats 4000000 in
theorem wide_any {W : World} (op : UInt8) : Calls Tryz.prog 131 #[.int .u8 op.toNat] W fun e w' => e = .returned (.bool (wideB op)) ∧ w' = W := by
 have e0 := inI_eq op 48 53
 have e1 := inI_eq op 60 62
 have b1 : (op == 41) = decide ((op.toNat : Int) = 41) := by
  rw [Bool.eq_iff_iff, beq_iff_eq, decide_eq_true_iff, ← UInt8.toNat_inj]
  show op.toNat = 41 ↔ _
  omega
 have b2 : (op == 55) = decide ((op.toNat : Int) = 55) := by
  rw [Bool.eq_iff_iff, beq_iff_eq, decide_eq_true_iff, ← UInt8.toNat_inj]
  show op.toNat = 55 ↔ _
  omega
 have HF : Hid (wideB op = (decide ((op.toNat : Int) = 41) || (inI op 48 53 || (decide ((op.toNat : Int) = 55) || inI op 60 62)))) := zh (by
  unfold wideB
  rw [← e0, ← e1, b1, b2]
  rfl)
 clear e0 e1 b1 b2
 go_enter Tryz.func131, Tryz.ntmps131
 go_wp2_with (go_at_call 129; refine (in_any op _ _).mono ?_; rintro en wx ⟨rfl, rfl⟩)
 all_goals (go_ret; exact ⟨by rw [HF.out]; simp [*], rfl⟩)
end Go.Proofs.YtmgjcaikldeioaaGreat.Ty
