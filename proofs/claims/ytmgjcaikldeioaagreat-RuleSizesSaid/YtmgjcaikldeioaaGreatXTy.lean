/- The opcodes' functions: Width, Form. -/
import Derived.Test.YtmgjcaikldeioaaGreatXTx
namespace Go.Proofs.YtmgjcaikldeioaaGreat.Ty
open Go Go.RowKit Go.Lib Kt Fm Gr

theorem u8_eq {op : UInt8} (n : Nat) (hn : n < 256) : (op = UInt8.ofNat n) = (((op.toNat : Int) == (n : Int)) = true) := by
 rw [eq_iff_iff, beq_iff_eq, ← UInt8.toNat_inj, UInt8.toNat_ofNat', Nat.mod_eq_of_lt (by omega)]
 omega
theorem widthN_if (op : UInt8) : widthN op = (if ((op.toNat : Int) == 44) = true ∨ ((op.toNat : Int) == 45) = true ∨ ((op.toNat : Int) == 48) = true ∨ ((op.toNat : Int) == 49) = true ∨ ((op.toNat : Int) == 58) = true ∨ ((op.toNat : Int) == 60) = true then 1 else if ((op.toNat : Int) == 46) = true ∨ ((op.toNat : Int) == 47) = true ∨ ((op.toNat : Int) == 50) = true ∨ ((op.toNat : Int) == 51) = true ∨ ((op.toNat : Int) == 59) = true ∨ ((op.toNat : Int) == 61) = true then 2 else if ((op.toNat : Int) == 40) = true ∨ ((op.toNat : Int) == 52) = true ∨ ((op.toNat : Int) == 53) = true ∨ ((op.toNat : Int) == 54) = true ∨ ((op.toNat : Int) == 62) = true then 4 else if ((op.toNat : Int) == 41) = true ∨ ((op.toNat : Int) == 55) = true then 8 else 0) := by
 have e40 : (op = 40) = (((op.toNat : Int) == 40) = true) := u8_eq 40 (by decide)
 have e41 : (op = 41) = (((op.toNat : Int) == 41) = true) := u8_eq 41 (by decide)
 have e44 : (op = 44) = (((op.toNat : Int) == 44) = true) := u8_eq 44 (by decide)
 have e45 : (op = 45) = (((op.toNat : Int) == 45) = true) := u8_eq 45 (by decide)
 have e46 : (op = 46) = (((op.toNat : Int) == 46) = true) := u8_eq 46 (by decide)
 have e47 : (op = 47) = (((op.toNat : Int) == 47) = true) := u8_eq 47 (by decide)
 have e48 : (op = 48) = (((op.toNat : Int) == 48) = true) := u8_eq 48 (by decide)
 have e49 : (op = 49) = (((op.toNat : Int) == 49) = true) := u8_eq 49 (by decide)
 have e50 : (op = 50) = (((op.toNat : Int) == 50) = true) := u8_eq 50 (by decide)
 have e51 : (op = 51) = (((op.toNat : Int) == 51) = true) := u8_eq 51 (by decide)
 have e52 : (op = 52) = (((op.toNat : Int) == 52) = true) := u8_eq 52 (by decide)
 have e53 : (op = 53) = (((op.toNat : Int) == 53) = true) := u8_eq 53 (by decide)
 have e54 : (op = 54) = (((op.toNat : Int) == 54) = true) := u8_eq 54 (by decide)
 have e55 : (op = 55) = (((op.toNat : Int) == 55) = true) := u8_eq 55 (by decide)
 have e58 : (op = 58) = (((op.toNat : Int) == 58) = true) := u8_eq 58 (by decide)
 have e59 : (op = 59) = (((op.toNat : Int) == 59) = true) := u8_eq 59 (by decide)
 have e60 : (op = 60) = (((op.toNat : Int) == 60) = true) := u8_eq 60 (by decide)
 have e61 : (op = 61) = (((op.toNat : Int) == 61) = true) := u8_eq 61 (by decide)
 have e62 : (op = 62) = (((op.toNat : Int) == 62) = true) := u8_eq 62 (by decide)
 unfold widthN
 simp only [List.mem_cons, List.not_mem_nil, or_false, e40, e41, e44, e45, e46, e47, e48, e49, e50, e51, e52, e53, e54, e55, e58, e59, e60, e61, e62]
set_option maxRecDepth 100000 in
set_option maxHeartbeats 4000000 in
theorem width_any {W : World} (op : UInt8) : Calls Tryz.prog 125 #[.int .u8 op.toNat] W fun e w' => e = .returned (.int .i64 (widthN op)) ∧ w' = W := by
 have HF := zh (widthN_if op)
 go_enter Tryz.func125, Tryz.ntmps125
 go_wp2_with fail
 all_goals (go_ret; exact ⟨by rw [HF.out]; simp [*], rfl⟩)
theorem formN_if (op : UInt8) : formN op = (if knownB op = false then 0 else if inI op 2 4 = true then 1 else if ((op.toNat : Int) == 12) = true ∨ ((op.toNat : Int) == 13) = true then 2 else if ((op.toNat : Int) == 14) = true then 3 else if ((op.toNat : Int) == 16) = true ∨ inI op 32 36 = true then 4 else if ((op.toNat : Int) == 17) = true then 5 else if inI op 40 62 = true then 6 else if ((op.toNat : Int) == 63) = true ∨ ((op.toNat : Int) == 64) = true then 7 else if ((op.toNat : Int) == 65) = true then 8 else if ((op.toNat : Int) == 66) = true then 9 else 0) := by
 have e12 : (op = 12) = (((op.toNat : Int) == 12) = true) := u8_eq 12 (by decide)
 have e13 : (op = 13) = (((op.toNat : Int) == 13) = true) := u8_eq 13 (by decide)
 have e14 : (op = 14) = (((op.toNat : Int) == 14) = true) := u8_eq 14 (by decide)
 have e16 : (op = 16) = (((op.toNat : Int) == 16) = true) := u8_eq 16 (by decide)
 have e17 : (op = 17) = (((op.toNat : Int) == 17) = true) := u8_eq 17 (by decide)
 have e63 : (op = 63) = (((op.toNat : Int) == 63) = true) := u8_eq 63 (by decide)
 have e64 : (op = 64) = (((op.toNat : Int) == 64) = true) := u8_eq 64 (by decide)
 have e65 : (op = 65) = (((op.toNat : Int) == 65) = true) := u8_eq 65 (by decide)
 have e66 : (op = 66) = (((op.toNat : Int) == 66) = true) := u8_eq 66 (by decide)
 have i2 : inB op 2 4 = inI op 2 4 := (inI_eq op 2 4).symm
 have i32 : inB op 32 36 = inI op 32 36 := (inI_eq op 32 36).symm
 have i40 : inB op 40 62 = inI op 40 62 := (inI_eq op 40 62).symm
 unfold formN
 simp only [e12, e13, e14, e16, e17, e63, e64, e65, e66, i2, i32, i40]
set_option maxRecDepth 100000 in
set_option maxHeartbeats 4000000 in
theorem form_any {W : World} (op : UInt8) : Calls Tryz.prog 112 #[.int .u8 op.toNat] W fun e w' => e = .returned (.int .u8 (formN op).toNat) ∧ w' = W := by
 have HF := zh (formN_if op)
 go_enter Tryz.func112, Tryz.ntmps112
 go_wp2_with (first | (go_at_call 111; refine (known_any op).mono ?_; rintro en wx ⟨rfl, rfl⟩) | (go_at_call 129; refine (in_any op _ _).mono ?_; rintro en wx ⟨rfl, rfl⟩))
 all_goals (go_ret; exact ⟨by rw [HF.out]; clear HF; simp_all, rfl⟩)
end Go.Proofs.YtmgjcaikldeioaaGreat.Ty
