/- A body's checker: which function an opcode has; each does its step. -/
import Derived.Test.YtmgjcaikldeioaaGreatXUn
namespace Go.Proofs.YtmgjcaikldeioaaGreat.Ty
open Go Go.RowKit Go.Lib Kt Fm Gr

/-- The function of an opcode. -/
def ofF (op : UInt8) : Nat :=
 if op = 2 ∨ op = 3 ∨ op = 4 then 91 else
 if op = 5 then 92 else
 if op = 11 then 93 else
 if op = 12 ∨ op = 13 then 94 else
 if op = 14 then 95 else
 if op = 15 ∨ op = 0 then 96 else
 if op = 16 then 97 else
 if op = 17 then 98 else
 if op = 26 then 99 else
 if op = 27 then 100 else
 if op = 32 ∨ op = 33 ∨ op = 34 then 101 else
 if op = 35 ∨ op = 36 then 102 else
 103
set_option maxRecDepth 100000 in
set_option maxHeartbeats 8000000 in
theorem of_any {W : World} {kb : Nat} (op : UInt8) : Calls Tryz.prog 68 #[.pointer (some ⟨kb, 0, none⟩), .int .u8 op.toNat] W fun e w' => e = .returned (.func (.func (ofF op)) #[.pointer (some ⟨kb, 0, none⟩)] #[]) ∧ w' = W := by
 have e0 : (op = 0) = (((op.toNat : Int) == 0) = true) := u8_eq 0 (by decide)
 have e2 : (op = 2) = (((op.toNat : Int) == 2) = true) := u8_eq 2 (by decide)
 have e3 : (op = 3) = (((op.toNat : Int) == 3) = true) := u8_eq 3 (by decide)
 have e4 : (op = 4) = (((op.toNat : Int) == 4) = true) := u8_eq 4 (by decide)
 have e5 : (op = 5) = (((op.toNat : Int) == 5) = true) := u8_eq 5 (by decide)
 have e11 : (op = 11) = (((op.toNat : Int) == 11) = true) := u8_eq 11 (by decide)
 have e12 : (op = 12) = (((op.toNat : Int) == 12) = true) := u8_eq 12 (by decide)
 have e13 : (op = 13) = (((op.toNat : Int) == 13) = true) := u8_eq 13 (by decide)
 have e14 : (op = 14) = (((op.toNat : Int) == 14) = true) := u8_eq 14 (by decide)
 have e15 : (op = 15) = (((op.toNat : Int) == 15) = true) := u8_eq 15 (by decide)
 have e16 : (op = 16) = (((op.toNat : Int) == 16) = true) := u8_eq 16 (by decide)
 have e17 : (op = 17) = (((op.toNat : Int) == 17) = true) := u8_eq 17 (by decide)
 have e26 : (op = 26) = (((op.toNat : Int) == 26) = true) := u8_eq 26 (by decide)
 have e27 : (op = 27) = (((op.toNat : Int) == 27) = true) := u8_eq 27 (by decide)
 have e32 : (op = 32) = (((op.toNat : Int) == 32) = true) := u8_eq 32 (by decide)
 have e33 : (op = 33) = (((op.toNat : Int) == 33) = true) := u8_eq 33 (by decide)
 have e34 : (op = 34) = (((op.toNat : Int) == 34) = true) := u8_eq 34 (by decide)
 have e35 : (op = 35) = (((op.toNat : Int) == 35) = true) := u8_eq 35 (by decide)
 have e36 : (op = 36) = (((op.toNat : Int) == 36) = true) := u8_eq 36 (by decide)
 have HF := zh (show ofF op = _ from rfl)
 have HE := zh (show ofF op = (if ((op.toNat : Int) == 2) = true ∨ ((op.toNat : Int) == 3) = true ∨ ((op.toNat : Int) == 4) = true then 91 else if ((op.toNat : Int) == 5) = true then 92 else if ((op.toNat : Int) == 11) = true then 93 else if ((op.toNat : Int) == 12) = true ∨ ((op.toNat : Int) == 13) = true then 94 else if ((op.toNat : Int) == 14) = true then 95 else if ((op.toNat : Int) == 15) = true ∨ ((op.toNat : Int) == 0) = true then 96 else if ((op.toNat : Int) == 16) = true then 97 else if ((op.toNat : Int) == 17) = true then 98 else if ((op.toNat : Int) == 26) = true then 99 else if ((op.toNat : Int) == 27) = true then 100 else if ((op.toNat : Int) == 32) = true ∨ ((op.toNat : Int) == 33) = true ∨ ((op.toNat : Int) == 34) = true then 101 else if ((op.toNat : Int) == 35) = true ∨ ((op.toNat : Int) == 36) = true then 102 else 103) from by unfold ofF; simp only [e0, e2, e3, e4, e5, e11, e12, e13, e14, e15, e16, e17, e26, e27, e32, e33, e34, e35, e36])
 clear e0 e2 e3 e4 e5 e11 e12 e13 e14 e15 e16 e17 e26 e27 e32 e33 e34 e35 e36 HF
 go_enter Tryz.func68, Tryz.ntmps68
 go_wp2_with fail
 all_goals (go_ret; exact ⟨by rw [HE.out]; clear HE; simp_all, rfl⟩)
theorem ofF_cases (op : UInt8) : ofF op = 91 ∨ ofF op = 92 ∨ ofF op = 93 ∨ ofF op = 94 ∨ ofF op = 95 ∨ ofF op = 96 ∨ ofF op = 97 ∨ ofF op = 98 ∨ ofF op = 99 ∨ ofF op = 100 ∨ ofF op = 101 ∨ ofF op = 102 ∨ ofF op = 103 := by
 unfold ofF
 repeat' split
 all_goals simp
/-- A step's call. -/
theorem call_of {W0 w : World} {S0 kb sb : Nat} {fn : Ft} {c : Cod} {lv fv ov : Value} {FV : List Fv} {s : St} {x : Ins} {m : Mod} {GS : List Gt} {BS MS : List Lim} (h : Ck W0 w S0 fn c kb sb lv fv ov FV s) (hs : Sm s) (hx : InsOk W0 x) (hsp : SpG W0 S0 m GS BS MS) (hm : ModOk W0 m) (hfn : FtOk W0 fn) (hc : CodOk W0 c) (hfi : Fine s) (hmk : mark s.o x.op ≠ none) :
  Calls Tryz.prog (ofF x.op) #[.pointer (some ⟨kb, 0, none⟩), .agg x.cs.toArray] w fun e w' => StepSays W0 S0 fn c kb sb w' e (step ⟨spcOf m GS BS MS, fn, c⟩ s x) := by
 unfold ofF step
 by_cases o_block : x.op = 2 ∨ x.op = 3 ∨ x.op = 4
 ·rw [if_pos o_block, if_pos o_block]
  exact block_any h hs hx hfi.deep
 rw [if_neg o_block, if_neg o_block]
 by_cases o_middle : x.op = 5
 ·rw [if_pos o_middle, if_pos o_middle]
  have hne : s.o ≠ [] := fun e => hmk (by rw [o_middle, e]; rfl)
  exact middle_any h hs hx hne hfi.deep
 rw [if_neg o_middle, if_neg o_middle]
 by_cases o_end : x.op = 11
 ·rw [if_pos o_end, if_pos o_end]
  have hne : s.o ≠ [] := fun e => hmk (by rw [o_end, e]; rfl)
  exact end_any h hs hx hne hfi.deep
 rw [if_neg o_end, if_neg o_end]
 by_cases o_branch : x.op = 12 ∨ x.op = 13
 ·rw [if_pos o_branch, if_pos o_branch]
  exact branch_any h hs hx
 rw [if_neg o_branch, if_neg o_branch]
 by_cases o_table : x.op = 14
 ·rw [if_pos o_table, if_pos o_table]
  exact table_any' h hs hx
 rw [if_neg o_table, if_neg o_table]
 by_cases o_leave : x.op = 15 ∨ x.op = 0
 ·rw [if_pos o_leave, if_pos o_leave]
  exact leave_any h hs hx hfn
 rw [if_neg o_leave, if_neg o_leave]
 by_cases o_call : x.op = 16
 ·rw [if_pos o_call, if_pos o_call]
  exact call_any h hs hx hsp hm
 rw [if_neg o_call, if_neg o_call]
 by_cases o_indirect : x.op = 17
 ·rw [if_pos o_indirect, if_pos o_indirect]
  exact indirect_any h hs hx hsp hm
 rw [if_neg o_indirect, if_neg o_indirect]
 by_cases o_drop : x.op = 26
 ·rw [if_pos o_drop, if_pos o_drop]
  exact drop_any h hs hx
 rw [if_neg o_drop, if_neg o_drop]
 by_cases o_choose : x.op = 27
 ·rw [if_pos o_choose, if_pos o_choose]
  exact choose_any h hs hx
 rw [if_neg o_choose, if_neg o_choose]
 by_cases o_local : x.op = 32 ∨ x.op = 33 ∨ x.op = 34
 ·rw [if_pos o_local, if_pos o_local]
  exact local_any h hs hx hfn hc
 rw [if_neg o_local, if_neg o_local]
 by_cases o_global : x.op = 35 ∨ x.op = 36
 ·rw [if_pos o_global, if_pos o_global]
  exact global_any h hs hx hsp
 rw [if_neg o_global, if_neg o_global]
 exact plain_any h hs hx hsp
end Go.Proofs.YtmgjcaikldeioaaGreat.Ty
