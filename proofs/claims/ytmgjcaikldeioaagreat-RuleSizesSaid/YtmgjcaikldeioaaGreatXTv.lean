/- The stack of the typing in memory: Want. -/
import Derived.Test.YtmgjcaikldeioaaGreatXTu
namespace Go.Proofs.YtmgjcaikldeioaaGreat.Ty
open Go Go.RowKit Go.Lib Kt Fm Gr

theorem left_none_of {s : Stk} {ts : Bts} (h : left s ts = none) : want s ts = none := by unfold want; rw [h]; rfl
theorem left_some_of {s : Stk} {ts : Bts} {k : Nat} (h : left s ts = some k) : want s ts = some { s with l := s.l.take k } := by unfold want; rw [h]; rfl
theorem left_len {s : Stk} {ts : Bts} {k : Nat} (h : left s ts = some k) : k ≤ s.l.length := by
 unfold left at h
 split at h
 ·cases h
 ·exact (leftGo_bd _ _ _ _ _ h).1
theorem left_ht {s : Stk} {ts : Bts} {k : Nat} {f : Frm} (hi : Inv s) (h : left s ts = some k) (hf : s.fs.getLast? = some f) : f.ht ≤ k := by
 unfold left at h
 rw [hf] at h
 exact (leftGo_bd _ _ _ _ _ h).2 (hi.top _ hf)
/-- What Want leaves. -/
def WantSays (W w' : World) (H sb : Nat) (lv fv : Value) (FV : List Fv) : Option Stk → Ending → Prop
 | none, e => e = .returned (.bool false) ∧ Below W.heap.size W w'
 | some s', e => e = .returned (.bool true) ∧ ∃ lv', Stm w' H sb lv' fv FV s' ∧ Fr W w' (fun k => k = sb) ∧ lv'.ownBlock = lv.ownBlock
set_option maxRecDepth 100000 in
set_option maxHeartbeats 4000000 in
theorem want_any {W : World} {H sb : Nat} {lv fv : Value} {FV : List Fv} {s : Stk} (h : Stm W H sb lv fv FV s) (hne : s.fs ≠ []) (hbd : s.fs.length ≤ 1000000000) (hm : s.most ≤ 1000000000) {v : Value} {ts : Bts} (hv : Sl W 1 u8c v ts) (hl : ts.length ≤ 4194304) :
  Calls Tryz.prog 116 #[.pointer (some ⟨sb, 0, none⟩), v] W fun e w' => WantSays W w' H sb lv fv FV (want s ts) e := by
 obtain ⟨sl, cl, rfl, hlc, hsl⟩ := row_form h.row
 obtain ⟨sf, cf, rfl, _, _⟩ := row_form h.frs
 have HL := zh (left_any h hne hbd hm hv hl)
 have hlm : s.l.length ≤ s.most := h.inv.most
 have hcB : s.l.length ≤ 1000000000 := by omega
 have HS := zh h
 cases hle : left s ts with
 | none =>
  rw [left_none_of hle]
  rw [hle] at HL
  clear h hv hsl
  go_enter Tryz.func116, Tryz.ntmps116
  go_wp2_with fail
  refine HL.out.mono ?_
  rintro en w1 ⟨rfl, hb1⟩
  simp only [leftV]
  go_wp2_with fail
  go_ret
  exact ⟨rfl, hb1⟩
 | some k =>
  rw [left_some_of hle]
  rw [hle] at HL
  have hk := left_len hle
  have hkh : ∀ f, s.fs.getLast? = some f → f.ht ≤ k := fun f hf => left_ht h.inv hle hf
  have hkc : k ≤ cl := by omega
  have HKH := zh hkh
  clear h hv hsl hkh
  go_enter Tryz.func116, Tryz.ntmps116
  go_wp2_with fail
  refine HL.out.mono ?_
  rintro en w1 ⟨rfl, hb1⟩
  simp only [leftV]
  have HS1 := zh (HS.out.later hb1)
  have HB1 := zh hb1
  have hc0 : w1.cell? ⟨sb, 0, none⟩ = some (.slice sl s.l.length cl) := HS1.out.cell.cell 0
  clear hb1
  go_wp2_with (first | (refine wl_fld (c0 := [.slice sl s.l.length cl, .slice sf FV.length cf, .int .i64 s.most]) HS1.out.cell _ _ rfl rfl rfl rfl [.slice sl k cl] [.slice sl k cl, .slice sf FV.length cf, .int .i64 s.most] rfl size_l8 (by simp [Value.oneCell']) (by simp) rfl (fun w3 hl3 hf3 => ?_); have HC3 := zh (HS1.out.cut rfl (k := k) hk HKH.out hl3 hf3); have HF3 := zh hf3; clear hl3 hf3; try simp only [Act.put]))
  go_ret
  exact ⟨rfl, .slice sl k cl, HC3.out.1, Fr.trans (Fr.of_below HB1.out _) HF3.out, by cases sl <;> rfl⟩
end Go.Proofs.YtmgjcaikldeioaaGreat.Ty
