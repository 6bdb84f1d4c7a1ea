/- The walks of the ledger's reading calls: Balance, Nonce. -/
import Derived.Test.YtkdckcjnjljdmaaCAcM
import Derived.Deep.QuietTactic
import Derived.BigQuiet
namespace Go.Proofs.Ytkdckcjnjljdmaa.Ac
open Go Go.RowKit Kt Ad

set_option maxRecDepth 100000 in
set_option maxHeartbeats 1000000 in
theorem balance_any {W : World} {bl bm : Nat} {L : List Ent} (h : Led W bl bm L) (a : A8) :
    Calls Try.prog 45 #[.pointer (some ⟨bl, 0, none⟩), a.v] W fun e w' => e = .returned (.int .u64 ((get L a).1 : Nat)) ∧ Below W.heap.size W w' := by
  have hl := fun n => ((h.alloc (.cells #[.int .u8 a.x0.toNat, .int .u8 a.x1.toNat, .int .u8 a.x2.toNat, .int .u8 a.x3.toNat, .int .u8 a.x4.toNat, .int .u8 a.x5.toNat, .int .u8 a.x6.toNat, .int .u8 a.x7.toNat] 23)).drewN n).look a
  have hc := h.cell.cell 0
  simp only [List.getElem?_toArray, List.getElem?_cons_zero] at hc
  have hlt := h.cell.lt
  simp only [A8.v] at hl ⊢
  generalize (get L a).1 = r at hl ⊢
  clear h
  go_enter Try.func45, Try.ntmps45
  go_wp2_with fail
  go_quiet (fail)
  go_wp2_with fail
  go_ret
  exact ⟨rfl, below_drewN ((Below.refl _ _).alloc (Nat.le_refl _) _) _⟩
set_option maxRecDepth 100000 in
set_option maxHeartbeats 1000000 in
theorem nonce_any {W : World} {bl bm : Nat} {L : List Ent} (h : Led W bl bm L) (a : A8) :
    Calls Try.prog 28 #[.pointer (some ⟨bl, 0, none⟩), a.v] W fun e w' => e = .returned (.int .u64 ((get L a).2 : Nat)) ∧ Below W.heap.size W w' := by
  have hl := fun n => ((h.alloc (.cells #[.int .u8 a.x0.toNat, .int .u8 a.x1.toNat, .int .u8 a.x2.toNat, .int .u8 a.x3.toNat, .int .u8 a.x4.toNat, .int .u8 a.x5.toNat, .int .u8 a.x6.toNat, .int .u8 a.x7.toNat] 23)).drewN n).look a
  have hc := h.cell.cell 0
  simp only [List.getElem?_toArray, List.getElem?_cons_zero] at hc
  have hlt := h.cell.lt
  simp only [A8.v] at hl ⊢
  generalize (get L a).2 = r at hl ⊢
  clear h
  go_enter Try.func28, Try.ntmps28
  go_wp2_with fail
  go_quiet (fail)
  go_wp2_with fail
  go_ret
  exact ⟨rfl, below_drewN ((Below.refl _ _).alloc (Nat.le_refl _) _) _⟩
end Go.Proofs.Ytkdckcjnjljdmaa.Ac
