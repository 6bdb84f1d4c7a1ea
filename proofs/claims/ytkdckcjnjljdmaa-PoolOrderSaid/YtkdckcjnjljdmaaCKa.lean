/- Addresses as a map's keys: what such a key reads as. -/
import Derived.Test.YtkdckcjnjljdmaaCAdE
import Derived.Test.YtkdckcjnjljdmaaCMr
import Derived.Test.YtkdckcjnjljdmaaCBx
import Derived.DeepKeys5
namespace Go.Proofs.Ytkdckcjnjljdmaa.Ad
open Go Go.RowKit Kt

theorem wf_u8 (x : UInt8) : (Lit.int .u8 (x.toNat : Int)).wf = true := WalkArith.wf_u8 (by have := u8_lt x; omega)
theorem lits_u8 (d : Nat) (x : UInt8) : Try.prog.keyLits (d + 1) 5 [.int .u8 (x.toNat : Int)] = some [.int .u8 (x.toNat : Int)] := by
  simp [Program.keyLits, Try.underlying5, wf_u8]
theorem laidOutP : laidOutB Try.prog = true := by kernel_rfl
theorem keyTypeAddr : Try.prog.keyType 23 = true := by kernel_rfl
theorem cellsAddr : Try.prog.cellsOf 23 = 8 := by kernel_rfl
theorem sizeAddr : ∃ d, Try.prog.types.size + 1 = d + 2 := ⟨Try.prog.types.size - 1, by have : 1 ≤ Try.prog.types.size := of_decide_eq_true (by kernel_rfl); omega⟩
theorem keyOf_addr (a : A8) : ∃ l, keyOf Try.prog 23 a.v = some l := by
  have hf : a.v.formed Try.prog 23 = true := by
    simp [Value.formed, Try.underlying23, cellsAddr]
  obtain ⟨d, hd⟩ := sizeAddr
  refine ⟨.string (keyBytes (a.l.map fun x : UInt8 => Lit.int .u8 (x.toNat : Int))), ?_⟩
  have h1 : Try.prog.keyLits (Try.prog.types.size + 1) 23 a.v.cells.toList = some (a.l.map fun x : UInt8 => Lit.int .u8 (x.toNat : Int)) := by
    rw [hd]
    have hr : List.range 8 = [0, 1, 2, 3, 4, 5, 6, 7] := rfl
    simp [Program.keyLits, Try.underlying23, Try.underlying5, cellsAddr, cells8, Value.cells, hr, wf_u8, A8.l]
  unfold keyOf
  simp only [Try.underlying23, keyTypeAddr, hf, Bool.and_self, if_true, h1, Option.map_some]
theorem keyedAddr : Maps.Keyed Try.prog 23 :=
  Maps.Keyed.of_law (deep_law_gate laidOutP (of_decide_eq_true (by kernel_rfl)) (of_decide_eq_true (by kernel_rfl)) keyTypeAddr (by kernel_rfl))
theorem A8.v_inj {a b : A8} (h : a.v = b.v) : a = b := by
  obtain ⟨a0, a1, a2, a3, a4, a5, a6, a7⟩ := a
  obtain ⟨b0, b1, b2, b3, b4, b5, b6, b7⟩ := b
  simp only [A8.v, Value.agg.injEq, Array.mk.injEq, List.cons.injEq, Value.int.injEq, true_and, and_true, Int.natCast_inj, UInt8.toNat_inj] at h
  obtain ⟨rfl, rfl, rfl, rfl, rfl, rfl, rfl, rfl⟩ := h
  rfl
theorem encAddr : KeyEnc Try.prog 23 A8.v := ⟨keyedAddr, keyOf_addr, A8.v_inj⟩
/-- The cells of an address. -/
def A8.cs (a : A8) : List Value := [.int .u8 a.x0.toNat, .int .u8 a.x1.toNat, .int .u8 a.x2.toNat, .int .u8 a.x3.toNat, .int .u8 a.x4.toNat, .int .u8 a.x5.toNat, .int .u8 a.x6.toNat, .int .u8 a.x7.toNat]
theorem lies_addr {W : World} {b : Nat} {t : TypeId} {a : A8} (h : Lies W b t a.cs.toArray) : W.cell? ⟨b, 0, none⟩ = some (.int .u8 a.x0.toNat) ∧ W.cell? ⟨b, 1, none⟩ = some (.int .u8 a.x1.toNat) ∧ W.cell? ⟨b, 2, none⟩ = some (.int .u8 a.x2.toNat) ∧ W.cell? ⟨b, 3, none⟩ = some (.int .u8 a.x3.toNat) ∧ W.cell? ⟨b, 4, none⟩ = some (.int .u8 a.x4.toNat) ∧ W.cell? ⟨b, 5, none⟩ = some (.int .u8 a.x5.toNat) ∧ W.cell? ⟨b, 6, none⟩ = some (.int .u8 a.x6.toNat) ∧ W.cell? ⟨b, 7, none⟩ = some (.int .u8 a.x7.toNat) :=
  ⟨h.cell 0, h.cell 1, h.cell 2, h.cell 3, h.cell 4, h.cell 5, h.cell 6, h.cell 7⟩
end Go.Proofs.Ytkdckcjnjljdmaa.Ad
