/- Small laws of the walk that serve every text of this seat: an array's element by a computed index, one round of a loop after the other. -/
import Derived.Test.YtkdckcjnjljdmaaProg
import Derived.WalkKit
import Derived.WalkSpells
import Derived.WalkLawsBesides
import Derived.Lib.Hide
namespace Go.Proofs.Ytkdckcjnjljdmaa.Kt
open Go Go.RowKit

/-- An element of an array's value. -/
@[go_sem] theorem index_agg {P : Program} (w : World) (t : Nat) (cs : Array Value) (k : IntKind) (i : Int) :
    (Instr.index t (.agg cs) (.int k i)).run P w = (do
      match ← underlying t with
      | .array len elem => if 0 ≤ i ∧ i < len then part elem cs (i.toNat * (← sizeOf elem)) else boundsPanic k i len .index
      | _ => stuck "Index: array or string expected").run P w := by
  simp only [Instr.index, asIntOf, Sem.run_bind, Sem.run_pure, Result.andThen_ok]
  cases (underlying t).run P w with
  | halt h w' => rfl
  | ok d w' => cases d <;> rfl
@[go_sem] theorem run_part {P : Program} (w : World) (t : Nat) (cs : Array Value) (off : Nat) :
    (part t cs off).run P w = (do if ← isAgg t then pure (.agg (cs.extract off (off + (← sizeOf t)))) else match cs[off]? with | some v => pure v | none => stuck "part: no such cell" : Sem Value).run P w := rfl

theorem below_cell {W w1 : World} (hb : Below W.heap.size W w1) : (∀ b o, b < W.heap.size → w1.cell? ⟨b, o, none⟩ = W.cell? ⟨b, o, none⟩) ∧ (∀ b o, b < W.heap.size → w1.frozen? ⟨b, o, none⟩ = W.frozen? ⟨b, o, none⟩) :=
  ⟨fun b o h => hb.cell (p := ⟨b, o, none⟩) h, fun b o h => hb.frozen (p := ⟨b, o, none⟩) h⟩
/-- A cell of old memory reads as it did. -/
theorem keep_cell {W w1 : World} {v : Value} {b o : Nat} (hB : Below W.heap.size W w1) (N : Nat) (hb : b < N) (hN : N ≤ W.heap.size) (h : W.cell? ⟨b, o, none⟩ = some v) : w1.cell? ⟨b, o, none⟩ = some v :=
  (hB.cell (p := ⟨b, o, none⟩) (Nat.lt_of_lt_of_le hb hN)).trans h
theorem keep_size {W w1 : World} (hB : Below W.heap.size W w1) {N : Nat} (hN : N ≤ W.heap.size) : N ≤ w1.heap.size := Nat.le_trans hN hB.size
theorem next_below {N : Nat} {w W w1 : World} (h : Below N w W) (hB : Below W.heap.size W w1) (hN : N ≤ W.heap.size) : Below N w w1 := h.trans (hB.mono hN)
theorem ret_int {k : IntKind} {a b : Int} (h : a = b) : Ending.returned (.int k a) = .returned (.int k b) := by rw [h]
end Go.Proofs.Ytkdckcjnjljdmaa.Kt
