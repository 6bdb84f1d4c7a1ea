/- The walk of the statements' own 'works'. -/
import Derived.Test.YtldeialjonanmaaDoorAdS
import Derived.Test.YtldeialjonanmaaDoorAdE
namespace Go.Proofs.YtldeialjonanmaaDoor.Ad
open Go Go.RowKit Kt

@[reducible] def knownS : ByteArray := ⟨#[48, 48, 48, 48, 48, 48, 48, 48, 48, 48, 48, 48, 48, 49, 102, 102]⟩
@[reducible] def knownA : Value := .agg #[.int .u8 0, .int .u8 0, .int .u8 0, .int .u8 0, .int .u8 0, .int .u8 0, .int .u8 1, .int .u8 255]
def knownX : A8 := ⟨0, 0, 0, 0, 0, 0, 1, 255⟩

theorem known_spell : spell knownS rfl = knownX := by decide
theorem known_text : knownX.text.toArray = knownS.data := by decide
theorem known_v : knownX.v = knownA := rfl

theorem parse_known (w : World) : Calls Tryd.prog 11 #[.string knownS] w fun e w' => e = .returned (.tuple #[knownA, .int .i64 0]) ∧ Below w.heap.size w w' := by
  have h := parse_ok knownS w rfl (by decide)
  rw [known_spell, known_v] at h
  exact h
theorem text_known (w : World) : Calls Tryd.prog 15 #[knownA] w fun e w' => e = .returned (.string knownS) ∧ Below w.heap.size w w' := by
  have h := text_any knownX w
  rw [known_text, known_v] at h
  exact h
theorem eql_known (w : World) : (Op.equalIn 10000 23 knownA knownA).run Tryd.prog w = .ok true w := by
  have h := equalIn_addr w 9998 knownX knownX
  rw [known_v] at h
  simpa using h

set_option maxHeartbeats 1000000 in
theorem works_any (w : World) : Calls Tryd.prog 10 #[] w fun e w' => e = .returned (.bool true) ∧ Below w.heap.size w w' := by
  have hq := eql_known
  go_enter Tryd.func10, Tryd.ntmps10
  go_wp2_with fail
  refine (parse_known _).mono ?_
  rintro e w1 ⟨rfl, hB1⟩
  go_wp2_with fail
  refine (text_known _).mono ?_
  rintro e w2 ⟨rfl, hB2⟩
  go_wp2_with fail
  go_ret
  exact ⟨rfl, (hB1.alloc hB1.size _).trans (hB2.mono (by have := hB1.size; simp; omega))⟩
end Go.Proofs.YtldeialjonanmaaDoor.Ad
