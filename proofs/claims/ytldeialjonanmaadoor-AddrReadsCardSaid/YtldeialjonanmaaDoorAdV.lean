/- Blocks that hold an address; what the two Parses come to, side by side. -/
import Derived.Test.YtldeialjonanmaaDoorAdI
import Derived.Test.YtldeialjonanmaaDoorAdM
import Derived.Test.YtldeialjonanmaaDoorAdX
import Derived.Test.YtldeialjonanmaaDoorAdU
import Derived.Test.YtldeialjonanmaaDoorAdL
import Derived.Test.YtldeialjonanmaaDoorPlan
namespace Go.Proofs.YtldeialjonanmaaDoor.Ad
open Go Go.RowKit Kt

/-- Block b holds an address. -/
def At8 (w : World) (b : Nat) (a : A8) : Prop := w.cell? ⟨b, 0, none⟩ = some (.int .u8 a.x0.toNat) ∧ w.cell? ⟨b, 1, none⟩ = some (.int .u8 a.x1.toNat) ∧ w.cell? ⟨b, 2, none⟩ = some (.int .u8 a.x2.toNat) ∧ w.cell? ⟨b, 3, none⟩ = some (.int .u8 a.x3.toNat) ∧ w.cell? ⟨b, 4, none⟩ = some (.int .u8 a.x4.toNat) ∧ w.cell? ⟨b, 5, none⟩ = some (.int .u8 a.x5.toNat) ∧ w.cell? ⟨b, 6, none⟩ = some (.int .u8 a.x6.toNat) ∧ w.cell? ⟨b, 7, none⟩ = some (.int .u8 a.x7.toNat)
theorem At8.new (w : World) (a : A8) : At8 (w.alloc (.cells #[.int .u8 a.x0.toNat, .int .u8 a.x1.toNat, .int .u8 a.x2.toNat, .int .u8 a.x3.toNat, .int .u8 a.x4.toNat, .int .u8 a.x5.toNat, .int .u8 a.x6.toNat, .int .u8 a.x7.toNat] 23)) w.heap.size a := by
  refine ⟨?_, ?_, ?_, ?_, ?_, ?_, ?_, ?_⟩ <;> simp [go_sem]
theorem At8.keep {W w1 : World} {b : Nat} {a : A8} (h : At8 W b a) (hB : Below W.heap.size W w1) (hb : b < W.heap.size) : At8 w1 b a := by
  obtain ⟨h0, h1, h2, h3, h4, h5, h6, h7⟩ := h
  exact ⟨keep_cell hB _ hb (Nat.le_refl _) h0, keep_cell hB _ hb (Nat.le_refl _) h1, keep_cell hB _ hb (Nat.le_refl _) h2, keep_cell hB _ hb (Nat.le_refl _) h3, keep_cell hB _ hb (Nat.le_refl _) h4, keep_cell hB _ hb (Nat.le_refl _) h5, keep_cell hB _ hb (Nat.le_refl _) h6, keep_cell hB _ hb (Nat.le_refl _) h7⟩
theorem At8.alloc {w : World} {b : Nat} {a : A8} (h : At8 w b a) (o : Obj) (hb : b < w.heap.size) : At8 (w.alloc o) b a := h.keep ((Below.refl _ _).alloc (Nat.le_refl _) o) hb
theorem At8.drew {w : World} {b : Nat} {a : A8} (h : At8 w b a) : At8 w.drew b a := h
/-- A load of an address in a drawn region. -/
theorem hs_load8 {ops : Array Oper} {Q : Exit → Act → World → Prop} {S : World → Prop} {i d : Nat} {rest : List (Nat × Bool)} {a : Act} {w : World} {x : Operand} {ty : TypeId} {pos : String} {aft : Array Edge} {g : Option (Nat × Bool)} {b : Nat}
    (hi : ops.toList[i]? = some ⟨some d, .load 23 x, ty, pos, aft, g⟩) (hw : Region.wanted (⟨some d, .load 23 x, ty, pos, aft, g⟩ : Oper) (yielded ops a.tmps) = true) (hx : a.eval x = .pointer (some ⟨b, 0, none⟩)) (A : A8) (hA : ∀ w', S w' → At8 w' b A)
    (h : hStep Tryd.prog ops Q S rest (a.put (some d) A.v) w) : hStep Tryd.prog ops Q S ((i, true) :: rest) a w := by
  refine hs_take (v := A.v) hi hw (fun w' hw' => ?_) h
  obtain ⟨h0, h1, h2, h3, h4, h5, h6, h7⟩ := hA w' hw'
  simp only [execOp, hx]
  simp [go_sem, h0, h1, h2, h3, h4, h5, h6, h7]
theorem size_box (w : World) (o : Obj) : (w.alloc o).heap.size = w.heap.size + 1 := by simp

theorem parse_both (s : ByteArray) : ∃ (X : A8) (e : Int) (ok : Bool), (∀ w, Calls Tryd.prog 11 #[.string s] w fun en w' => en = .returned (.tuple #[X.v, .int .i64 e]) ∧ Below w.heap.size w w') ∧
    (∀ w, Calls Tryd.prog 13 #[.string s] w fun en w' => en = .returned (.tuple #[X.v, .bool ok]) ∧ Below w.heap.size w w') ∧ ((e = 0 ∧ ok = true ∧ X.text = s.data.toList) ∨ (e = 2 ∧ ok = false)) := by
  by_cases hs : s.size = 16
  · cases hx : s.data.toList.all isHex
    · refine ⟨zero8, 2, false, fun w => parse_sign s w hs hx, fun w => (rparse_any s hs w).mono ?_, .inr ⟨rfl, rfl⟩⟩
      rintro en w' ⟨h | h, hb⟩
      · rw [hx] at h; cases h.1
      · exact ⟨h.2, hb⟩
    · refine ⟨spell s hs, 0, true, fun w => parse_ok s w hs hx, fun w => (rparse_any s hs w).mono ?_, .inl ⟨rfl, rfl, text_spell s hs hx⟩⟩
      rintro en w' ⟨h | h, hb⟩
      · exact ⟨h.2, hb⟩
      · rw [hx] at h; cases h.1
  · exact ⟨zero8, 2, false, fun w => parse_len s w hs, fun w => rparse_len s w hs, .inr ⟨rfl, rfl⟩⟩
end Go.Proofs.YtldeialjonanmaaDoor.Ad
