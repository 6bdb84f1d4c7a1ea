/- The walk of an address's text. -/
import Derived.Test.YtldeialjonanmaaDoorAdW
import Derived.Test.YtldeialjonanmaaDoorBld
import Derived.Test.YtldeialjonanmaaDoorShelf
namespace Go.Proofs.YtldeialjonanmaaDoor.Ad
open Go Go.RowKit Kt

/-- The sixteen signs. -/
def digs : ByteArray := ⟨#[48, 49, 50, 51, 52, 53, 54, 55, 56, 57, 97, 98, 99, 100, 101, 102]⟩
def dig (n : Nat) : UInt8 := if n < 10 then UInt8.ofNat (48 + n) else UInt8.ofNat (87 + n)
/-- The two signs of a byte. -/
def hex2 (b : UInt8) : List UInt8 := [dig (b.toNat / 16), dig (b.toNat % 16)]
def A8.text (a : A8) : List UInt8 := a.l.flatMap hex2

theorem digs_at (n : Nat) (h : n < (⟨#[48, 49, 50, 51, 52, 53, 54, 55, 56, 57, 97, 98, 99, 100, 101, 102]⟩ : ByteArray).size) : (⟨#[48, 49, 50, 51, 52, 53, 54, 55, 56, 57, 97, 98, 99, 100, 101, 102]⟩ : ByteArray)[n] = dig n := by
  have h' : n < 16 := h
  have hall : ∀ n : Fin 16, (⟨#[48, 49, 50, 51, 52, 53, 54, 55, 56, 57, 97, 98, 99, 100, 101, 102]⟩ : ByteArray)[n.1]'(n.2) = dig n.1 := by decide
  exact hall ⟨n, h'⟩

theorem and15 (x : UInt8) : bits .and .u8 (x.toNat : Int) 15 = ((x.toNat % 16 : Nat) : Int) := by
  have := u8_lt x
  rw [u8_and15 _ (by omega) (by omega)]; rfl

set_option maxHeartbeats 4000000 in
theorem text_any (a : A8) (w : World) :
    Calls Tryd.prog 15 #[a.v] w fun e w' => e = .returned (.string ⟨a.text.toArray⟩) ∧ Below w.heap.size w w' := by
  obtain ⟨x0, x1, x2, x3, x4, x5, x6, x7⟩ := a
  have h0 := u8_lt x0; have h1 := u8_lt x1; have h2 := u8_lt x2; have h3 := u8_lt x3
  have h4 := u8_lt x4; have h5 := u8_lt x5; have h6 := u8_lt x6; have h7 := u8_lt x7
  have b0 := and15 x0; have b1 := and15 x1; have b2 := and15 x2; have b3 := and15 x3
  have b4 := and15 x4; have b5 := and15 x5; have b6 := and15 x6; have b7 := and15 x7
  simp only [A8.v]
  go_enter Tryd.func15, Tryd.ntmps15
  go_wp2
  go_loopw [7] (fun i wr => ∃ k : Nat, k ≤ 8 ∧ i = .int .i64 k ∧ Lib.IsBuilder 49 5 (w.heap.size + 1) (w.heap.size + 1) (Lib.byteCells (([x0, x1, x2, x3, x4, x5, x6, x7].take k).flatMap hex2)) wr ∧ Below (w.heap.size + 1) (w.alloc (.cells #[.int .u8 x0.toNat, .int .u8 x1.toNat, .int .u8 x2.toNat, .int .u8 x3.toNat, .int .u8 x4.toNat, .int .u8 x5.toNat, .int .u8 x6.toNat, .int .u8 x7.toNat] 23)) wr)
    (fun i _ => 8 - (intOf i).toNat)
  case atStart =>
    refine ⟨0, Nat.zero_le _, rfl, ?_, ?_⟩
    · simpa [Lib.byteCells] using Lib.fresh_isBuilder 49 5 (w.alloc (.cells #[.int .u8 x0.toNat, .int .u8 x1.toNat, .int .u8 x2.toNat, .int .u8 x3.toNat, .int .u8 x4.toNat, .int .u8 x5.toNat, .int .u8 x6.toNat, .int .u8 x7.toNat] 23))
    · exact (Below.refl _ _).alloc (by simp) _
  case round =>
    obtain ⟨k, hk, rfl, hb, hB⟩ := hrel
    have hk9 : k = 0 ∨ k = 1 ∨ k = 2 ∨ k = 3 ∨ k = 4 ∨ k = 5 ∨ k = 6 ∨ k = 7 ∨ k = 8 := by omega
    have hsz : w.heap.size + 1 ≤ wr.heap.size := by have := hB.size; simp at this; omega
    rcases hk9 with rfl | rfl | rfl | rfl | rfl | rfl | rfl | rfl | rfl
    rotate_right
    · go_wp2_with (go_at_call 26; refine (Tryd.Builder_String_any _ _ _ _ hb hsz).mono ?_; rintro e w' ⟨rfl, hb1⟩)
      go_ret
      refine ⟨?_, ?_⟩
      · rfl
      · exact (((Below.refl _ w).alloc (Nat.le_refl _) _).trans (hB.mono (by omega))).trans (hb1.mono (by omega))
    all_goals
      go_wp2_with fail
      refine (Bld.writeByte_any (w.heap.size + 1) (w.heap.size + 1) _ _ _ hb (by simp [Lib.byteCells_length, hex2]) hsz).mono ?_
      rintro e w1 ⟨rfl, hb1, hB1⟩
      have hsz1 : w.heap.size + 1 ≤ w1.heap.size := by have := hB1.size; omega
      go_wp2_with fail
      refine (Bld.writeByte_any (w.heap.size + 1) (w.heap.size + 1) _ _ _ (Or.inr hb1) (by simp [Lib.byteCells_length, hex2]) hsz1).mono ?_
      rintro e w2 ⟨rfl, hb2, hB2⟩
      go_wp2
      go_roundw
      case rel =>
        first
          | refine ⟨1, by omega, rfl, Or.inr ?_, ?_⟩ | refine ⟨2, by omega, rfl, Or.inr ?_, ?_⟩ | refine ⟨3, by omega, rfl, Or.inr ?_, ?_⟩ | refine ⟨4, by omega, rfl, Or.inr ?_, ?_⟩
          | refine ⟨5, by omega, rfl, Or.inr ?_, ?_⟩ | refine ⟨6, by omega, rfl, Or.inr ?_, ?_⟩ | refine ⟨7, by omega, rfl, Or.inr ?_, ?_⟩ | refine ⟨8, by omega, rfl, Or.inr ?_, ?_⟩
        · simpa [Lib.byteCells, hex2, digs_at] using hb2
        · exact (hB.trans hB1).trans hB2
      case measure => simp [intOf]
end Go.Proofs.YtldeialjonanmaaDoor.Ad
