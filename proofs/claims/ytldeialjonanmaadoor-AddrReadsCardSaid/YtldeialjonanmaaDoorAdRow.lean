/- From the walks to the given rows: what the rows of this seat share: the world of the witness, the tables, the opening of an address. -/
import Derived.Test.YtldeialjonanmaaDoorCards
import Derived.Test.YtldeialjonanmaaDoorTie
import Derived.WalkKit
import Derived.ProofKit
import Derived.OpenShut
import Derived.Deep.DeepHandedRow
import Derived.Test.YtldeialjonanmaaDoorAdP
import Derived.Test.YtldeialjonanmaaDoorRw
namespace Go.Proofs.YtldeialjonanmaaDoor.Ad
open Go Go.ChangeShapes Go.WideShapes Go.ChangeAt Go.RowKit



/-- The cells of the two tables. -/
def accCells : Array Value := #[.int .u8 128, .int .u8 191, .int .u8 160, .int .u8 191, .int .u8 128, .int .u8 159, .int .u8 144, .int .u8 191, .int .u8 128, .int .u8 143, .int .u8 0, .int .u8 0, .int .u8 0, .int .u8 0, .int .u8 0, .int .u8 0, .int .u8 0, .int .u8 0, .int .u8 0, .int .u8 0, .int .u8 0, .int .u8 0, .int .u8 0, .int .u8 0, .int .u8 0, .int .u8 0, .int .u8 0, .int .u8 0, .int .u8 0, .int .u8 0, .int .u8 0, .int .u8 0]
def firstCells : Array Value := (Go.Pinned.utf8FirstZ.map fun (n : Nat) => Value.int .u8 (n : Int)).toArray

def withCells (cs : Array Value) : Obj → Obj
  | .cells _ t frozen => .cells cs t frozen
  | o => o
/-- A world for the witness: the settled one, the two tables holding what they are laid with. -/
noncomputable def laidWorld (os : Os) : World :=
  { World.holding Tryd.prog os ⟨#[], #[], []⟩ with heap := ((World.holding Tryd.prog os ⟨#[], #[], []⟩).heap.modify 1 (withCells firstCells)).modify 2 (withCells accCells) }

section
variable {H : Type} {enc : TypeId × Value → H} {w : World} {base : Nat} {spare : Nat → Bool} {held : Bool}
theorem u8_of {n : Int} (h : (Lit.int .u8 n).wf = true) : ∃ x : UInt8, n = (x.toNat : Int) := by
  have hb := bounds_u8 h
  refine ⟨UInt8.ofNat n.toNat, ?_⟩
  rw [ofNat_toNat _ (by omega)]
  omega
theorem eight {α : Type} {cs : List α} (h : cs.length = 8) : ∃ c0 c1 c2 c3 c4 c5 c6 c7, cs = [c0, c1, c2, c3, c4, c5, c6, c7] := by
  match cs, h with
  | [c0, c1, c2, c3, c4, c5, c6, c7], _ => exact ⟨c0, c1, c2, c3, c4, c5, c6, c7, rfl⟩
theorem cells23 : Tryd.prog.cellsOf 23 = 8 := by kernel_rfl
theorem cells5 : Tryd.prog.cellsOf 5 = 1 := by kernel_rfl
/-- An argument that is an address. -/
theorem open_addr {r : Reach} {b0 : Nat} {v : Value} {d : DataW H} {p : List MemPlace} (hv : Value.okWide Tryd.prog w r b0 23 v) (h : DataW.Trod enc Tryd.prog w base spare held 23 v d p) : ∃ a : A8, v = a.v := by
  simp only [Value.okWide, Tryd.underlying23] at hv
  obtain ⟨cs, rfl, hsz, _⟩ := hv
  rw [cells23] at hsz
  obtain ⟨fuel, hf⟩ := h
  obtain ⟨xs, m, rfl, _, _, hl, hi⟩ := DataW.trod_array Tryd.underlying23 hf
  have hcs : cs.toList.length = 8 := by simpa using hsz
  obtain ⟨c0, c1, c2, c3, c4, c5, c6, c7, hc⟩ := eight hcs
  have one : ∀ i (c : Value), i < 8 → cs.toList[i]? = some c → ∃ x : UInt8, c = .int .u8 (x.toNat : Int) := by
    intro i c hi8 hci
    have h1 := hi i hi8
    rw [cells5] at h1
    have h2 : ((Value.agg cs).cells.toList.drop (i * 1)).take 1 = [c] := by
      have hlt : i < cs.toList.length := by omega
      rw [List.getElem?_eq_getElem hlt] at hci
      have hce : cs.toList[i] = c := by injection hci
      show (cs.toList.drop (i * 1)).take 1 = [c]
      rw [Nat.mul_one, List.drop_eq_getElem_cons hlt, hce]
      rfl
    rw [h2] at h1
    have hx : ∃ y, xs[i]? = some y := ⟨_, List.getElem?_eq_getElem (by omega)⟩
    obtain ⟨y, hy⟩ := hx
    rw [hy] at h1
    obtain ⟨n, hn, _, hwf⟩ := DataW.trod_int Tryd.underlying5 h1
    obtain ⟨x, rfl⟩ := u8_of hwf
    exact ⟨x, by simpa using hn⟩
  obtain ⟨x0, rfl⟩ := one 0 c0 (by omega) (by rw [hc]; rfl)
  obtain ⟨x1, rfl⟩ := one 1 c1 (by omega) (by rw [hc]; rfl)
  obtain ⟨x2, rfl⟩ := one 2 c2 (by omega) (by rw [hc]; rfl)
  obtain ⟨x3, rfl⟩ := one 3 c3 (by omega) (by rw [hc]; rfl)
  obtain ⟨x4, rfl⟩ := one 4 c4 (by omega) (by rw [hc]; rfl)
  obtain ⟨x5, rfl⟩ := one 5 c5 (by omega) (by rw [hc]; rfl)
  obtain ⟨x6, rfl⟩ := one 6 c6 (by omega) (by rw [hc]; rfl)
  obtain ⟨x7, rfl⟩ := one 7 c7 (by omega) (by rw [hc]; rfl)
  refine ⟨⟨x0, x1, x2, x3, x4, x5, x6, x7⟩, ?_⟩
  have : cs = #[.int .u8 x0.toNat, .int .u8 x1.toNat, .int .u8 x2.toNat, .int .u8 x3.toNat, .int .u8 x4.toNat, .int .u8 x5.toNat, .int .u8 x6.toNat, .int .u8 x7.toNat] := by
    rw [← Array.toList_inj, hc]
  rw [this]
theorem open_u64 {r : Reach} {b0 : Nat} {v : Value} {d : DataW H} {p : List MemPlace} (hv : Value.okWide Tryd.prog w r b0 24 v) (h : DataW.Trod enc Tryd.prog w base spare held 24 v d p) : ∃ n : Nat, v = .int .u64 (n : Int) ∧ n < 18446744073709551616 := by
  obtain ⟨x, rfl, _, _, wx⟩ := open_int Tryd.underlying24 hv h
  have hb := bounds_u64 wx
  refine ⟨x.toNat, ?_, by omega⟩
  rw [Int.toNat_of_nonneg (by omega)]
end

theorem laid_met (os : Os) (args : Array Value) : laidMet Tryd.prog Rows.addrDerivesRow.laid ((laidWorld os).forCall (fun _ _ => 0) ⟨#[], args, []⟩).memory :=
  laidMet_of_run' 8 (by kernel_rfl) (by kernel_rfl)
end Go.Proofs.YtldeialjonanmaaDoor.Ad
