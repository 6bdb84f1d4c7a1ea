/- The walks of the ledger's Add, Sub, Bump, Move. -/
import Derived.Test.YtkdckcjnjljdmaaCAcG
import Derived.Shelf.Abstract
namespace Go.Proofs.Ytkdckcjnjljdmaa.Ac
open Go Go.RowKit Go.Shelf Kt Ad

/-- The amount's box, in every later world. -/
theorem boxes {W W' : World} {a : A8} {k : Nat} (hB : Below ((W.alloc (.cells a.cs.toArray 23)).alloc (.cells #[.int .u64 k] 29)).heap.size ((W.alloc (.cells a.cs.toArray 23)).alloc (.cells #[.int .u64 k] 29)) W') :
    W'.cell? ⟨W.heap.size + 1, 0, none⟩ = some (.int .u64 k) ∧ W.heap.size + 1 < W'.heap.size := by
  have h1 := Lies.new (W.alloc (.cells a.cs.toArray 23)) 29 #[.int .u64 k]
  rw [World.size_alloc] at h1
  have h2 := h1.below hB h1.lt
  exact ⟨h2.cell 0, h2.lt⟩

theorem addE_err (L : List Ent) (a : A8) (k : Nat) : (addE L a k).1 = 0 ∨ (addE L a k).1 = 211 ∧ (addE L a k).2 = L := by unfold addE; split <;> simp
theorem subE_err (L : List Ent) (a : A8) (k : Nat) : (subE L a k).1 = 0 ∨ (subE L a k).1 = 210 ∧ (subE L a k).2 = L := by unfold subE; split <;> simp

end Go.Proofs.Ytkdckcjnjljdmaa.Ac
