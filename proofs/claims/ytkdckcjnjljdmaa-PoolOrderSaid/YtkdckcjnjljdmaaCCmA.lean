/- The comparison of two addresses by one closure of the program. -/
import Derived.Test.YtkdckcjnjljdmaaCSo
namespace Go.Proofs.Ytkdckcjnjljdmaa.Ad
open Go Go.RowKit Go.Shelf Kt
set_option maxRecDepth 100000 in
set_option maxHeartbeats 1000000 in
theorem cmp_acct (a b : A8) (W : World) : Calls Try.prog 59 #[a.v, b.v] W fun e w' => e = .returned (.int .i64 (cmpA a b)) ∧ ∃ q os, w' = Sort.grow (W.drewN q) os := by
  have hc : ∀ n, Calls Try.prog 22 #[.slice (some ⟨W.heap.size, 0, none⟩) 8 8, .slice (some ⟨W.heap.size + 1, 0, none⟩) 8 8] (((W.alloc (.cells a.cs.toArray 23)).alloc (.cells b.cs.toArray 23)).drewN n) fun e w' => e = .returned (.int .i64 (cmpA a b)) ∧ w' = ((W.alloc (.cells a.cs.toArray 23)).alloc (.cells b.cs.toArray 23)).drewN n := fun n => by
    have h1 := rb_addr ((Lies.new W 23 a.cs.toArray).alloc (.cells b.cs.toArray 23))
    have h2 := rb_addr (Lies.new (W.alloc (.cells a.cs.toArray 23)) 23 b.cs.toArray)
    have hs : (W.alloc (.cells a.cs.toArray 23)).heap.size = W.heap.size + 1 := by simp
    rw [hs] at h2
    have h1' : RB (((W.alloc (.cells a.cs.toArray 23)).alloc (.cells b.cs.toArray 23)).drewN n) _ _ _ := h1
    have h2' : RB (((W.alloc (.cells a.cs.toArray 23)).alloc (.cells b.cs.toArray 23)).drewN n) _ _ _ := h2
    exact (bytes_compare h1' h2' 8 8).mono fun e w' ⟨he, hw⟩ => ⟨he, hw.symm⟩
  simp only [A8.v]
  simp only [A8.cs] at hc
  generalize cmpA a b = r at hc ⊢
  go_enter Try.func59, Try.ntmps59
  go_wp2_with fail
  go_quiet ((go_at_call 22; exact Calls.quiet_of_same (hc _)))
  go_wp2_with fail
  go_ret
  exact ⟨rfl, _, _, by rw [Sort.alloc_eq_grow, Sort.alloc_eq_grow, Sort.grow_grow]; rfl⟩
end Go.Proofs.Ytkdckcjnjljdmaa.Ad
