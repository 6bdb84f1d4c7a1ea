/- The walk of the law's heavy; what the counts and lengths of a book are bounded by. -/
import Derived.Test.YteeghdkejnhjnaaBoD
import Derived.Test.YteeghdkejnhjnaaBoO
namespace Go.Proofs.Yteeghdkejnhjnaa.Bo
open Go Go.RowKit Kt Ad

/-- How much there is, and how long, behind k calls. -/
structure Bd (k : Nat) (S T : List (A8 × List UInt8)) : Prop where
  len : S.length + T.length ≤ k
  evs : ∀ p ∈ S, p.2.length ≤ 1024
  cds : ∀ p ∈ T, p.2.length ≤ 30000
theorem Bd.emit {k : Nat} {S T : List (A8 × List UInt8)} (h : Bd k S T) (a : A8) (b : List UInt8) : Bd (k + 1) (S ++ (if 1024 < b.length then [] else [(a, b)])) T := by
  by_cases hl : 1024 < b.length
  · rw [if_pos hl, List.append_nil]
    exact ⟨by have := h.len; omega, h.evs, h.cds⟩
  · rw [if_neg hl]
    refine ⟨by have := h.len; simp only [List.length_append, List.length_cons, List.length_nil]; omega, fun p hp => ?_, h.cds⟩
    rcases List.mem_append.1 hp with hp | hp
    · exact h.evs p hp
    · obtain rfl : p = (a, b) := by simpa using hp
      exact Nat.le_of_not_lt hl
theorem Bd.set {k : Nat} {S T : List (A8 × List UInt8)} (h : Bd k S T) (a : A8) (b : List UInt8) (hb : b.length ≤ 30000) : Bd (k + 1) S (if b = [] then Al.del a T else Al.ins (a, b) T) := by
  have hk := h.len
  by_cases h0 : b = []
  · rw [if_pos h0]
    have := Al.len_del a T
    exact ⟨by omega, h.evs, fun p hp => h.cds p (Al.mem_del.1 hp).1⟩
  · rw [if_neg h0]
    have := Al.len_ins (a, b) T
    refine ⟨by omega, h.evs, fun p hp => ?_⟩
    rcases Al.mem_ins.1 hp with ⟨hp, _⟩ | rfl
    · exact h.cds p hp
    · exact hb
theorem Bd.more {k k' : Nat} {S T : List (A8 × List UInt8)} (h : Bd k S T) (hk : k ≤ k') : Bd k' S T := ⟨Nat.le_trans h.len hk, h.evs, h.cds⟩

set_option maxRecDepth 100000 in
set_option maxHeartbeats 4000000 in
theorem heavy_any {W : World} {v0 : Value} {X : List Do} (h0 : DoRow W v0 X) :
    Calls Try.prog 20 #[v0] W fun e w' => ∃ hv : Bool, e = .returned (.bool hv) ∧ (hv = false → X.length ≤ 200 ∧ ∀ x ∈ X, x.b.length ≤ 30000) ∧ Below W.heap.size W w' := by
  obtain ⟨s0, cap0, rfl, hs0⟩ := h0.shape
  have HB0 := Lib.hid h0.byt
  have hlX : X.length ≤ 9223372036854775807 := by have := h0.len; unfold maxLen at this; omega
  have HS0 := Lib.hid hs0
  clear hs0 h0
  go_enter Try.func20, Try.ntmps20
  go_wp2_with fail
  go_loopw [3, 8] (fun n i wr => ∃ k s : Nat, k ≤ X.length ∧ n = .int .i64 s ∧ i = .int .i64 k ∧ s ≤ 30000 ∧ (∀ x ∈ X.take k, x.b.length ≤ s) ∧ Below W.heap.size W wr)
    (fun _ i _ => X.length - (intOf i).toNat)
  case atStart => exact ⟨0, 0, by omega, rfl, rfl, by omega, by simp, Below.refl _ _⟩
  case round =>
    obtain ⟨k, s, hk, rfl, rfl, hs, hall, hW⟩ := hrel
    have HA := Lib.hid hall
    have HW := Lib.hid hW
    clear hall hW
    by_cases hlt : k < X.length
    · obtain ⟨x, hx⟩ : ∃ x, X[k]? = some x := ⟨_, List.getElem?_eq_getElem hlt⟩
      obtain ⟨b, off, rfl, hbl, hat⟩ := HS0.out (by intro e; simp [e] at hlt)
      obtain ⟨hby, hml⟩ := HB0.out x (List.mem_of_getElem? hx)
      have hd := (hat k x hx).below HW.out hbl
      have htk : X.take (k + 1) = X.take k ++ [x] := by rw [List.take_add_one, hx]; rfl
      clear hat hx
      obtain ⟨xk, xn, xa, xv, xb⟩ := x
      obtain ⟨sx, cx, hvx⟩ : ∃ sx cx, xv = .slice sx xb.length cx := by obtain ⟨s, c, e, _⟩ := hby; exact ⟨s, c, e⟩
      subst hvx
      clear hby
      have HD := Lib.hid hd
      have HTK := Lib.hid htk
      have hm2 : xb.length ≤ 140737488351232 := by unfold reachBytes at hml; exact hml
      clear hd htk hml
      go_wp2_with (first | (refine wb_load _ _ _ HD.out _ rfl rfl rfl ?_; simp only [Do.cs, Act.put, List.setIfInBounds_toArray, List.set_cons_zero, List.set_cons_succ]) | (refine wb_store ⟨xk, xn, xa, .slice sx xb.length cx, xb⟩ rfl _ _ rfl rfl rfl rfl rfl ?_; simp only [Do.cs, Act.put]))
      · go_ret
        exact ⟨true, rfl, (fun e => by cases e), HW.out.alloc HW.out.size _⟩
      · go_roundw
        case rel =>
          refine ⟨k + 1, s + xb.length, by omega, by go_num, by go_num, by omega, fun x hx => ?_, HW.out.alloc HW.out.size _⟩
          rw [HTK.out] at hx
          rcases List.mem_append.1 hx with hx | hx
          · have := HA.out x hx; omega
          · obtain rfl : x = _ := by simpa using hx
            show xb.length ≤ s + xb.length
            omega
        case measure => simp [intOf]; omega
    · obtain rfl : k = X.length := by omega
      go_wp2_with fail
      go_ret
      refine ⟨_, rfl, fun e => ⟨?_, fun x hx => ?_⟩, HW.out⟩
      · have := of_decide_eq_false e; omega
      · have := HA.out x (by rw [List.take_length]; exact hx)
        omega
end Go.Proofs.Yteeghdkejnhjnaa.Bo
