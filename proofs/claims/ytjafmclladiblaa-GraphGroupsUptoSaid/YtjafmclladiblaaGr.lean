/- Graph: Len, Calls, Roots. -/
import Derived.Test.YtjafmclladiblaaGo
namespace Go.Proofs.Ytjafmclladiblaa.Gr
open Go Go.RowKit Go.Lib Kt Fm

/-- What a number of a function calls; none, if there is no such function. -/
def gcalls (m : Mod) (f : Int) : List Nat := if 0 ≤ f ∧ f < (cnt m : Int) then callsL m f.toNat else []
theorem gcalls_nat {m : Mod} {f : Nat} (h : f < cnt m) : gcalls m f = callsL m f := by unfold gcalls; rw [if_pos ⟨by omega, by omega⟩, Int.toNat_natCast]
theorem callsL_le (m : Mod) (f : Nat) : (callsL m f).length ≤ cnt m := Nat.le_trans (List.length_filter_le _ _) (by simp)
theorem gcalls_le (m : Mod) (f : Int) : (gcalls m f).length ≤ cnt m := by unfold gcalls; split; exact callsL_le _ _; exact Nat.zero_le _
theorem rootsL_le (m : Mod) : (rootsL m).length ≤ cnt m := Nat.le_trans (List.length_filter_le _ _) (by simp)

set_option maxRecDepth 100000 in
set_option maxHeartbeats 4000000 in
theorem len_any {W : World} {G : Nat} {m : Mod} (h : Gph W G m) :
    Calls Try.prog 11 #[.pointer (some ⟨G, 0, none⟩)] W fun e w' => e = .returned (.int .i64 (cnt m)) ∧ w' = W := by
  obtain ⟨cv, rv, CV, hl, hs, hlen, _, _⟩ := h
  obtain ⟨s, c, rfl, _⟩ := hs.form
  rw [hlen] at hl
  have hc : W.cell? ⟨G, 1, none⟩ = some (.slice s (cnt m) c) := hl.cell 1
  clear hl hs hlen
  go_enter Try.func11, Try.ntmps11
  go_wp2_with fail
  go_ret
  exact ⟨rfl, rfl⟩
set_option maxRecDepth 100000 in
set_option maxHeartbeats 4000000 in
theorem len_nil {W : World} :
    Calls Try.prog 11 #[.pointer none] W fun e w' => e = .returned (.int .i64 0) ∧ w' = W := by
  go_enter Try.func11, Try.ntmps11
  go_wp2_with fail
  go_ret
  exact ⟨rfl, rfl⟩
set_option maxRecDepth 100000 in
set_option maxHeartbeats 4000000 in
theorem calls_any {W : World} {G : Nat} {m : Mod} (h : Gph W G m) (hn : cnt m ≤ 4194304) (f : Int) :
    Calls Try.prog 12 #[.pointer (some ⟨G, 0, none⟩), .int .i64 f] W fun e w' => ∃ v', e = .returned v' ∧ w'.ownsRow W.heap.size 3 1 v' (gcalls m f).length ((gcalls m f).flatMap ic) ∧ Below W.heap.size W w' := by
  have HG := Lib.hid h
  obtain ⟨cv, rv, CV, hl, hs, hlen, hcalls, _⟩ := h
  obtain ⟨s, c, rfl, hs2⟩ := hs.form
  have HS := Lib.hid hs
  have HC := Lib.hid hcalls
  rw [hlen] at hl
  have hc : W.cell? ⟨G, 1, none⟩ = some (.slice s (cnt m) c) := hl.cell 1
  clear hl hs hcalls
  by_cases hneg : f < 0
  · have hg : gcalls m f = [] := by unfold gcalls; rw [if_neg (by omega)]
    rw [hg]
    clear hg
    go_enter Try.func12, Try.ntmps12
    go_wp2_with fail
    go_ret
    exact ⟨_, rfl, World.ownsRow_nil _ _ _ _, Below.refl _ _⟩
  · obtain ⟨j, rfl⟩ : ∃ j : Nat, f = (j : Int) := ⟨f.toNat, by omega⟩
    by_cases hlt : j < cnt m
    · rw [gcalls_nat hlt]
      obtain ⟨v, hv⟩ : ∃ v, CV[j]? = some v := ⟨_, List.getElem?_eq_getElem (by rw [hlen]; exact hlt)⟩
      obtain ⟨g, off, rfl, hg⟩ := hs2 (by intro e; rw [e] at hv; cases hv)
      have hcell := HS.out.cell hv (j := 0) rfl
      rw [Nat.mul_one, Nat.add_zero] at hcell
      have HV := Lib.hid (HC.out j v hv)
      have hcl := callsL_le m j
      clear hv hs2
      go_enter Try.func12, Try.ntmps12
      go_wp2_with fail
      refine (len_any HG.out).mono ?_
      rintro en w2 ⟨rfl, rfl⟩
      go_wp2_with fail
      refine (clone_ic HV.out (by omega)).mono ?_
      rintro en w3 ⟨v', rfl, hr, hb⟩
      have HR := Lib.hid hr
      have HB := Lib.hid hb
      clear hr hb
      go_wp2_with fail
      go_ret
      exact ⟨_, rfl, HR.out, HB.out⟩
    · have hlt' : cnt m ≤ j := by omega
      have hg : gcalls m j = [] := by unfold gcalls; rw [if_neg (by omega)]
      rw [hg]
      clear hg
      go_enter Try.func12, Try.ntmps12
      go_wp2_with fail
      refine (len_any HG.out).mono ?_
      rintro en w2 ⟨rfl, rfl⟩
      go_wp2_with fail
      go_ret
      exact ⟨_, rfl, World.ownsRow_nil _ _ _ _, Below.refl _ _⟩
set_option maxRecDepth 100000 in
set_option maxHeartbeats 4000000 in
theorem calls_nil {W : World} (f : Int) :
    Calls Try.prog 12 #[.pointer none, .int .i64 f] W fun e w' => e = .returned (.slice none 0 0) ∧ w' = W := by
  by_cases hneg : f < 0
  · go_enter Try.func12, Try.ntmps12
    go_wp2_with fail
    go_ret
    exact ⟨rfl, rfl⟩
  · have hneg' : 0 ≤ f := by omega
    go_enter Try.func12, Try.ntmps12
    go_wp2_with fail
    refine (len_nil (W := W)).mono ?_
    rintro en w2 ⟨rfl, rfl⟩
    go_wp2_with fail
    go_ret
    exact ⟨rfl, rfl⟩
set_option maxRecDepth 100000 in
set_option maxHeartbeats 4000000 in
theorem roots_any {W : World} {G : Nat} {m : Mod} (h : Gph W G m) (hn : cnt m ≤ 4194304) :
    Calls Try.prog 16 #[.pointer (some ⟨G, 0, none⟩)] W fun e w' => ∃ v', e = .returned v' ∧ w'.ownsRow W.heap.size 3 1 v' (rootsL m).length ((rootsL m).flatMap ic) ∧ Below W.heap.size W w' := by
  obtain ⟨cv, rv, CV, hl, hs, hlen, hcalls, hr⟩ := h
  have hc : W.cell? ⟨G, 2, none⟩ = some rv := hl.cell 2
  have HR := Lib.hid hr
  have hrl := rootsL_le m
  clear hl hs hcalls hr
  go_enter Try.func16, Try.ntmps16
  go_wp2_with fail
  refine (clone_ic HR.out (by omega)).mono ?_
  rintro en w3 ⟨v', rfl, hr, hb⟩
  have HR3 := Lib.hid hr
  have HB := Lib.hid hb
  clear hr hb
  go_wp2_with fail
  go_ret
  exact ⟨_, rfl, HR3.out, HB.out⟩
set_option maxRecDepth 100000 in
set_option maxHeartbeats 4000000 in
theorem roots_nil {W : World} :
    Calls Try.prog 16 #[.pointer none] W fun e w' => e = .returned (.slice none 0 0) ∧ w' = W := by
  go_enter Try.func16, Try.ntmps16
  go_wp2_with fail
  go_ret
  exact ⟨rfl, rfl⟩
end Go.Proofs.Ytjafmclladiblaa.Gr
