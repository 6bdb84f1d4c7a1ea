/- What a book's calls do, told by the blocks that they may change; calls of no book. -/
import Derived.Test.YteeghdkejnhjnaaBoQ
namespace Go.Proofs.Yteeghdkejnhjnaa.Bo
open Go Go.RowKit Kt Ad

theorem said_append (E F : List Ev) : said (E ++ F) = said E ++ said F := List.map_append
section
variable {W : World} {own : Nat → Prop} {bl bm : Nat} {vr : Value} {E : List Ev} {C : Cs}
theorem emit_own (h : Bk W own bl bm vr E C) (ho : ∀ k, W.heap.size ≤ k → own k) (hN : E.length ≤ 1000000) (a : A8) {v : Value} {b : List UInt8} (hv : Byt W v b) :
    Calls Try.prog 23 #[.pointer (some ⟨bl, 0, none⟩), a.v, v] W fun e w' => ∃ vn E', e = .returned (.int .i64 ((if 1024 < b.length then 3 else 0 : Nat) : Int)) ∧ Bk w' own bl bm vn E' C ∧ said E' = said E ++ (if 1024 < b.length then [] else [(a, b)]) ∧ Fr W w' own := by
  by_cases hl : 1024 < b.length
  · rw [if_pos hl, if_pos hl]
    refine (emit_long a hv hl).mono ?_
    rintro e w' ⟨rfl, hb⟩
    exact ⟨vr, E, rfl, h.later hb, by simp, Fr.of_below hb _⟩
  · rw [if_neg hl, if_neg hl]
    refine (emit_any h hN a hv hl).mono ?_
    rintro e w' ⟨v', vn, rfl, hk, hf, _, _, _⟩
    refine ⟨vn, _, rfl, hk.mono (fun k _ hk => hk.elim id (ho k)), by rw [said_append]; rfl, hf.mono (fun k _ hk => ?_)⟩
    rcases hk with rfl | hk
    · exact h.obl
    · exact (wrow_lt h.row hk.symm).2.1
theorem setcode_own (h : Bk W own bl bm vr E C) (ho : ∀ k, W.heap.size ≤ k → own k) (a : A8) {v : Value} {b : List UInt8} (hv : Byt W v b) (hn : b.length ≤ 1000000) :
    Calls Try.prog 27 #[.pointer (some ⟨bl, 0, none⟩), a.v, v] W fun e w' => ∃ C', e = .returned (.int .i64 0) ∧ Bk w' own bl bm vr E C' ∧ Al.turn (·.2) C' = (if b = [] then Al.del a (Al.turn (·.2) C) else Al.ins (a, b) (Al.turn (·.2) C)) ∧ Fr W w' own := by
  by_cases hb : b = []
  · subst hb
    obtain ⟨s0, c0, rfl, _⟩ := hv
    refine (setcode_del h a s0 c0).mono ?_
    rintro e w' ⟨rfl, hk, hf⟩
    exact ⟨_, rfl, hk, by rw [if_pos rfl, Al.turn_del], hf.mono (fun k _ e => e ▸ h.obm)⟩
  · refine (setcode_put h a hv hb (by omega)).mono ?_
    rintro e w' ⟨v', rfl, hk, hf⟩
    exact ⟨_, rfl, hk.mono (fun k _ hk => hk.elim id (ho k)), by rw [if_neg hb, Al.turn_ins], hf.mono (fun k _ e => e ▸ h.obm)⟩
theorem cut_own (h : Bk W own bl bm vr E C) (k : Nat) (hk : k ≤ E.length) :
    Calls Try.prog 25 #[.pointer (some ⟨bl, 0, none⟩), .int .i64 k] W fun e w' => ∃ vn, e = .returned (.int .i64 0) ∧ Bk w' own bl bm vn (E.take k) C ∧ Fr W w' own := by
  refine (cut_ok h k hk).mono ?_
  rintro e w' ⟨vr', rfl, hK, hf, _, _⟩
  exact ⟨vr', rfl, hK, hf.mono (fun k _ e => e ▸ h.obl)⟩
set_option maxRecDepth 100000 in
set_option maxHeartbeats 2000000 in
theorem cut_bad (h : Bk W own bl bm vr E C) (k : Int) (hk : k < 0 ∨ (E.length : Int) < k) :
    Calls Try.prog 25 #[.pointer (some ⟨bl, 0, none⟩), .int .i64 k] W fun e w' => e = .returned (.int .i64 5) ∧ w' = W := by
  obtain ⟨s, cap, rfl, _⟩ := h.form
  have hc := h.cell.cell 0
  simp only [List.getElem?_toArray, List.getElem?_cons_zero] at hc
  clear h
  by_cases h0 : k < 0
  · clear hk
    go_enter Try.func25, Try.ntmps25
    go_wp2_with fail
    go_ret
    exact ⟨rfl, rfl⟩
  · have hk' : (E.length : Int) < k := by omega
    clear hk
    go_enter Try.func25, Try.ntmps25
    go_wp2_with fail
    go_ret
    exact ⟨rfl, rfl⟩
end

/-! ### no book -/
set_option maxRecDepth 100000 in
theorem emit_nil (W : World) (a : A8) (v : Value) : Calls Try.prog 23 #[.pointer none, a.v, v] W fun e w' => e = .returned (.int .i64 1) ∧ Below W.heap.size W w' := by
  simp only [A8.v]
  go_enter Try.func23, Try.ntmps23
  go_wp2
  go_ret
  exact ⟨rfl, (Below.refl _ _).alloc (Nat.le_refl _) _⟩
set_option maxRecDepth 100000 in
theorem setcode_nil (W : World) (a : A8) (v : Value) : Calls Try.prog 27 #[.pointer none, a.v, v] W fun e w' => e = .returned (.int .i64 1) ∧ Below W.heap.size W w' := by
  simp only [A8.v]
  go_enter Try.func27, Try.ntmps27
  go_wp2
  go_ret
  exact ⟨rfl, (Below.refl _ _).alloc (Nat.le_refl _) _⟩
set_option maxRecDepth 100000 in
theorem cut_nil (W : World) (k : Int) : Calls Try.prog 25 #[.pointer none, .int .i64 k] W fun e w' => e = .returned (.int .i64 1) ∧ w' = W := by
  go_enter Try.func25, Try.ntmps25
  go_wp2
  go_ret
  exact ⟨rfl, rfl⟩
set_option maxRecDepth 100000 in
theorem code_nil (W : World) (a : A8) : Calls Try.prog 31 #[.pointer none, a.v] W fun e w' => e = .returned (.tuple #[.slice none 0 0, .bool false]) ∧ Below W.heap.size W w' := by
  simp only [A8.v]
  go_enter Try.func31, Try.ntmps31
  go_wp2
  first | go_ret | go_ret2
  exact ⟨rfl, (Below.refl _ _).alloc (Nat.le_refl _) _⟩
set_option maxRecDepth 100000 in
theorem len_nil (W : World) : Calls Try.prog 33 #[.pointer none] W fun e w' => e = .returned (.int .i64 0) ∧ w' = W := by
  go_enter Try.func33, Try.ntmps33
  go_wp2
  go_ret
  exact ⟨rfl, rfl⟩
set_option maxRecDepth 100000 in
theorem events_nil (W : World) : Calls Try.prog 30 #[.pointer none, .int .i64 0] W fun e w' => e = .returned (.slice none 0 0) ∧ w' = W := by
  have H := Lib.hid (len_nil W)
  go_enter Try.func30, Try.ntmps30
  go_wp2_with (go_at_call 33; refine H.out.mono ?_; rintro ex w1 ⟨rfl, rfl⟩)
  go_ret
  exact ⟨rfl, rfl⟩
set_option maxRecDepth 100000 in
theorem coded_nil (W : World) : Calls Try.prog 36 #[.pointer none] W fun e w' => e = .returned (.slice none 0 0) ∧ w' = W := by
  go_enter Try.func36, Try.ntmps36
  go_wp2
  go_ret
  exact ⟨rfl, rfl⟩
set_option maxRecDepth 100000 in
theorem copy_nil (W : World) : Calls Try.prog 29 #[.pointer none] W fun e w' => e = .returned (.pointer none) ∧ w' = W := by
  go_enter Try.func29, Try.ntmps29
  go_wp2
  go_ret
  exact ⟨rfl, rfl⟩
end Go.Proofs.Yteeghdkejnhjnaa.Bo
