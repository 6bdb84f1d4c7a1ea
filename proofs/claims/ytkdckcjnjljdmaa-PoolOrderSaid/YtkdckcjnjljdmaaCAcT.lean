/- The walks of the ledger's Total, and of all its calls on no ledger. -/
import Derived.Test.YtkdckcjnjljdmaaCAcD
namespace Go.Proofs.Ytkdckcjnjljdmaa.Ac
open Go Go.RowKit Go.Shelf Kt Ad

/-- The cells of the k-th address of a row. -/
theorem row_addr {W : World} {base : Nat} {g cap n : Nat} {l : List A8} (h : W.ownsRow base 23 8 (.slice (some ⟨g, 0, none⟩) n cap) n (addrCells l)) {k : Nat} {a : A8} (hk : l[k]? = some a) (j : Nat) (hj : j < 8) : W.cell? ⟨g, k * 8 + j, none⟩ = a.cs[j]? := by
  have hlt : k < l.length := (List.getElem?_eq_some_iff.1 hk).1
  have h2 := getElem?_addrCells l (k * 8 + j) (by omega)
  rw [show (k * 8 + j) / 8 = k by omega, show (k * 8 + j) % 8 = j by omega, getElem!_pos l k hlt, (List.getElem?_eq_some_iff.1 hk).2] at h2
  have h3 := h.cells (g := g) rfl _ _ h2
  have hadd : (⟨g, 0, none⟩ : Addr).add (k * 8 + j) = ⟨g, k * 8 + j, none⟩ := by unfold Addr.add; split <;> simp_all
  rw [hadd] at h3
  rw [h3]
  have hl : a.cs.length = 8 := rfl
  rw [getElem!_pos _ _ (by omega), List.getElem?_eq_getElem (by omega)]
theorem row_addrs {W : World} {base : Nat} {g cap n : Nat} {l : List A8} (h : W.ownsRow base 23 8 (.slice (some ⟨g, 0, none⟩) n cap) n (addrCells l)) {k : Nat} {a : A8} (hk : l[k]? = some a) :
    W.cell? ⟨g, k * 8, none⟩ = some (.int .u8 a.x0.toNat) ∧ W.cell? ⟨g, k * 8 + 1, none⟩ = some (.int .u8 a.x1.toNat) ∧ W.cell? ⟨g, k * 8 + 2, none⟩ = some (.int .u8 a.x2.toNat) ∧ W.cell? ⟨g, k * 8 + 3, none⟩ = some (.int .u8 a.x3.toNat) ∧ W.cell? ⟨g, k * 8 + 4, none⟩ = some (.int .u8 a.x4.toNat) ∧ W.cell? ⟨g, k * 8 + 5, none⟩ = some (.int .u8 a.x5.toNat) ∧ W.cell? ⟨g, k * 8 + 6, none⟩ = some (.int .u8 a.x6.toNat) ∧ W.cell? ⟨g, k * 8 + 7, none⟩ = some (.int .u8 a.x7.toNat) :=
  ⟨row_addr h hk 0 (by omega), row_addr h hk 1 (by omega), row_addr h hk 2 (by omega), row_addr h hk 3 (by omega), row_addr h hk 4 (by omega), row_addr h hk 5 (by omega), row_addr h hk 6 (by omega), row_addr h hk 7 (by omega)⟩

set_option maxRecDepth 100000 in
set_option maxHeartbeats 4000000 in
theorem total_any {W : World} {bl bm : Nat} {L : List Ent} (h : Led W bl bm L) (hN : L.length ≤ 2000000000000) :
    Calls Try.prog 24 #[.pointer (some ⟨bl, 0, none⟩)] W fun e w' => e = .returned (.tuple #[.int .u64 ((tot L).1 : Nat), .bool (tot L).2]) ∧ Below W.heap.size W w' := by
  have HA := Lib.hid (all_any h hN)
  have HH := Lib.hid h
  clear h
  go_enter Try.func24, Try.ntmps24
  go_wp2_with fail
  refine HA.out.mono ?_
  rintro en w1 ⟨v, rfl, hrow, hB⟩
  have hL1 := HH.out.later hB
  have HB := Lib.hid hB
  clear HA HH hB
  have hrow' := hrow
  rcases hrow.2 with ⟨rfl, h0⟩ | ⟨g, cap, cur, rfl, hbase, hb, h1, h2, h3, h4⟩
  · obtain rfl : L = [] := List.eq_nil_of_length_eq_zero h0
    clear hrow hrow' h0
    go_wp2
    refine wp_loop_rounds 1 ?_
    rw [rounds_succ]
    go_wp2
    go_ret2
    exact ⟨rfl, HB.out⟩
  · have HROW := Lib.hid hrow'
    clear hrow hrow' h1 h2 h3 h4 hb
    go_wp2_with fail
    go_loopw [2, 11] (fun s i wr => ∃ k t : Nat, k ≤ L.length ∧ t < 18446744073709551616 ∧ i = .int .i64 k ∧ s = .int .u64 t ∧ totGo 0 L = totGo t (L.drop k) ∧ Led wr bl bm L ∧ wr.ownsRow W.heap.size 23 8 (.slice (some ⟨g, 0, none⟩) L.length cap) L.length (addrCells (L.map (·.a))) ∧ Below W.heap.size W wr)
      (fun _ i _ => L.length - (intOf i).toNat)
    case atStart => exact ⟨0, 0, by omega, by omega, rfl, rfl, by simp, hL1, HROW.out, HB.out⟩
    case round =>
      obtain ⟨k, t, hk, ht, rfl, rfl, htot, hL, hrow, hB⟩ := hrel
      have HTOT := Lib.hid htot
      have HB2 := Lib.hid hB
      clear htot hB hL1 HROW HB
      by_cases hlt : k < L.length
      · obtain ⟨x, hx⟩ : ∃ x, x = L[k] := ⟨_, rfl⟩
        have hget : (L.map (·.a))[k]? = some x.a := by simp [hlt, hx]
        obtain ⟨c0, c1, c2, c3, c4, c5, c6, c7⟩ := row_addrs hrow hget
        have HD := Lib.hid (show totGo t (L.drop k) = if M64 ≤ t + x.b then (0, false) else totGo (t + x.b) (L.drop (k + 1)) by rw [List.drop_eq_getElem_cons hlt, ← hx]; rfl)
        have hmem : x ∈ L := hx ▸ List.getElem_mem hlt
        have hbal := get_mem hL.ok.rise hmem
        have hxb : x.b < 18446744073709551616 := (hL.ok.fit x hmem).2.1
        have HBAL := Lib.hid (show ∀ w' : World, Led w' bl bm L → Calls Try.prog 45 #[.pointer (some ⟨bl, 0, none⟩), x.a.v] w' fun e w'' => e = .returned (.int .u64 x.b) ∧ Below w'.heap.size w' w'' from fun w' h' => by have := balance_any h' x.a; rw [hbal] at this; exact this)
        have HROW2 := Lib.hid hrow
        have HL2 := Lib.hid hL
        simp only [A8.v] at HBAL
        clear hrow hget hx hmem hbal hL
        have hsz : wr.heap.size ≤ (wr.alloc (.cells x.a.cs.toArray 23)).heap.size := by simp
        by_cases hov : 18446744073709551616 ≤ t + x.b
        · have ha := add64_hi ht hxb hov
          have HT := Lib.hid (show tot L = (0, false) by unfold tot; rw [HTOT.out, HD.out, if_pos hov])
          clear hov hxb HTOT HD
          go_wp2_with fail
          refine (HBAL.out _ (HL2.out.alloc _)).mono ?_
          rintro en w2 ⟨rfl, hB3⟩
          have HB3 := Lib.hid (HB2.out.trans ((((Below.refl _ wr).alloc (Nat.le_refl _) (.cells x.a.cs.toArray 23)).trans (hB3.mono hsz)).mono HB2.out.size))
          clear c0 c1 c2 c3 c4 c5 c6 c7 hB3 HB2
          go_wp2_with fail
          go_ret2
          exact ⟨by rw [HT.out]; rfl, HB3.out⟩
        · have ha := add64_lo (show t + x.b < 18446744073709551616 by omega)
          have HT := Lib.hid (show totGo 0 L = totGo (t + x.b) (L.drop (k + 1)) by rw [HTOT.out, HD.out, if_neg hov])
          have ht' : t + x.b < 18446744073709551616 := by omega
          have HT' := Lib.hid ht'
          clear hov hxb HTOT HD ht'
          generalize t + x.b = t' at ha HT HT'
          go_wp2_with fail
          refine (HBAL.out _ (HL2.out.alloc _)).mono ?_
          rintro en w2 ⟨rfl, hB3⟩
          have hBr : Below wr.heap.size wr w2 := ((Below.refl _ wr).alloc (Nat.le_refl _) (.cells x.a.cs.toArray 23)).trans (hB3.mono hsz)
          have HB3 := Lib.hid (HB2.out.trans (hBr.mono HB2.out.size))
          have HL3 := Lib.hid (HL2.out.later hBr)
          have HR3 := Lib.hid (HROW2.out.kept (grownBy_below hBr none) (by right; simp [Value.ownBlock]))
          clear c0 c1 c2 c3 c4 c5 c6 c7 hB3 HB2 hBr HROW2 HL2
          go_wp2_with fail
          go_roundw
          case rel => exact ⟨k + 1, t', by omega, HT'.out, by go_num, rfl, HT.out, HL3.out, HR3.out, HB3.out⟩
          case measure => simp [intOf]; omega
      · obtain rfl : k = L.length := by omega
        have HT := Lib.hid (show tot L = (t, true) by unfold tot; rw [HTOT.out]; simp [totGo])
        go_wp2_with fail
        go_ret2
        exact ⟨by rw [HT.out]; rfl, HB2.out⟩
set_option maxRecDepth 100000 in
set_option maxHeartbeats 2000000 in
theorem balance_nil (W : World) (a : A8) :
    Calls Try.prog 45 #[.pointer none, a.v] W fun e w' => e = .returned (.int .u64 0) ∧ Below W.heap.size W w' := by
  simp only [A8.v]
  go_enter Try.func45, Try.ntmps45
  go_wp2
  go_ret
  exact ⟨rfl, (Below.refl _ _).alloc (Nat.le_refl _) _⟩
set_option maxRecDepth 100000 in
set_option maxHeartbeats 2000000 in
theorem nonce_nil (W : World) (a : A8) :
    Calls Try.prog 28 #[.pointer none, a.v] W fun e w' => e = .returned (.int .u64 0) ∧ Below W.heap.size W w' := by
  simp only [A8.v]
  go_enter Try.func28, Try.ntmps28
  go_wp2
  go_ret
  exact ⟨rfl, (Below.refl _ _).alloc (Nat.le_refl _) _⟩
set_option maxRecDepth 100000 in
set_option maxHeartbeats 2000000 in
theorem all_nil (W : World) :
    Calls Try.prog 43 #[.pointer none] W fun e w' => e = .returned (.slice none 0 0) ∧ Below W.heap.size W w' := by
  go_enter Try.func43, Try.ntmps43
  go_wp2
  go_ret
  exact ⟨rfl, Below.refl _ _⟩
set_option maxRecDepth 100000 in
set_option maxHeartbeats 2000000 in
theorem total_nil (W : World) :
    Calls Try.prog 24 #[.pointer none] W fun e w' => e = .returned (.tuple #[.int .u64 0, .bool true]) ∧ Below W.heap.size W w' := by
  go_enter Try.func24, Try.ntmps24
  go_wp2_with (go_at_call 43; refine (all_nil _).mono ?_; rintro en w2 ⟨rfl, hb⟩)
  refine wp_loop_rounds 1 ?_
  rw [rounds_succ]
  go_wp2
  go_ret2
  exact ⟨rfl, hb⟩
end Go.Proofs.Ytkdckcjnjljdmaa.Ac
