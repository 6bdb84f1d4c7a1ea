/- tx.May, tx.Least, tx.be. -/
import Derived.Test.YtkdckcjnjljdmaaCZg
import Derived.Test.YtkdckcjnjljdmaaCAdP
import Derived.Test.YtkdckcjnjljdmaaCKa
import Derived.Lib.Walk
namespace Go.Proofs.Ytkdckcjnjljdmaa.Po
open Go Go.RowKit Go.Lib Kt Fm Ad Kv

@[go_sem] theorem eql_addr0 (w : World) (a0 a1 a2 a3 a4 a5 a6 a7 : UInt8) : (Op.equalIn 10000 23
    (.agg #[.int .u8 a0.toNat, .int .u8 a1.toNat, .int .u8 a2.toNat, .int .u8 a3.toNat, .int .u8 a4.toNat, .int .u8 a5.toNat, .int .u8 a6.toNat, .int .u8 a7.toNat])
    (.agg #[.int .u8 0, .int .u8 0, .int .u8 0, .int .u8 0, .int .u8 0, .int .u8 0, .int .u8 0, .int .u8 0])).run Try.prog w = .ok (decide ((⟨a0, a1, a2, a3, a4, a5, a6, a7⟩ : A8) = ⟨0, 0, 0, 0, 0, 0, 0, 0⟩)) w :=
  equalIn_addr w 9998 ⟨a0, a1, a2, a3, a4, a5, a6, a7⟩ ⟨0, 0, 0, 0, 0, 0, 0, 0⟩
theorem sizeTx : (Try.prog.info? 32).map (·.size) = some 22 := by kernel_rfl
theorem kind_int {k : UInt8} {n : Nat} (h : ¬ k = UInt8.ofNat n) : ¬ ((k.toNat : Nat) : Int) = (n : Int) := fun e => h (by
  have : k.toNat = n := by omega
  rw [← this]
  simp)
set_option maxRecDepth 100000 in
set_option maxHeartbeats 16000000 in
theorem tx_may {W : World} {t : Tx} (h : TxOk W t) : Calls Try.prog 52 #[.agg t.cs.toArray] W fun e w' => e = .returned (.int .i64 (mayT t)) ∧ Below W.heap.size W w' := by
  obtain ⟨s, c, hdv⟩ := h.form
  have HDV := Lib.hid hdv
  clear hdv h
  obtain ⟨m, hm⟩ : ∃ m, m = mayT t := ⟨_, rfl⟩
  rw [← hm]
  have HM := Lib.hid hm
  clear hm
  go_enter Try.func52, Try.ntmps52
  go_upto_region 2 with (refine wl_box t.cs _ rfl rfl rfl (fun w1 hb1 hl1 => ?_); have HB1 := Lib.hid hb1; have HL1 := Lib.hid hl1; obtain ⟨B, hB⟩ : ∃ B, B = W.heap.size := ⟨_, rfl⟩; rw [← hB] at HL1 ⊢; clear hB hb1 hl1; (try simp only [Act.put, List.setIfInBounds_toArray, List.set_cons_zero, List.set_cons_succ]))
  obtain ⟨L, hL⟩ : ∃ L, L = t.data.length := ⟨_, rfl⟩
  have z21 : w1.cell? ⟨B, 21, none⟩ = some (.slice s L c) := (HL1.out.cell 21).trans (congrArg some (by rw [hL]; exact HDV.out))
  have HLN := Lib.hid hL
  clear hL
  have k0 : w1.cell? ⟨B, 0, none⟩ = some (.int .u8 t.kind.toNat) := HL1.out.cell 0
  by_cases h1 : t.kind = 1
  · have z0 : w1.cell? ⟨B, 0, none⟩ = some (.int .u8 1) := k0.trans (by rw [h1]; rfl)
    clear k0
    by_cases hl : L = 0
    · have hl3 : t.data.length ≤ 0 := by rw [← HLN.out]; omega
      have E := Lib.hid (show m = 0 from HM.out.trans (by unfold mayT; rw [if_pos h1, if_pos hl3]))
      clear HM
      go_wp2_with fail
      go_ret
      exact ⟨by rw [E.out]; rfl, HB1.out⟩
    · have hl3 : ¬ t.data.length ≤ 0 := by rw [← HLN.out]; omega
      have E := Lib.hid (show m = 2 from HM.out.trans (by unfold mayT; rw [if_pos h1, if_neg hl3]))
      clear HM
      go_wp2_with fail
      go_ret
      exact ⟨by rw [E.out]; rfl, HB1.out⟩
  by_cases h2 : t.kind = 2
  · have z0 : w1.cell? ⟨B, 0, none⟩ = some (.int .u8 2) := k0.trans (by rw [h2]; rfl)
    clear k0
    have z9 : w1.cell? ⟨B, 9, none⟩ = some (.int .u8 t.to.x0.toNat) := HL1.out.cell 9
    have z10 : w1.cell? ⟨B, 10, none⟩ = some (.int .u8 t.to.x1.toNat) := HL1.out.cell 10
    have z11 : w1.cell? ⟨B, 11, none⟩ = some (.int .u8 t.to.x2.toNat) := HL1.out.cell 11
    have z12 : w1.cell? ⟨B, 12, none⟩ = some (.int .u8 t.to.x3.toNat) := HL1.out.cell 12
    have z13 : w1.cell? ⟨B, 13, none⟩ = some (.int .u8 t.to.x4.toNat) := HL1.out.cell 13
    have z14 : w1.cell? ⟨B, 14, none⟩ = some (.int .u8 t.to.x5.toNat) := HL1.out.cell 14
    have z15 : w1.cell? ⟨B, 15, none⟩ = some (.int .u8 t.to.x6.toNat) := HL1.out.cell 15
    have z16 : w1.cell? ⟨B, 16, none⟩ = some (.int .u8 t.to.x7.toNat) := HL1.out.cell 16
    by_cases ht : t.to = ⟨0, 0, 0, 0, 0, 0, 0, 0⟩
    · have ht2 : ((⟨t.to.x0, t.to.x1, t.to.x2, t.to.x3, t.to.x4, t.to.x5, t.to.x6, t.to.x7⟩ : A8) = ⟨0, 0, 0, 0, 0, 0, 0, 0⟩) := ht
      by_cases hl : L ≤ 65536
      · have hl2 : (L : Int) ≤ 65536 := (by omega); have hl3 : t.data.length ≤ 65536 := by rw [← HLN.out]; exact hl
        have E := Lib.hid (show m = 0 from HM.out.trans (by unfold mayT; rw [if_neg h1, if_pos h2, if_neg (fun hn => hn ht), if_pos hl3]))
        clear HM
        replace ht := Lib.hid ht
        go_wp2_with fail
        go_ret
        exact ⟨by rw [E.out]; rfl, HB1.out⟩
      · have hl2 : ¬ (L : Int) ≤ 65536 := (by omega); have hl3 : ¬ t.data.length ≤ 65536 := by rw [← HLN.out]; exact hl
        have E := Lib.hid (show m = 3 from HM.out.trans (by unfold mayT; rw [if_neg h1, if_pos h2, if_neg (fun hn => hn ht), if_neg hl3]))
        clear HM
        replace ht := Lib.hid ht
        go_wp2_with fail
        go_ret
        exact ⟨by rw [E.out]; rfl, HB1.out⟩
    · have ht2 : ¬ ((⟨t.to.x0, t.to.x1, t.to.x2, t.to.x3, t.to.x4, t.to.x5, t.to.x6, t.to.x7⟩ : A8) = ⟨0, 0, 0, 0, 0, 0, 0, 0⟩) := ht
      have E := Lib.hid (show m = 2 from HM.out.trans (by unfold mayT; rw [if_neg h1, if_pos h2, if_pos ht]))
      clear HM
      replace ht := Lib.hid ht
      go_wp2_with fail
      go_ret
      exact ⟨by rw [E.out]; rfl, HB1.out⟩
  by_cases h3 : t.kind = 3
  · have z0 : w1.cell? ⟨B, 0, none⟩ = some (.int .u8 3) := k0.trans (by rw [h3]; rfl)
    clear k0
    by_cases hl : L ≤ 4096
    · have hl2 : (L : Int) ≤ 4096 := (by omega); have hl3 : t.data.length ≤ 4096 := by rw [← HLN.out]; exact hl
      have E := Lib.hid (show m = 0 from HM.out.trans (by unfold mayT; rw [if_neg h1, if_neg h2, if_pos h3, if_pos hl3]))
      clear HM
      go_wp2_with fail
      go_ret
      exact ⟨by rw [E.out]; rfl, HB1.out⟩
    · have hl2 : ¬ (L : Int) ≤ 4096 := (by omega); have hl3 : ¬ t.data.length ≤ 4096 := by rw [← HLN.out]; exact hl
      have E := Lib.hid (show m = 3 from HM.out.trans (by unfold mayT; rw [if_neg h1, if_neg h2, if_pos h3, if_neg hl3]))
      clear HM
      go_wp2_with fail
      go_ret
      exact ⟨by rw [E.out]; rfl, HB1.out⟩
  have n1 : ¬ ((t.kind.toNat : Nat) : Int) = 1 := kind_int (n := 1) h1
  have n2 : ¬ ((t.kind.toNat : Nat) : Int) = 2 := kind_int (n := 2) h2
  have n3 : ¬ ((t.kind.toNat : Nat) : Int) = 3 := kind_int (n := 3) h3
  have E := Lib.hid (show m = 2 from HM.out.trans (by unfold mayT; rw [if_neg h1, if_neg h2, if_neg h3]))
  clear HM
  go_wp2_with fail
  go_ret
  exact ⟨by rw [E.out]; rfl, HB1.out⟩
set_option maxRecDepth 100000 in
set_option maxHeartbeats 16000000 in
theorem tx_least {W : World} {t : Tx} (h : TxOk W t) (hlen : t.data.length ≤ 65536) : Calls Try.prog 53 #[.agg t.cs.toArray] W fun e w' => e = .returned (.int .u64 (leastT t)) ∧ Below W.heap.size W w' := by
  obtain ⟨s, c, hdv⟩ := h.form
  have HDV := Lib.hid hdv
  clear hdv h
  obtain ⟨m, hm⟩ : ∃ m, m = leastT t := ⟨_, rfl⟩
  rw [← hm]
  have HM := Lib.hid hm
  clear hm
  go_enter Try.func53, Try.ntmps53
  go_upto_region 2 with (refine wl_box t.cs _ rfl rfl rfl (fun w1 hb1 hl1 => ?_); have HB1 := Lib.hid hb1; have HL1 := Lib.hid hl1; obtain ⟨B, hB⟩ : ∃ B, B = W.heap.size := ⟨_, rfl⟩; rw [← hB] at HL1 ⊢; clear hB hb1 hl1; (try simp only [Act.put, List.setIfInBounds_toArray, List.set_cons_zero, List.set_cons_succ]))
  obtain ⟨L, hL⟩ : ∃ L, L = t.data.length := ⟨_, rfl⟩
  have z21 : w1.cell? ⟨B, 21, none⟩ = some (.slice s L c) := (HL1.out.cell 21).trans (congrArg some (by rw [hL]; exact HDV.out))
  have hLb : L ≤ 65536 := by rw [hL]; exact hlen
  have HLN := Lib.hid hL
  clear hL hlen
  have k0 : w1.cell? ⟨B, 0, none⟩ = some (.int .u8 t.kind.toNat) := HL1.out.cell 0
  by_cases h2 : t.kind = 2
  · have z0 : w1.cell? ⟨B, 0, none⟩ = some (.int .u8 2) := k0.trans (by rw [h2]; rfl)
    clear k0
    have E := Lib.hid (show (m : Int) = 1000 + 24 * (L : Int) from by rw [HM.out, HLN.out]; unfold leastT; rw [if_pos h2]; omega)
    clear HM
    go_wp2_with fail
    go_ret
    exact ⟨by rw [E.out]; rfl, HB1.out⟩
  · have n2 : ¬ ((t.kind.toNat : Nat) : Int) = 2 := kind_int (n := 2) h2
    have E := Lib.hid (show (m : Int) = 1000 + 4 * (L : Int) from by rw [HM.out, HLN.out]; unfold leastT; rw [if_neg h2]; omega)
    clear HM
    go_wp2_with fail
    go_ret
    exact ⟨by rw [E.out]; rfl, HB1.out⟩
theorem be_byte (n e : Nat) : (n : Int) / 2 ^ (8 * e) % 256 = ((UInt8.ofNat (n / 256 ^ e % 256)).toNat : Int) := by
  have h1 : (256 : Nat) ^ e = 2 ^ (8 * e) := by rw [Nat.pow_mul]
  have h2 : (2 : Int) ^ (8 * e) = (((2 : Nat) ^ (8 * e) : Nat) : Int) := (Int.natCast_pow 2 (8 * e)).symm
  rw [h2, h1]
  generalize (2 : Nat) ^ (8 * e) = d
  rw [← Int.natCast_ediv]
  generalize n / d = q
  simp only [UInt8.toNat_ofNat']
  omega
theorem infz_b : (Try.prog.info? 5).map (fun i => (i.zero.map (·.cells.size), i.size, i.bytes)) = some (some 1, 1, 1) := by kernel_rfl
set_option maxRecDepth 100000 in
set_option maxHeartbeats 16000000 in
theorem be_any {W : World} {base k : Nat} {v : Value} {xs : List Value} (hr : W.ownsRow base 5 1 v k xs) (hb : base ≤ W.heap.size) (hk : k ≤ 70000) {n : Nat} {many : Nat} (hm : many ≤ 8) : Calls Try.prog 60 #[v, .int .u64 n, .int .i64 many] W fun e w' => ∃ v', e = .returned v' ∧ w'.ownsRow base 5 1 v' (k + many) (xs ++ (be many n).flatMap bc) ∧ Below base W w' ∧ FrT [5] W w' := by
  have HR := Lib.hid hr
  clear hr
  go_enter Try.func60, Try.ntmps60
  go_wp2_with fail
  go_loopw [0, 7] (fun v' iv wr => ∃ j : Nat, j ≤ many ∧ iv = .int .i64 ((many : Int) - 1 - j) ∧ wr.ownsRow base 5 1 v' (k + j) (xs ++ ((be many n).take j).flatMap bc) ∧ Below base W wr ∧ FrT [5] W wr) (fun _ iv _ => (RowKit.intOf iv + 1).toNat)
  case atStart => exact ⟨0, Nat.zero_le _, by simp, by simpa using HR.out, Below.refl _ _, FrT.refl _ _⟩
  case round =>
    obtain ⟨j, hj, rfl, hrow, hbw, hfw⟩ := hrel
    have HF2 := Lib.hid hfw
    clear hfw
    have HR2 := Lib.hid hrow
    have HB2 := Lib.hid hbw
    clear hrow hbw
    by_cases hlt : j < many
    · have hlt2 : (0 : Int) ≤ (many : Int) - 1 - j := by omega
      obtain ⟨b, hbb⟩ : ∃ b, b = UInt8.ofNat (n / 256 ^ (many - 1 - j) % 256) := ⟨_, rfl⟩
      have HBY := Lib.hid (show (n : Int) / 2 ^ (8 * (many - 1 - j)) % 256 = ((b.toNat : Nat) : Int) from by rw [hbb]; exact be_byte n _)
      have HGT := Lib.hid (show (be many n).take (j + 1) = (be many n).take j ++ [b] from by rw [List.take_add_one, be_get many n j hlt, ← hbb]; rfl)
      clear hbb
      go_wp2_with (first | (refine wl_bsN (e := 5) (d := 20) rfl rfl [Value.int .u8 ((n : Int) / 2 ^ (8 * (many - 1 - j)) % 256)] rfl (fun w => by kernel_rfl) (fun w1 hb1 hl1 => ?_); have HL1 := Lib.hid (show Lies w1 wr.heap.size 5 (bc b).toArray from by unfold bc; rw [← HBY.out]; exact hl1); have HR3 := Lib.hid (ownsRow_keep HR2.out hb1); have HB3 := Lib.hid (HB2.out.trans (hb1.mono (Nat.le_trans hb HB2.out.size))); have HF3 := Lib.hid ((HF2.out.trans (FrT.below hb1 [])).sub (by simp) : FrT [5] W w1); obtain ⟨g, hg⟩ : ∃ g, g = wr.heap.size := ⟨_, rfl⟩; rw [← hg] at HL1 ⊢; clear hg hb1 hl1; (try simp only [Act.put, List.setIfInBounds_toArray, List.set_cons_zero, List.set_cons_succ])) | (refine wl_app (by_ := 1) _ _ rfl rfl Try.underlying30 infz_b (by decide) rfl HR3.out bc_len rfl (sl_one HL1.out) (fun y hy u hu => by obtain rfl := List.mem_singleton.1 hy; obtain rfl := List.mem_singleton.1 hu; rfl) (by unfold maxLen; simp; omega) (by simp; omega) (Nat.le_trans hb HB3.out.size) (fun v2 w2 hr2 hg2 hv2 => ?_); have HR4 := Lib.hid hr2; have HB4 := Lib.hid (HB3.out.grown hg2 (Nat.le_trans hb HB3.out.size) (fun _ hk => (row_block HR3.out hk).1)); have HF4 := Lib.hid ((HF3.out.trans (FrT.grown HR3.out hg2)).sub (by simp) : FrT [5] W w2); clear hr2 hg2 hv2; (try simp only [Act.put, List.setIfInBounds_toArray, List.set_cons_zero, List.set_cons_succ])))
      go_roundw
      case rel => exact ⟨j + 1, hlt, by rw [show ((j + 1 : Nat) : Int) = (j : Int) + 1 from rfl]; congr 1; omega, by rw [HGT.out, List.flatMap_append, ← List.append_assoc]; exact HR4.out, HB4.out, HF4.out⟩
      case measure => simp [RowKit.intOf]; omega
    · have hlt2 : ¬ (0 : Int) ≤ (many : Int) - 1 - j := by omega
      have HJ := Lib.hid (show j = many from by omega)
      go_wp2_with fail
      go_ret
      exact ⟨_, rfl, by have h := HR2.out; rw [HJ.out, List.take_of_length_le (by rw [be_len]; exact Nat.le_refl _)] at h; exact h, HB2.out, HF2.out⟩
end Go.Proofs.Ytkdckcjnjljdmaa.Po
namespace Go.Proofs.Ytkdckcjnjljdmaa.Po
open Go Go.RowKit Go.Lib Kt Fm Ad Kv

set_option maxRecDepth 100000 in
set_option maxHeartbeats 16000000 in
theorem nan_any (a : Nat) (W : World) : Calls Try.prog 61 #[.int .u64 a] W fun e w' => e = .returned (.bool false) ∧ Below W.heap.size W w' := by
  go_enter Try.func61, Try.ntmps61
  go_wp2_with fail
  go_ret
  exact ⟨rfl, Below.refl _ _⟩
set_option maxRecDepth 100000 in
set_option maxHeartbeats 16000000 in
theorem cmp_any (a b : Nat) (W : World) : Calls Try.prog 51 #[.int .u64 a, .int .u64 b] W fun e w' => e = .returned (.int .i64 (cmpN a b)) ∧ Below W.heap.size W w' := by
  obtain ⟨m, hm⟩ : ∃ m, m = cmpN a b := ⟨_, rfl⟩
  rw [← hm]
  have HM := Lib.hid hm
  clear hm
  go_enter Try.func51, Try.ntmps51
  go_wp2_with fail
  refine (nan_any a _).mono ?_
  rintro en w1 ⟨rfl, hb⟩
  have HB1 := Lib.hid hb
  clear hb
  go_wp2_with fail
  refine (nan_any b _).mono ?_
  rintro en w2 ⟨rfl, hb⟩
  have HB2 := Lib.hid (bt HB1.out hb)
  clear hb
  by_cases h1 : a < b
  · have E := Lib.hid (show m = -1 from HM.out.trans (by unfold cmpN; rw [if_pos h1]))
    clear HM
    have h2 : (a : Int) < (b : Int) := by omega
    go_wp2_with fail
    go_ret
    exact ⟨by rw [E.out]; rfl, HB2.out⟩
  by_cases h3 : b < a
  · have E := Lib.hid (show m = 1 from HM.out.trans (by unfold cmpN; rw [if_neg h1, if_pos h3]))
    clear HM
    have h2 : ¬ (a : Int) < (b : Int) := by omega
    have h4 : (b : Int) < (a : Int) := by omega
    go_wp2_with fail
    go_ret
    exact ⟨by rw [E.out]; rfl, HB2.out⟩
  have E := Lib.hid (show m = 0 from HM.out.trans (by unfold cmpN; rw [if_neg h1, if_neg h3]))
  clear HM
  have h2 : ¬ (a : Int) < (b : Int) := by omega
  have h4 : ¬ (b : Int) < (a : Int) := by omega
  go_wp2_with fail
  go_ret
  exact ⟨by rw [E.out]; rfl, HB2.out⟩
def ic (x : Int) : List Value := [.int .i64 x]
/-- The first that is not zero. -/
def orL : List Int → Int
  | [] => 0
  | a :: r => if a ≠ 0 then a else orL r
theorem orL_two (a b : Int) : orL [a, b] = orI a b := by
  by_cases h : a = 0 <;> by_cases h2 : b = 0 <;> simp [orL, orI, h, h2]
theorem orL_three (a b c : Int) : orL [a, b, c] = orI a (orI b c) := by
  rw [← orL_two b c]
  rfl
set_option maxRecDepth 100000 in
set_option maxHeartbeats 16000000 in
theorem or_any {W : World} {l : List Int} {v : Value} (h : Sl W 1 ic v l) (hl : l.length ≤ 100) : Calls Try.prog 50 #[v] W fun e w' => e = .returned (.int .i64 (orL l)) ∧ Below W.heap.size W w' := by
  obtain ⟨s, c, rfl, hf⟩ := h.form
  have HS := Lib.hid h
  have HF := Lib.hid hf
  clear h hf
  go_enter Try.func50, Try.ntmps50
  go_wp2_with fail
  go_loopw [8] (fun iv wr => ∃ k : Nat, k ≤ l.length ∧ iv = .int .i64 k ∧ orL l = orL (l.drop k) ∧ wr = W) (fun iv _ => l.length - (RowKit.intOf iv).toNat)
  case atStart => exact ⟨0, Nat.zero_le _, rfl, rfl, rfl⟩
  case round =>
    obtain ⟨k, hk, rfl, hor, rfl⟩ := hrel
    have HO := Lib.hid hor
    clear hor
    by_cases hlt : k < l.length
    · have hlt2 : (k : Int) < (l.length : Int) := by omega
      obtain ⟨x, hx⟩ : ∃ x, l[k]? = some x := ⟨_, List.getElem?_eq_getElem hlt⟩
      obtain ⟨g, off, rfl, _⟩ := HF.out (by intro e; rw [e] at hlt; simp at hlt)
      have z : wr.cell? ⟨g, off + k, none⟩ = some (.int .i64 x) := by have h := HS.out.cell hx (j := 0) (u := .int .i64 x) rfl; simpa using h
      have HD := Lib.hid (show orL (l.drop k) = if x ≠ 0 then x else orL (l.drop (k + 1)) from by rw [List.drop_eq_getElem_cons hlt, (List.getElem?_eq_some_iff.1 hx).2]; rfl)
      clear hx
      by_cases h0 : x = 0
      · have HE := Lib.hid (show orL l = orL (l.drop (k + 1)) from by rw [HO.out, HD.out, if_neg (fun hn => hn h0)])
        clear HD HO
        go_wp2_with fail
        go_roundw
        case rel => exact ⟨k + 1, hlt, by go_num, HE.out, by first | rfl | trivial⟩
        case measure => simp [RowKit.intOf]; omega
      · have HE := Lib.hid (show orL l = x from by rw [HO.out, HD.out, if_pos h0])
        clear HD HO
        go_wp2_with fail
        go_ret
        exact ⟨by rw [HE.out]; rfl, Below.refl _ _⟩
    · have hlt2 : ¬ (k : Int) < (l.length : Int) := by omega
      have HE := Lib.hid (show orL l = 0 from by rw [HO.out, List.drop_eq_nil_of_le (by omega)]; rfl)
      clear HO
      go_wp2_with fail
      go_ret
      exact ⟨by rw [HE.out]; rfl, Below.refl _ _⟩
theorem row_none {w : World} {base g : Nat} {e : TypeId} {sz : Nat} (h : Lies w g e #[]) (hb : base ≤ g) : w.ownsRow base e sz (.slice (some ⟨g, 0, none⟩) 0 0) 0 [] :=
  ⟨by simp, .inr ⟨g, 0, #[], rfl, hb, h, Nat.le_refl _, Nat.zero_le _, by simp, by simp⟩⟩
theorem eql_nil_bytes (w : World) (a : Option Addr) (n c n' c' : Nat) : (binOp .eql 30 (.slice a n c) (.slice none n' c')).run Try.prog w = .ok (.bool a.isNone) w := Lib.run_eql_slice_nil w _ _ a n c n' c' Try.underlying30
set_option maxRecDepth 100000 in
set_option maxHeartbeats 16000000 in
theorem clone_any {W : World} {v : Value} {b : List UInt8} (h : Sl W 1 bc v b) (hb : b.length ≤ 100000) : Calls Try.prog 46 #[v] W fun e w' => ∃ v', e = .returned v' ∧ w'.ownsRow W.heap.size 5 1 v' b.length (b.flatMap bc) ∧ Below W.heap.size W w' := by
  obtain ⟨s, c, rfl, hf⟩ := h.form
  have HS := Lib.hid h
  have HF := Lib.hid hf
  clear h hf
  have q := eql_nil_bytes
  go_enter Try.func46, Try.ntmps46
  cases s with
  | none =>
    have HE := Lib.hid (show b = [] from Decidable.byContradiction fun hn => by obtain ⟨g, off, e, _⟩ := HF.out hn; cases e)
    go_wp2_with fail
    go_ret
    exact ⟨_, rfl, by rw [HE.out]; exact World.ownsRow_nil _ _ _ _, Below.refl _ _⟩
  | some ad =>
    go_wp2_with (first | (refine wl_bsN (e := 5) (d := 5) rfl rfl [] rfl (fun w => by kernel_rfl) (fun w1 hb1 hl1 => ?_); have HB1 := Lib.hid hb1; have HR1 := Lib.hid (row_none (sz := 1) hl1 (Nat.le_refl _)); have HS1 := Lib.hid (HS.out.later hb1); clear hb1 hl1; (try simp only [Act.put, List.setIfInBounds_toArray, List.set_cons_zero, List.set_cons_succ])) | (refine wl_app (by_ := 1) _ _ rfl rfl Try.underlying30 infz_b (by decide) rfl HR1.out bc_len rfl HS1.out (fun y _ u hu => by obtain rfl := List.mem_singleton.1 hu; rfl) (by unfold maxLen; omega) (by omega) HB1.out.size (fun v2 w2 hr2 hg2 hv2 => ?_); have HR2 := Lib.hid (show w2.ownsRow W.heap.size 5 1 v2 b.length (b.flatMap bc) from by rw [Nat.zero_add, List.nil_append] at hr2; exact hr2); have HB2 := Lib.hid (HB1.out.grown hg2 HB1.out.size (fun _ hk => (row_block HR1.out hk).1)); clear hr2 hg2 hv2; (try simp only [Act.put, List.setIfInBounds_toArray, List.set_cons_zero, List.set_cons_succ])))
    go_ret
    exact ⟨_, rfl, HR2.out, HB2.out⟩
/-- Its data lie in a block of their own. -/
structure TxOwn (base : Nat) (w : World) (t : Tx) : Prop where
  d : w.ownsRow base 5 1 t.dv t.data.length (t.data.flatMap bc)
  n : t.nonce < 18446744073709551616
  v : t.value < 18446744073709551616
  g : t.gas < 18446744073709551616
  p : t.price < 18446744073709551616
theorem TxOwn.ok {base : Nat} {w : World} {t : Tx} (h : TxOwn base w t) : TxOk w t := ⟨own_sl bc_len h.d, h.n, h.v, h.g, h.p⟩
theorem TxOwn.later {base : Nat} {w w' : World} {t : Tx} (h : TxOwn base w t) (hb : Below w.heap.size w w') : TxOwn base w' t := ⟨ownsRow_keep h.d hb, h.n, h.v, h.g, h.p⟩
theorem TxOwn.frT {base : Nat} {w w' : World} {t : Tx} {es : List TypeId} (h : TxOwn base w t) (hf : FrT es w w') (hn : 5 ∉ es) : TxOwn base w' t := ⟨row_frT h.d hf hn, h.n, h.v, h.g, h.p⟩
def txZ : Tx := ⟨0, ⟨0, 0, 0, 0, 0, 0, 0, 0⟩, ⟨0, 0, 0, 0, 0, 0, 0, 0⟩, 0, 0, 0, 0, .slice none 0 0, []⟩
set_option maxRecDepth 100000 in
set_option maxHeartbeats 16000000 in
theorem own_any {W : World} {t : Tx} (h : TxOk W t) (hlen : t.data.length ≤ 100000) : Calls Try.prog 25 #[.agg t.cs.toArray] W fun e w' => ∃ dv, e = .returned (.agg ({ t with dv := dv } : Tx).cs.toArray) ∧ TxOwn W.heap.size w' { t with dv := dv } ∧ Below W.heap.size W w' := by
  have HK := Lib.hid h
  obtain ⟨s0, c0, hdv⟩ := h.form
  have HDV := Lib.hid hdv
  clear h hdv
  go_enter Try.func25, Try.ntmps25
  go_upto_region 1 with (refine wl_box t.cs _ rfl rfl rfl (fun w1 hb1 hl1 => ?_); have HB1 := Lib.hid hb1; have HL1 := Lib.hid hl1; obtain ⟨B, hB⟩ : ∃ B, B = W.heap.size := ⟨_, rfl⟩; have HBE := Lib.hid hB; rw [← hB] at HL1 ⊢; clear hB hb1 hl1; (try simp only [Act.put, List.setIfInBounds_toArray, List.set_cons_zero, List.set_cons_succ]))
  obtain ⟨w2, hw2⟩ : ∃ w2, w2 = w1.alloc (.cells txZ.cs.toArray 32) := ⟨_, rfl⟩
  rw [show w1.alloc (.cells #[.int .u8 0, .int .u8 0, .int .u8 0, .int .u8 0, .int .u8 0, .int .u8 0, .int .u8 0, .int .u8 0, .int .u8 0, .int .u8 0, .int .u8 0, .int .u8 0, .int .u8 0, .int .u8 0, .int .u8 0, .int .u8 0, .int .u8 0, .int .u64 0, .int .u64 0, .int .u64 0, .int .u64 0, .slice none 0 0] 32) = w2 from hw2.symm]
  have hb2 : Below w1.heap.size w1 w2 := by rw [hw2]; exact (Below.refl _ _).alloc (Nat.le_refl _) _
  obtain ⟨D, hD⟩ : ∃ D, D = w1.heap.size := ⟨_, rfl⟩
  rw [← hD]
  have HB2 := Lib.hid (bt HB1.out hb2)
  have HL2 := Lib.hid (HL1.out.below hb2 HL1.out.lt)
  have HD2 := Lib.hid (show Lies w2 D 32 txZ.cs.toArray from by rw [hw2, hD]; exact Lies.new _ _ _)
  have HDB := Lib.hid (show ¬ B = D from fun e => by have := HL1.out.lt; omega)
  have HDW := Lib.hid (show W.heap.size ≤ D from by rw [hD]; exact HB1.out.size)
  clear hw2 hb2 hD
  have z21 : w2.cell? ⟨B, 21, none⟩ = some t.dv := HL2.out.cell 21
  rw [HDV.out] at z21
  go_wp2_with fail
  rw [← HDV.out]
  refine (clone_any (HK.out.d.later HB2.out) hlen).mono ?_
  rintro en w3 ⟨dv, rfl, hr3, hb3⟩
  have HR3 := Lib.hid (show w3.ownsRow W.heap.size 5 1 dv t.data.length (t.data.flatMap bc) from hr3.mono HB2.out.size)
  have HB3 := Lib.hid (bt HB2.out hb3)
  have HL3 := Lib.hid (HL2.out.below hb3 HL2.out.lt)
  have HD3 := Lib.hid (HD2.out.below hb3 HD2.out.lt)
  have HV3 := Lib.hid (row_cells hr3)
  clear hr3 hb3 z21
  have HO3 := Lib.hid (show TxOwn W.heap.size w3 { t with dv := dv } from ⟨HR3.out, HK.out.n, HK.out.v, HK.out.g, HK.out.p⟩)
  have HBB := Lib.hid (show W.heap.size ≤ B from Nat.le_of_eq HBE.out.symm)
  clear HBE
  go_wp2_with (first | (refine wl_fld (c0 := t.cs) HL3.out _ _ rfl rfl rfl rfl [dv] ({ t with dv := dv } : Tx).cs HV3.out.1 (by kernel_rfl) (by intro u hu; obtain rfl := List.mem_singleton.1 hu; exact HV3.out.2) (by simp [Tx.cs]) rfl (fun w4 hl4 hf4 => ?_); have HL4 := Lib.hid hl4; have HD4 := Lib.hid (lies_fr HD3.out hf4 (fun e => HDB.out e.symm)); have HB4 := Lib.hid (HB3.out.trans (hf4.below HB3.out.size (fun k hk => by rw [hk]; exact HBB.out))); have HO4 := Lib.hid (HO3.out.frT (FrT.field HL3.out hf4) (by decide)); clear hl4 hf4; (try simp only [Act.put])) | (refine wpList_load_mid rfl 32 _ rfl B 0 rfl ({ t with dv := dv } : Tx).cs _ (lies_range HL4.out) Try.underlying32 rfl sizeTx ?_; (try simp only [Act.put, List.setIfInBounds_toArray, List.set_cons_zero, List.set_cons_succ])) | (refine wl_put HD4.out ({ t with dv := dv } : Tx).cs _ _ rfl rfl rfl rfl rfl sizeTx HO4.out.ok.oneB (fun w5 hl5 hf5 => ?_); have HD5 := Lib.hid hl5; have HB5 := Lib.hid (HB4.out.trans (hf5.below HB4.out.size (fun k hk => by rw [hk]; exact HDW.out))); have HO5 := Lib.hid (HO4.out.frT (FrT.field HD4.out hf5) (by decide)); clear hl5 hf5; (try simp only [Act.put])))
  (try simp only [Exit.inBlock, Exit.then])
  exact bodyPost_ret_by (results_c rfl _ _ D ({ t with dv := dv } : Tx).cs _ rfl HD5.out Try.underlying32 rfl sizeTx) rfl ⟨dv, rfl, HO5.out, HB5.out⟩
end Go.Proofs.Ytkdckcjnjljdmaa.Po
namespace Go.Proofs.Ytkdckcjnjljdmaa.Po
open Go Go.RowKit Go.Lib Kt Fm Ad Kv

theorem row_more {w : World} {base : Nat} {e : TypeId} {v : Value} {L M : List UInt8} (h : w.ownsRow base e 1 v (L.length + M.length) (L.flatMap bc ++ M.flatMap bc)) : w.ownsRow base e 1 v (L ++ M).length ((L ++ M).flatMap bc) := by
  rw [List.length_append, List.flatMap_append]
  exact h
/-- An address that is a part of a transaction in a block. -/
theorem sl_part {w : World} {B o : Nat} {t : Tx} (h : Lies w B 32 t.cs.toArray) {a : A8} (ha : ∀ j c, (a.l.flatMap bc)[j]? = some c → t.cs[o + j]? = some c) : Sl w 1 bc (.slice (some ⟨B, o, none⟩) 8 8) a.l := by
  refine ⟨_, 8, rfl, fun _ => ⟨B, o, rfl, h.lt, fun i x hi j c hj => ?_⟩⟩
  have hj0 : j = 0 := by
    have := (List.getElem?_eq_some_iff.1 hj).1
    simp [bc] at this
    exact this
  subst hj0
  rw [Nat.mul_one, Nat.add_zero, h.cell]
  have h2 : (a.l.flatMap bc)[i]? = some c := by
    have h3 := getElem?_flat (enc := bc) bc_len hi (j := 0) (by decide)
    rw [hj] at h3
    simpa using h3
  have := ha i c h2
  simpa using this
theorem sl_frm {w : World} {B : Nat} {t : Tx} (h : Lies w B 32 t.cs.toArray) : Sl w 1 bc (.slice (some ⟨B, 1, none⟩) 8 8) t.frm.l := sl_part h (fun j c hj => by
  match j, hj with
  | 0, hj => exact hj
  | 1, hj => exact hj
  | 2, hj => exact hj
  | 3, hj => exact hj
  | 4, hj => exact hj
  | 5, hj => exact hj
  | 6, hj => exact hj
  | 7, hj => exact hj
  | j + 8, hj => cases hj)
theorem sl_to {w : World} {B : Nat} {t : Tx} (h : Lies w B 32 t.cs.toArray) : Sl w 1 bc (.slice (some ⟨B, 9, none⟩) 8 8) t.to.l := sl_part h (fun j c hj => by
  match j, hj with
  | 0, hj => exact hj
  | 1, hj => exact hj
  | 2, hj => exact hj
  | 3, hj => exact hj
  | 4, hj => exact hj
  | 5, hj => exact hj
  | 6, hj => exact hj
  | 7, hj => exact hj
  | j + 8, hj => cases hj)
def nums (t : Tx) : List Nat := [t.nonce, t.value, t.gas, t.price]
/-- What has been put when so many of the numbers have. -/
def putTo (t : Tx) (k : Nat) : List UInt8 := [t.kind] ++ t.frm.l ++ t.to.l ++ ((nums t).take k).flatMap (be 8)
theorem putTo_len (t : Tx) (k : Nat) (hk : k ≤ 4) : (putTo t k).length = 17 + 8 * k := by
  match k, hk with
  | 0, _ => rfl
  | 1, _ => simp [putTo, nums, be_len, A8.l_len]
  | 2, _ => simp [putTo, nums, be_len, A8.l_len]
  | 3, _ => simp [putTo, nums, be_len, A8.l_len]
  | 4, _ => simp [putTo, nums, be_len, A8.l_len]
theorem putTo_more {t : Tx} {k n : Nat} (h : (nums t)[k]? = some n) : putTo t (k + 1) = putTo t k ++ be 8 n := by
  unfold putTo
  rw [List.take_add_one, h, Option.toList_some, List.flatMap_append, List.flatMap_singleton]
  simp only [List.append_assoc]
theorem putTo_all (t : Tx) : putTo t 4 ++ be 4 t.data.length ++ t.data = t.bytes := by
  unfold putTo Tx.bytes nums
  simp
theorem be8 {W : World} {base k : Nat} {v : Value} {xs : List Value} (hr : W.ownsRow base 5 1 v k xs) (hb : base ≤ W.heap.size) (hk : k ≤ 70000) {n : Nat} : Calls Try.prog 60 #[v, .int .u64 n, .int .i64 8] W fun e w' => ∃ v', e = .returned v' ∧ w'.ownsRow base 5 1 v' (k + 8) (xs ++ (be 8 n).flatMap bc) ∧ Below base W w' ∧ FrT [5] W w' := be_any hr hb hk (many := 8) (Nat.le_refl _)
theorem be4 {W : World} {base k : Nat} {v : Value} {xs : List Value} (hr : W.ownsRow base 5 1 v k xs) (hb : base ≤ W.heap.size) (hk : k ≤ 70000) {n : Nat} : Calls Try.prog 60 #[v, .int .u64 n, .int .i64 4] W fun e w' => ∃ v', e = .returned v' ∧ w'.ownsRow base 5 1 v' (k + 4) (xs ++ (be 4 n).flatMap bc) ∧ Below base W w' ∧ FrT [5] W w' := be_any hr hb hk (many := 4) (by decide)
set_option maxRecDepth 100000 in
set_option maxHeartbeats 16000000 in
theorem put_any {W : World} {t : Tx} (h : TxOk W t) (hm : mayT t = 0) : Calls Try.prog 49 #[.agg t.cs.toArray] W fun e w' => ∃ v', e = .returned (.tuple #[v', .int .i64 0]) ∧ w'.ownsRow W.heap.size 5 1 v' t.bytes.length (t.bytes.flatMap bc) ∧ Below W.heap.size W w' := by
  have HK := Lib.hid h
  have HM := Lib.hid hm
  have hlen := mayT_len hm
  clear h hm
  go_enter Try.func49, Try.ntmps49
  go_upto_region 1 with (refine wl_box t.cs _ rfl rfl rfl (fun w1 hb1 hl1 => ?_); have HB1 := Lib.hid hb1; have HL1 := Lib.hid hl1; obtain ⟨B, hB⟩ : ∃ B, B = W.heap.size := ⟨_, rfl⟩; have HBE := Lib.hid (show W.heap.size ≤ B from Nat.le_of_eq hB.symm); rw [← hB] at HL1 ⊢; clear hB hb1 hl1; (try simp only [Act.put, List.setIfInBounds_toArray, List.set_cons_zero, List.set_cons_succ]))
  go_wp2_with (refine wpList_load_mid rfl 32 _ rfl B 0 rfl t.cs _ (lies_range HL1.out) Try.underlying32 rfl sizeTx ?_; (try simp only [Act.put, List.setIfInBounds_toArray, List.set_cons_zero, List.set_cons_succ]))
  refine (tx_may (HK.out.later HB1.out)).mono ?_
  rintro en w2 ⟨rfl, hb2⟩
  have HB2 := Lib.hid (bt HB1.out hb2)
  have HL2 := Lib.hid (HL1.out.below hb2 HL1.out.lt)
  clear hb2
  rw [HM.out]
  go_upto_region 4 with fail
  refine wp_region_t [(0, 1), (1, 1), (3, 1), (4, 1), (6, 1), (7, 1), (2, 0), (5, 0), (8, 0), (9, 1)] (fun w' => w'.cell? ⟨B, 0, none⟩ = some (.int .u8 t.kind.toNat)) [] [] rfl (by kernel_rfl) (by kernel_rfl) (fun _ _ d _ _ h => by cases d <;> exact h) ((HL2.out.below (below_drew w2) HL2.out.lt).cell 0) (fun p hp => by cases hp) ?_
  have HB3 := Lib.hid (bt HB2.out (below_drew w2))
  have HL3 := Lib.hid (HL2.out.below (below_drew w2) HL2.out.lt)
  generalize w2.drew = w3 at HB3 HL3 ⊢
  repeat (refine ts_take (v := ?_) rfl rfl (fun w' hw' => ?_) ?_; rotate_left; (focus (have q0 := hw'; (try simp only [Act.put, List.setIfInBounds_toArray, List.set_cons_zero, List.set_cons_succ]); go_simp; (try go_bits); (try (with_reducible rfl)))); (try simp only [Act.put, List.setIfInBounds_toArray, List.set_cons_zero, List.set_cons_succ]))
  refine ts_run1 rfl rfl (fun K hK => ?_)
  refine wp_bs1 (e := 5) (.int .u8 t.kind.toNat) (bc t.kind) (fun w => by kernel_rfl) _ rfl rfl (fun w4 hb4 hl4 => ?_)
  have HB4 := Lib.hid (bt HB3.out hb4)
  have HL4 := Lib.hid (HL3.out.below hb4 HL3.out.lt)
  have R4 := Lib.hid (show w4.ownsRow W.heap.size 5 1 (.slice (some ⟨w3.heap.size, 0, none⟩) 1 1) [t.kind].length ([t.kind].flatMap bc) from row_lies (n := 1) (sz := 1) hl4 HB3.out.size rfl (by unfold maxLen; omega))
  clear hb4 hl4
  refine hK.out _ _ (HL4.out.cell 0) (still_none _ _) ?_
  clear hK K
  (try simp only [Act.put, List.setIfInBounds_toArray, List.set_cons_zero, List.set_cons_succ])
  refine ts_run1 rfl rfl (fun K hK => ?_)
  refine wp_app (by_ := 1) _ _ rfl Try.underlying30 infz_b (by decide) rfl R4.out bc_len rfl (sl_frm HL4.out) (fun y _ u hu => by obtain rfl := List.mem_singleton.1 hu; rfl) (by show 1 + 8 ≤ maxLen; unfold maxLen; omega) (by show (1 + 8) * 1 ≤ 140737488355328; omega) HB4.out.size (fun v5 w5 hr5 hg5 hv5 => ?_)
  have R5 := Lib.hid (show w5.ownsRow W.heap.size 5 1 v5 ([t.kind] ++ t.frm.l).length (([t.kind] ++ t.frm.l).flatMap bc) from row_more hr5)
  have HB5 := Lib.hid (HB4.out.grown hg5 HB4.out.size (fun _ hk => (row_block R4.out hk).1))
  have HL5 := Lib.hid (lies_frT HL4.out (FrT.grown R4.out hg5) (by decide))
  clear hr5 hg5 hv5
  refine hK.out _ _ (HL5.out.cell 0) (still_none _ _) ?_
  clear hK K
  (try simp only [Act.put, List.setIfInBounds_toArray, List.set_cons_zero, List.set_cons_succ])
  refine ts_run1 rfl rfl (fun K hK => ?_)
  refine wp_app (by_ := 1) _ _ rfl Try.underlying30 infz_b (by decide) rfl R5.out bc_len rfl (sl_to HL5.out) (fun y _ u hu => by obtain rfl := List.mem_singleton.1 hu; rfl) (by show 9 + 8 ≤ maxLen; unfold maxLen; omega) (by show (9 + 8) * 1 ≤ 140737488355328; omega) HB5.out.size (fun v6 w6 hr6 hg6 hv6 => ?_)
  have R6 := Lib.hid (show w6.ownsRow W.heap.size 5 1 v6 ([t.kind] ++ t.frm.l ++ t.to.l).length (([t.kind] ++ t.frm.l ++ t.to.l).flatMap bc) from row_more hr6)
  have HB6 := Lib.hid (HB5.out.grown hg6 HB5.out.size (fun _ hk => (row_block R5.out hk).1))
  have HL6 := Lib.hid (lies_frT HL5.out (FrT.grown R5.out hg6) (by decide))
  clear hr6 hg6 hv6
  refine hK.out _ _ (HL6.out.cell 0) (still_none _ _) ?_
  clear hK K
  (try simp only [Act.put, List.setIfInBounds_toArray, List.set_cons_zero, List.set_cons_succ])
  repeat (refine ts_take (v := ?_) rfl rfl (fun w' hw' => ?_) ?_; rotate_left; (focus (have q0 := hw'; (try simp only [Act.put, List.setIfInBounds_toArray, List.set_cons_zero, List.set_cons_succ]); go_simp; (try go_bits); (try (with_reducible rfl)))); (try simp only [Act.put, List.setIfInBounds_toArray, List.set_cons_zero, List.set_cons_succ]))
  refine ts_done ?_
  have HR6 := Lib.hid (show w6.ownsRow W.heap.size 5 1 v6 (putTo t 0).length ((putTo t 0).flatMap bc) from by have h := R6.out; rw [← List.append_nil ([t.kind] ++ t.frm.l ++ t.to.l)] at h; exact h)
  clear R4 R5 R6 HL4 HL5 HB4 HB5
  have z17 : w6.cell? ⟨B, 17, none⟩ = some (.int .u64 t.nonce) := HL6.out.cell 17
  have z18 : w6.cell? ⟨B, 18, none⟩ = some (.int .u64 t.value) := HL6.out.cell 18
  have z19 : w6.cell? ⟨B, 19, none⟩ = some (.int .u64 t.gas) := HL6.out.cell 19
  have z20 : w6.cell? ⟨B, 20, none⟩ = some (.int .u64 t.price) := HL6.out.cell 20
  go_wp2_with fail
  clear z17 z18 z19 z20
  go_loopw [5, 31] (fun v' iv wr => ∃ k : Nat, k ≤ 4 ∧ iv = .int .i64 k ∧ wr.ownsRow W.heap.size 5 1 v' (putTo t k).length ((putTo t k).flatMap bc) ∧ Below W.heap.size W wr ∧ Lies wr B 32 t.cs.toArray) (fun _ iv _ => 4 - (RowKit.intOf iv).toNat)
  case atStart => exact ⟨0, Nat.zero_le _, rfl, HR6.out, HB6.out, HL6.out⟩
  case round =>
    obtain ⟨k, hk, rfl, hr, hb, hl⟩ := hrel
    have HR := Lib.hid hr
    have HB := Lib.hid hb
    have HL := Lib.hid hl
    clear hr hb hl HR6 HB6 HL6
    rcases (by omega : k = 0 ∨ k = 1 ∨ k = 2 ∨ k = 3 ∨ k = 4) with rfl | rfl | rfl | rfl | rfl
    · go_wp2_with fail
      refine (be8 HR.out HB.out.size (by rw [putTo_len t 0 (by decide)]; decide)).mono ?_
      rintro en wq ⟨vq, rfl, hrq, hbq, hfq⟩
      have HRQ := Lib.hid (show wq.ownsRow W.heap.size 5 1 vq (putTo t 1).length ((putTo t 1).flatMap bc) from by rw [putTo_more (t := t) (k := 0) (n := t.nonce) rfl, List.length_append, be_len, List.flatMap_append]; exact hrq)
      have HBQ := Lib.hid (HB.out.trans hbq)
      have HLQ := Lib.hid (lies_frT HL.out hfq (by decide))
      clear hrq hbq hfq
      go_wp2_with fail
      go_roundw
      case rel => exact ⟨1, by decide, rfl, HRQ.out, HBQ.out, HLQ.out⟩
      case measure => simp [RowKit.intOf]
    · go_wp2_with fail
      refine (be8 HR.out HB.out.size (by rw [putTo_len t 1 (by decide)]; decide)).mono ?_
      rintro en wq ⟨vq, rfl, hrq, hbq, hfq⟩
      have HRQ := Lib.hid (show wq.ownsRow W.heap.size 5 1 vq (putTo t 2).length ((putTo t 2).flatMap bc) from by rw [putTo_more (t := t) (k := 1) (n := t.value) rfl, List.length_append, be_len, List.flatMap_append]; exact hrq)
      have HBQ := Lib.hid (HB.out.trans hbq)
      have HLQ := Lib.hid (lies_frT HL.out hfq (by decide))
      clear hrq hbq hfq
      go_wp2_with fail
      go_roundw
      case rel => exact ⟨2, by decide, rfl, HRQ.out, HBQ.out, HLQ.out⟩
      case measure => simp [RowKit.intOf]
    · go_wp2_with fail
      refine (be8 HR.out HB.out.size (by rw [putTo_len t 2 (by decide)]; decide)).mono ?_
      rintro en wq ⟨vq, rfl, hrq, hbq, hfq⟩
      have HRQ := Lib.hid (show wq.ownsRow W.heap.size 5 1 vq (putTo t 3).length ((putTo t 3).flatMap bc) from by rw [putTo_more (t := t) (k := 2) (n := t.gas) rfl, List.length_append, be_len, List.flatMap_append]; exact hrq)
      have HBQ := Lib.hid (HB.out.trans hbq)
      have HLQ := Lib.hid (lies_frT HL.out hfq (by decide))
      clear hrq hbq hfq
      go_wp2_with fail
      go_roundw
      case rel => exact ⟨3, by decide, rfl, HRQ.out, HBQ.out, HLQ.out⟩
      case measure => simp [RowKit.intOf]
    · go_wp2_with fail
      refine (be8 HR.out HB.out.size (by rw [putTo_len t 3 (by decide)]; decide)).mono ?_
      rintro en wq ⟨vq, rfl, hrq, hbq, hfq⟩
      have HRQ := Lib.hid (show wq.ownsRow W.heap.size 5 1 vq (putTo t 4).length ((putTo t 4).flatMap bc) from by rw [putTo_more (t := t) (k := 3) (n := t.price) rfl, List.length_append, be_len, List.flatMap_append]; exact hrq)
      have HBQ := Lib.hid (HB.out.trans hbq)
      have HLQ := Lib.hid (lies_frT HL.out hfq (by decide))
      clear hrq hbq hfq
      go_wp2_with fail
      go_roundw
      case rel => exact ⟨4, by decide, rfl, HRQ.out, HBQ.out, HLQ.out⟩
      case measure => simp [RowKit.intOf]
    · go_upto_region 10 with fail
      obtain ⟨s0, c0, hdv⟩ := HK.out.form
      have HDV := Lib.hid hdv
      clear hdv
      obtain ⟨L, hL⟩ : ∃ L, L = t.data.length := ⟨_, rfl⟩
      have hLb : (L : Int) ≤ 65536 := by omega
      have hz : ∀ w' : World, Lies w' B 32 t.cs.toArray → w'.cell? ⟨B, 21, none⟩ = some (.slice s0 L c0) := fun w' hw => (hw.cell 21).trans (congrArg some (by rw [hL]; exact HDV.out))
      have HLN := Lib.hid hL
      have HZ := Lib.hid hz
      clear hL hz
      refine wp_region_t [(0, 1), (1, 1), (2, 1), (3, 1), (4, 1), (6, 1), (7, 1), (5, 0), (8, 0), (9, 1), (10, 1)] (fun w' => w'.cell? ⟨B, 21, none⟩ = some (.slice s0 L c0)) [] [] rfl (by kernel_rfl) (by kernel_rfl) (fun _ _ d _ _ h => by cases d <;> exact h) (HZ.out _ (HL.out.below (below_drew wr) HL.out.lt)) (fun p hp => by cases hp) ?_
      have HB7 := Lib.hid (HB.out.trans ((below_drew wr).mono HB.out.size))
      have HL7 := Lib.hid (HL.out.below (below_drew wr) HL.out.lt)
      have HR7 := Lib.hid (ownsRow_keep HR.out (below_drew wr))
      generalize wr.drew = w7 at HB7 HL7 HR7 ⊢
      repeat (refine ts_take (v := ?_) rfl rfl (fun w' hw' => ?_) ?_; rotate_left; (focus (have q0 := hw'; (try simp only [Act.put, List.setIfInBounds_toArray, List.set_cons_zero, List.set_cons_succ]); go_simp; (try go_bits); (try (with_reducible rfl)))); (try simp only [Act.put, List.setIfInBounds_toArray, List.set_cons_zero, List.set_cons_succ]))
      refine ts_run1 rfl rfl (fun K hK => ?_)
      go_simp
      refine (be4 (n := L) HR7.out HB7.out.size (by rw [putTo_len t 4 (by decide)]; decide)).mono ?_
      rintro en w8 ⟨v8, rfl, hr8, hb8, hf8⟩
      have R8 := Lib.hid (show w8.ownsRow W.heap.size 5 1 v8 (putTo t 4 ++ be 4 L).length ((putTo t 4 ++ be 4 L).flatMap bc) from by rw [List.length_append, be_len, List.flatMap_append]; exact hr8)
      have HB8 := Lib.hid (HB7.out.trans hb8)
      have HL8 := Lib.hid (lies_frT HL7.out hf8 (by decide))
      clear hr8 hb8 hf8
      refine hK.out _ _ (HZ.out _ HL8.out) (still_none _ _) ?_
      clear hK K
      (try simp only [Act.put, List.setIfInBounds_toArray, List.set_cons_zero, List.set_cons_succ])
      refine ts_run1 rfl rfl (fun K hK => ?_)
      refine wp_app (by_ := 1) (v := v8) _ _ rfl Try.underlying30 infz_b (by decide) rfl R8.out bc_len (x := .slice s0 L c0) (L := t.data) rfl (by have h := HK.out.d.later HB8.out; rw [HDV.out, ← HLN.out] at h; exact h) (fun y _ u hu => by obtain rfl := List.mem_singleton.1 hu; rfl) (by rw [List.length_append, be_len, putTo_len t 4 (by decide)]; unfold maxLen; omega) (by rw [List.length_append, be_len, putTo_len t 4 (by decide)]; omega) HB8.out.size (fun v9 w9 hr9 hg9 hv9 => ?_)
      have HR9 := Lib.hid (show w9.ownsRow W.heap.size 5 1 v9 t.bytes.length (t.bytes.flatMap bc) from by rw [← putTo_all, ← HLN.out]; exact row_more hr9)
      have HB9 := Lib.hid (HB8.out.grown hg9 HB8.out.size (fun _ hk => (row_block R8.out hk).1))
      have HL9 := Lib.hid (lies_frT HL8.out (FrT.grown R8.out hg9) (by decide))
      clear hr9 hg9 hv9
      refine hK.out _ _ (HZ.out _ HL9.out) (still_none _ _) ?_
      clear hK K
      (try simp only [Act.put, List.setIfInBounds_toArray, List.set_cons_zero, List.set_cons_succ])
      repeat (refine ts_take (v := ?_) rfl rfl (fun w' hw' => ?_) ?_; rotate_left; (focus (have q0 := hw'; (try simp only [Act.put, List.setIfInBounds_toArray, List.set_cons_zero, List.set_cons_succ]); go_simp; (try go_bits); (try (with_reducible rfl)))); (try simp only [Act.put, List.setIfInBounds_toArray, List.set_cons_zero, List.set_cons_succ]))
      refine ts_done ?_
      go_wp2_with fail
      go_ret2
      exact ⟨v9, rfl, HR9.out, HB9.out⟩
end Go.Proofs.Ytkdckcjnjljdmaa.Po
