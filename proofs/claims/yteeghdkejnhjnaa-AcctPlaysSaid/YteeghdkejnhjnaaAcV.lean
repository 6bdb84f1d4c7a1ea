/- The walks of the document's Move and Total. -/
import Derived.Test.YteeghdkejnhjnaaAcR
import Derived.Test.YteeghdkejnhjnaaAcX
namespace Go.Proofs.Yteeghdkejnhjnaa.Ac
open Go Go.RowKit Kt Ad

theorem field_ent1 (x : Ent) (w : World) : (Instr.field 93 (.agg x.cs.toArray) 1).run Try.prog w = .ok (.int .u64 x.b) w := by kernel_rfl
set_option maxRecDepth 100000 in
set_option maxHeartbeats 4000000 in
theorem rmove_any {W : World} {base br : Nat} {L : List Ent} (h : RLed W base br L) (hb : base ≤ W.heap.size) (hN : L.length ≤ 1000000 - 1) (f t : A8) (k : Nat) :
    Calls Try.prog 55 #[.pointer (some ⟨br, 0, none⟩), f.v, t.v, .int .u64 k] W fun e w' => e = .returned (.int .i64 (moveR L f t k).1) ∧ RLed w' base br (moveR L f t k).2 ∧ W.grownBy w' (some br) := by
  obtain ⟨W1, hW1⟩ : ∃ W1, W1 = (W.alloc (.cells f.cs.toArray 24)).alloc (.cells t.cs.toArray 24) := ⟨_, rfl⟩
  have hL1 : RLed W1 base br L := by rw [hW1]; exact (h.alloc _).alloc _
  have hA1 : Lies W1 W.heap.size 24 f.cs.toArray := by rw [hW1]; exact (Lies.new W _ _).alloc _
  have hB1 : Lies W1 (W.heap.size + 1) 24 t.cs.toArray := by rw [hW1]; have := Lies.new (W.alloc (.cells f.cs.toArray 24)) 24 t.cs.toArray; rw [World.size_alloc] at this; exact this
  have hG1 : W.grownBy W1 (some br) := by rw [hW1]; exact grownBy_trans (World.grownBy_alloc W _ _) (World.grownBy_alloc _ _ _)
  have hs1 : base ≤ W1.heap.size := Nat.le_trans hb hG1.size
  have hbr := h.lt
  have HRG := Lib.hid (rget_any hL1 (by omega) f)
  have HL1 := Lib.hid hL1
  have HG1 := Lib.hid hG1
  have HA1 := Lib.hid hA1
  have HB1 := Lib.hid hB1
  have hfe : ∀ w : World, (Instr.field 93 (.agg (Ent.cs ⟨f, (get L f).1, (get L f).2⟩).toArray) 1).run Try.prog w = .ok (.int .u64 ((get L f).1 : Nat)) w := fun w => field_ent1 _ w
  obtain ⟨b, hg⟩ : ∃ b, (get L f).1 = b := ⟨_, rfl⟩
  obtain ⟨n, hg2⟩ : ∃ n, (get L f).2 = n := ⟨_, rfl⟩
  rw [hg, hg2] at HRG hfe
  clear hL1 hG1 hA1 hB1 h
  simp only [Ent.cs] at hfe
  by_cases hlt : b < k
  · have e1 : moveR L f t k = (210, L) := by unfold moveR; rw [hg, if_pos hlt]
    rw [e1]
    clear hg hg2 e1
    simp only [A8.v]
    go_enter Try.func55, Try.ntmps55
    go_wp2_with fail
    rw [show (W.alloc (.cells #[.int .u8 f.x0.toNat, .int .u8 f.x1.toNat, .int .u8 f.x2.toNat, .int .u8 f.x3.toNat, .int .u8 f.x4.toNat, .int .u8 f.x5.toNat, .int .u8 f.x6.toNat, .int .u8 f.x7.toNat] 24)).alloc (.cells #[.int .u8 t.x0.toNat, .int .u8 t.x1.toNat, .int .u8 t.x2.toNat, .int .u8 t.x3.toNat, .int .u8 t.x4.toNat, .int .u8 t.x5.toNat, .int .u8 t.x6.toNat, .int .u8 t.x7.toNat] 24) = W1 from hW1.symm]
    clear hW1
    refine HRG.out.mono ?_
    rintro en w2 ⟨rfl, hB⟩
    have HL2 := Lib.hid (HL1.out.later hB)
    have HG2 := Lib.hid (grownBy_trans HG1.out (grownBy_below hB (some br)))
    have HA2 := Lib.hid (HA1.out.below hB HA1.out.lt)
    have HB2 := Lib.hid (HB1.out.below hB HB1.out.lt)
    have hs2 : base ≤ w2.heap.size := Nat.le_trans hs1 hB.size
    clear hB HL1 HG1 HRG HA1 HB1
    simp only [Ent.cs]
    go_wp2_with fail
    go_ret
    exact ⟨rfl, HL2.out, HG2.out⟩
  by_cases hft : f = t
  · subst hft
    have e1 : moveR L f f k = (0, L) := by unfold moveR; rw [hg, if_neg hlt, if_pos rfl]
    rw [e1]
    clear hg hg2 e1
    simp only [A8.v]
    go_enter Try.func55, Try.ntmps55
    go_wp2_with fail
    rw [show (W.alloc (.cells #[.int .u8 f.x0.toNat, .int .u8 f.x1.toNat, .int .u8 f.x2.toNat, .int .u8 f.x3.toNat, .int .u8 f.x4.toNat, .int .u8 f.x5.toNat, .int .u8 f.x6.toNat, .int .u8 f.x7.toNat] 24)).alloc (.cells #[.int .u8 f.x0.toNat, .int .u8 f.x1.toNat, .int .u8 f.x2.toNat, .int .u8 f.x3.toNat, .int .u8 f.x4.toNat, .int .u8 f.x5.toNat, .int .u8 f.x6.toNat, .int .u8 f.x7.toNat] 24) = W1 from hW1.symm]
    clear hW1
    refine HRG.out.mono ?_
    rintro en w2 ⟨rfl, hB⟩
    have HL2 := Lib.hid (HL1.out.later hB)
    have HG2 := Lib.hid (grownBy_trans HG1.out (grownBy_below hB (some br)))
    have HA2 := Lib.hid (HA1.out.below hB HA1.out.lt)
    have HB2 := Lib.hid (HB1.out.below hB HB1.out.lt)
    have hs2 : base ≤ w2.heap.size := Nat.le_trans hs1 hB.size
    clear hB HL1 HG1 HRG HA1 HB1
    simp only [Ent.cs]
    obtain ⟨a0, a1, a2, a3, a4, a5, a6, a7⟩ := lies_addr HA2.out
    obtain ⟨b0, b1, b2, b3, b4, b5, b6, b7⟩ := lies_addr HB2.out
    go_wp2_with fail
    go_ret
    exact ⟨rfl, HL2.out, HG2.out⟩
  rcases addE_err L t k with hs | ⟨hs, hs3⟩
  · have e1 : moveR L f t k = (0, (subE (addE L t k).2 f k).2) := by unfold moveR; rw [hg, if_neg hlt, if_neg hft, if_pos hs]
    rw [e1]
    have HAd := Lib.hid (fun (w : World) (h : RLed w base br L) (hb : base ≤ w.heap.size) => radd_any h hb (by omega) t k)
    rw [hs] at HAd
    have hlen := addE_len L t k
    clear hg hg2 e1 hs
    generalize (addE L t k).2 = L3 at *
    simp only [A8.v]
    go_enter Try.func55, Try.ntmps55
    go_wp2_with fail
    rw [show (W.alloc (.cells #[.int .u8 f.x0.toNat, .int .u8 f.x1.toNat, .int .u8 f.x2.toNat, .int .u8 f.x3.toNat, .int .u8 f.x4.toNat, .int .u8 f.x5.toNat, .int .u8 f.x6.toNat, .int .u8 f.x7.toNat] 24)).alloc (.cells #[.int .u8 t.x0.toNat, .int .u8 t.x1.toNat, .int .u8 t.x2.toNat, .int .u8 t.x3.toNat, .int .u8 t.x4.toNat, .int .u8 t.x5.toNat, .int .u8 t.x6.toNat, .int .u8 t.x7.toNat] 24) = W1 from hW1.symm]
    clear hW1
    refine HRG.out.mono ?_
    rintro en w2 ⟨rfl, hB⟩
    have HL2 := Lib.hid (HL1.out.later hB)
    have HG2 := Lib.hid (grownBy_trans HG1.out (grownBy_below hB (some br)))
    have HA2 := Lib.hid (HA1.out.below hB HA1.out.lt)
    have HB2 := Lib.hid (HB1.out.below hB HB1.out.lt)
    have hs2 : base ≤ w2.heap.size := Nat.le_trans hs1 hB.size
    clear hB HL1 HG1 HRG HA1 HB1
    simp only [Ent.cs]
    obtain ⟨a0, a1, a2, a3, a4, a5, a6, a7⟩ := lies_addr HA2.out
    obtain ⟨b0, b1, b2, b3, b4, b5, b6, b7⟩ := lies_addr HB2.out
    go_wp2_with fail
    refine (HAd.out _ HL2.out hs2).mono ?_
    rintro en w3 ⟨rfl, hL3, hG3⟩
    have HL3 := Lib.hid hL3
    have HA3 := Lib.hid (HA2.out.kept hG3 (by simp; omega))
    have HG3 := Lib.hid (grownBy_trans HG2.out hG3)
    have hs4 : base ≤ w3.heap.size := Nat.le_trans hs2 hG3.size
    clear hL3 hG3 HL2 HG2 a0 a1 a2 a3 a4 a5 a6 a7 b0 b1 b2 b3 b4 b5 b6 b7
    obtain ⟨a0, a1, a2, a3, a4, a5, a6, a7⟩ := lies_addr HA3.out
    go_wp2_with fail
    refine (rsub_any HL3.out hs4 (by omega) f k).mono ?_
    rintro en w4 ⟨rfl, hL4, hG4⟩
    have HL4 := Lib.hid hL4
    have HG4 := Lib.hid (grownBy_trans HG3.out hG4)
    clear hL4 hG4 a0 a1 a2 a3 a4 a5 a6 a7
    go_wp2_with fail
    go_ret
    exact ⟨rfl, HL4.out, HG4.out⟩
  · have e1 : moveR L f t k = (211, L) := by unfold moveR; rw [hg, if_neg hlt, if_neg hft, if_neg (by rw [hs]; decide), hs]
    rw [e1]
    have HAd := Lib.hid (fun (w : World) (h : RLed w base br L) (hb : base ≤ w.heap.size) => radd_any h hb (by omega) t k)
    rw [hs, hs3] at HAd
    clear hg hg2 e1 hs hs3
    simp only [A8.v]
    go_enter Try.func55, Try.ntmps55
    go_wp2_with fail
    rw [show (W.alloc (.cells #[.int .u8 f.x0.toNat, .int .u8 f.x1.toNat, .int .u8 f.x2.toNat, .int .u8 f.x3.toNat, .int .u8 f.x4.toNat, .int .u8 f.x5.toNat, .int .u8 f.x6.toNat, .int .u8 f.x7.toNat] 24)).alloc (.cells #[.int .u8 t.x0.toNat, .int .u8 t.x1.toNat, .int .u8 t.x2.toNat, .int .u8 t.x3.toNat, .int .u8 t.x4.toNat, .int .u8 t.x5.toNat, .int .u8 t.x6.toNat, .int .u8 t.x7.toNat] 24) = W1 from hW1.symm]
    clear hW1
    refine HRG.out.mono ?_
    rintro en w2 ⟨rfl, hB⟩
    have HL2 := Lib.hid (HL1.out.later hB)
    have HG2 := Lib.hid (grownBy_trans HG1.out (grownBy_below hB (some br)))
    have HA2 := Lib.hid (HA1.out.below hB HA1.out.lt)
    have HB2 := Lib.hid (HB1.out.below hB HB1.out.lt)
    have hs2 : base ≤ w2.heap.size := Nat.le_trans hs1 hB.size
    clear hB HL1 HG1 HRG HA1 HB1
    simp only [Ent.cs]
    obtain ⟨a0, a1, a2, a3, a4, a5, a6, a7⟩ := lies_addr HA2.out
    obtain ⟨b0, b1, b2, b3, b4, b5, b6, b7⟩ := lies_addr HB2.out
    go_wp2_with fail
    refine (HAd.out _ HL2.out hs2).mono ?_
    rintro en w3 ⟨rfl, hL3, hG3⟩
    have HL3 := Lib.hid hL3
    have HG3 := Lib.hid (grownBy_trans HG2.out hG3)
    clear hL3 hG3 HL2 HG2 a0 a1 a2 a3 a4 a5 a6 a7 b0 b1 b2 b3 b4 b5 b6 b7
    go_wp2_with fail
    go_ret
    exact ⟨rfl, HL3.out, HG3.out⟩

theorem totGo_step {L : List Ent} {k s : Nat} {x : Ent} (hk : L[k]? = some x) : totGo s (L.drop k) = if M64 ≤ s + x.b then (0, false) else totGo (s + x.b) (L.drop (k + 1)) := by
  have h1 : k < L.length := (List.getElem?_eq_some_iff.1 hk).1
  have h2 : L[k] = x := by rw [List.getElem?_eq_getElem h1] at hk; injection hk
  rw [List.drop_eq_getElem_cons h1, totGo, h2]
set_option maxRecDepth 100000 in
set_option maxHeartbeats 4000000 in
theorem rtotal_any {W : World} {base br : Nat} {L : List Ent} (h : RLed W base br L) (hN : L.length ≤ 1000000000) :
    Calls Try.prog 61 #[.pointer (some ⟨br, 0, none⟩)] W fun e w' => e = .returned (.tuple #[.int .u64 ((tot L).1 : Nat), .bool (tot L).2]) ∧ Below W.heap.size W w' := by
  obtain ⟨v, hv, hrow⟩ := h.row
  have HFIT := Lib.hid h.ok.fit
  have HV := Lib.hid hv
  have HROW := Lib.hid hrow
  have hvc := hv.cell 0
  have hbl := hv.lt
  simp only [List.getElem?_toArray, List.getElem?_cons_zero] at hvc
  clear h hv
  obtain ⟨T, hT⟩ : ∃ T, tot L = T := ⟨_, rfl⟩
  rw [hT]
  obtain ⟨T1, T2⟩ := T
  have HT := Lib.hid (show totGo 0 (L.drop 0) = (T1, T2) from hT)
  clear hT
  rcases hrow.2 with ⟨rfl, h0⟩ | ⟨g, cap, cur, rfl, hbase, hb, h1, h2, h3, h4⟩
  · obtain rfl : L = [] := List.eq_nil_of_length_eq_zero h0
    obtain ⟨rfl, rfl⟩ : T1 = 0 ∧ T2 = true := by have := HT.out; simp [totGo] at this; exact ⟨this.1.symm, this.2⟩
    clear hrow h0 HROW
    go_enter Try.func61, Try.ntmps61
    go_wp2_with fail
    refine wp_loop_rounds 1 ?_
    rw [rounds_succ]
    go_wp2
    first | go_ret | go_ret2
    exact ⟨rfl, Below.refl _ _⟩
  · clear hrow h1 h2 h3 h4 hb
    go_enter Try.func61, Try.ntmps61
    go_wp2_with fail
    go_loopw [4, 5] (fun s i wr => ∃ k t : Nat, k ≤ L.length ∧ t < M64 ∧ s = .int .u64 t ∧ i = .int .i64 k ∧ totGo t (L.drop k) = (T1, T2) ∧ wr = W)
      (fun _ i _ => L.length - (intOf i).toNat)
    case atStart => exact ⟨0, 0, by omega, by decide, rfl, rfl, HT.out, rfl⟩
    case round =>
      obtain ⟨k, t, hk, ht, rfl, rfl, hgo, rfl⟩ := hrel
      by_cases hlt : k < L.length
      · obtain ⟨x, hx⟩ : ∃ x, L[k]? = some x := ⟨_, List.getElem?_eq_getElem hlt⟩
        obtain ⟨c0, c1, c2, c3, c4, c5, c6, c7, c8, c9⟩ := ent_cells HROW.out hx
        have hfit := HFIT.out x (List.mem_of_getElem? hx)
        rw [totGo_step hx] at hgo
        have hs : IntKind.u64.wrap (18446744073709551615 - (t : Int)) = 18446744073709551615 - (t : Int) := IntWalk.u64_in _ (by unfold M64 at ht; omega)
        by_cases ho : M64 ≤ t + x.b
        · rw [if_pos ho] at hgo
          obtain ⟨rfl, rfl⟩ : T1 = 0 ∧ T2 = false := by simp at hgo; exact ⟨hgo.1.symm, hgo.2⟩
          have hd : (18446744073709551615 : Int) - (t : Int) < (x.b : Int) := by unfold M64 at ho; omega
          clear ho hgo hx hfit
          go_wp2_with fail
          first | go_ret | go_ret2
          exact ⟨rfl, Below.refl _ _⟩
        · rw [if_neg ho] at hgo
          have hd : ¬ (18446744073709551615 : Int) - (t : Int) < (x.b : Int) := by unfold M64 at ho; omega
          have hs2 : IntKind.u64.wrap ((t : Int) + (x.b : Int)) = (t : Int) + (x.b : Int) := IntWalk.u64_in _ (by unfold M64 at ho; omega)
          have HGO := Lib.hid hgo
          clear hgo hx hfit
          go_wp2_with fail
          go_roundw
          case rel => exact ⟨k + 1, t + x.b, by omega, by omega, by go_num, by go_num, HGO.out, trivial⟩
          case measure => simp [intOf]; omega
      · obtain rfl : k = L.length := by omega
        rw [List.drop_length] at hgo
        obtain ⟨rfl, rfl⟩ : T1 = t ∧ T2 = true := by simp [totGo] at hgo; exact ⟨hgo.1.symm, hgo.2⟩
        clear hgo
        go_wp2_with fail
        first | go_ret | go_ret2
        exact ⟨rfl, Below.refl _ _⟩
end Go.Proofs.Yteeghdkejnhjnaa.Ac
