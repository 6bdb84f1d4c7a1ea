/- The walk of the ledger's change, against whatever closure makes an entry of an entry. -/
import Derived.Test.YteeghdkejnhjnaaAcC
namespace Go.Proofs.Yteeghdkejnhjnaa.Ac
open Go Go.RowKit Kt Ad

set_option maxRecDepth 100000 in
set_option maxHeartbeats 2000000 in
theorem change_ok {W : World} {bl bm : Nat} {L : List Ent} (h : Led W bl bm L) (a : A8) (g : Nat) (cb : Array Value) (eg : ∀ args w, (callFunc g args).run Try.prog w = .ok (.enter g args) w) (b n : Nat) (hb : b < M64) (hn : n < M64)
    (hg : ∀ W' : World, Below W.heap.size W W' → Calls Try.prog g (#[.agg #[.int .u64 ((get L a).1 : Nat), .int .u64 ((get L a).2 : Nat)]] ++ cb) W' fun e w' => e = .returned (.tuple #[.agg #[.int .u64 b, .int .u64 n], .int .i64 0]) ∧ Below W'.heap.size W' w') :
    Calls Try.prog 82 #[.pointer (some ⟨bl, 0, none⟩), a.v, .func (.func g) #[] cb] W fun e w' => e = .returned (.int .i64 0) ∧ Led w' bl bm (put ⟨a, b, n⟩ L) ∧ W.grownBy w' (some bm) := by
  have hlk : ∀ w' : World, Led w' bl bm L → (Instr.lookup 128 (.map (some bm)) a.v false).run Try.prog w' = .ok (.agg #[.int .u64 ((get L a).1 : Nat), .int .u64 ((get L a).2 : Nat)]) w' := fun w' h' => h'.look a
  generalize (get L a).1 = x at hlk hg
  generalize (get L a).2 = y at hlk hg
  simp only [A8.v] at hlk ⊢
  have HG := Lib.hid hg
  have HLK := Lib.hid hlk
  clear hg hlk
  go_enter Try.func82, Try.ntmps82
  go_wp2_with fail
  obtain ⟨W1, hW1⟩ : ∃ W1, W1 = W.alloc (.cells a.cs.toArray 24) := ⟨_, rfl⟩
  have hB1 : Below W.heap.size W W1 := by rw [hW1]; exact (Below.refl _ _).alloc (Nat.le_refl _) _
  have hL1 : Led W1 bl bm L := by rw [hW1]; exact h.alloc _
  have hA1 : Lies W1 W.heap.size 24 a.cs.toArray := by rw [hW1]; exact Lies.new W _ _
  rw [show W.alloc (.cells #[.int .u8 a.x0.toNat, .int .u8 a.x1.toNat, .int .u8 a.x2.toNat, .int .u8 a.x3.toNat, .int .u8 a.x4.toNat, .int .u8 a.x5.toNat, .int .u8 a.x6.toNat, .int .u8 a.x7.toNat] 24) = W1 from hW1.symm]
  clear hW1
  refine RP.region (RP.take 0 (RP.take 1 (RP.take 2 (RP.take 3 (RP.take 4 (RP.take 5 (RP.take 6 (RP.fork 7 11 (RP.take 8 (RP.take 9 (RP.take 10 (RP.run 11 (RP.run 12 (RP.take 13 RP.done)))))) (RP.run 7 (RP.take 8 (RP.take 9 (RP.take 10 (RP.run 12 (RP.take 13 RP.done)))))))))))))) (fun w' => Led w' bl bm L ∧ Lies w' W.heap.size 24 a.cs.toArray ∧ Below W1.heap.size W1 w') (by kernel_rfl) (by kernel_rfl) (fun _ _ d _ _ h => by cases d <;> exact h) ⟨hL1.drew, hA1.drew, (Below.refl _ _).drew⟩ (fun hS => ?_)
  generalize hV : W1.drew = V at hS ⊢
  clear hV
  repeat (first | (refine RP.t_take (v := ?_) rfl rfl (fun w' hw' => ?_) ?_; rotate_left; (focus ((obtain ⟨hL, hA, hB⟩ := hw'; have hc := hL.cell.cell 0; obtain ⟨a0, a1, a2, a3, a4, a5, a6, a7⟩ := lies_addr hA; have hk := HLK.out w' hL; simp only [List.getElem?_toArray, List.getElem?_cons_zero] at hc); go_simp; (try go_bits); (try (with_reducible rfl)))); (try simp only [Act.put, List.setIfInBounds_toArray, List.set_cons_zero, List.set_cons_succ])) | (refine RP.t_skip rfl rfl ?_; (try simp only [Act.put, List.setIfInBounds_toArray, List.set_cons_zero, List.set_cons_succ])))
  refine RP.t_fork rfl rfl (fun K hK => ?_) (fun K hK => ?_)
  · go_simp
    have hBV : Below W.heap.size W V := hB1.trans (hS.2.2.mono hB1.size)
    refine (HG.out V hBV).mono ?_
    rintro en V1 ⟨rfl, hb2⟩
    have hB2 : Below W.heap.size W V1 := hBV.trans (hb2.mono hBV.size)
    have hS1 := And.intro (hS.1.later hb2) (And.intro (hS.2.1.below hb2 hS.2.1.lt) (hS.2.2.trans (hb2.mono hS.2.2.size)))
    refine hK.out _ _ hS1 ?_
    clear hK K hb2 hS hBV
    (try simp only [Act.put, List.setIfInBounds_toArray, List.set_cons_zero, List.set_cons_succ])
    repeat (first | (refine RP.t_take (v := ?_) rfl rfl (fun w' hw' => ?_) ?_; rotate_left; (focus ((obtain ⟨hL, hA, hB⟩ := hw'; have hc := hL.cell.cell 0; obtain ⟨a0, a1, a2, a3, a4, a5, a6, a7⟩ := lies_addr hA; have hk := HLK.out w' hL; simp only [List.getElem?_toArray, List.getElem?_cons_zero] at hc); go_simp; (try go_bits); (try (with_reducible rfl)))); (try simp only [Act.put, List.setIfInBounds_toArray, List.set_cons_zero, List.set_cons_succ])) | (refine RP.t_skip rfl rfl ?_; (try simp only [Act.put, List.setIfInBounds_toArray, List.set_cons_zero, List.set_cons_succ])))
    refine RP.t_run rfl (fun K hK => ?_)
    go_simp
    refine hK.out _ _ ⟨hS1.1.alloc _, hS1.2.1.alloc _, hS1.2.2.alloc hS1.2.2.size _⟩ ?_
    clear hK K
    (try simp only [Act.put, List.setIfInBounds_toArray, List.set_cons_zero, List.set_cons_succ])
    refine RP.t_run rfl (fun K hK => ?_)
    go_simp
    refine hK.out _ _ ⟨hS1.1.alloc _, hS1.2.1.alloc _, hS1.2.2.alloc hS1.2.2.size _⟩ ?_
    clear hK K
    (try simp only [Act.put, List.setIfInBounds_toArray, List.set_cons_zero, List.set_cons_succ])
    have hL2 := hS1.1.alloc (.cells #[.int .u64 b, .int .u64 n] 132)
    have hA2 := hS1.2.1.alloc (.cells #[.int .u64 b, .int .u64 n] 132)
    have hE2 := Lies.new V1 132 #[.int .u64 b, .int .u64 n]
    replace hB2 := hB2.alloc hB2.size (.cells #[.int .u64 b, .int .u64 n] 132)
    clear hS1
    repeat (first | (refine RP.t_take (v := ?_) rfl rfl (fun w' hw' => ?_) ?_; rotate_left; (focus ((obtain ⟨hL, hA, hB⟩ := hw'; have hc := hL.cell.cell 0; obtain ⟨a0, a1, a2, a3, a4, a5, a6, a7⟩ := lies_addr hA; have hk := HLK.out w' hL; simp only [List.getElem?_toArray, List.getElem?_cons_zero] at hc); go_simp; (try go_bits); (try (with_reducible rfl)))); (try simp only [Act.put, List.setIfInBounds_toArray, List.set_cons_zero, List.set_cons_succ])) | (refine RP.t_skip rfl rfl ?_; (try simp only [Act.put, List.setIfInBounds_toArray, List.set_cons_zero, List.set_cons_succ])))
    refine RP.t_done ?_
    generalize V1.alloc (.cells #[.int .u64 b, .int .u64 n] 132) = V2 at *
    have hc := hL2.cell.cell 0
    obtain ⟨a0, a1, a2, a3, a4, a5, a6, a7⟩ := lies_addr hA2
    have e0 := hE2.cell 0
    have e1 := hE2.cell 1
    simp only [List.getElem?_toArray, List.getElem?_cons_zero, List.getElem?_cons_succ] at hc e0 e1
    have HB2 := Lib.hid hB2
    have HBB := Lib.hid hb
    have HNN := Lib.hid hn
    clear hB2 hb hn
    go_wp2_with (go_at_call 48; refine (set_any hL2 ⟨a, b, n⟩ HBB.out HNN.out).mono ?_; rintro en w3 ⟨rfl, hL3, hG3⟩)
    go_ret
    exact ⟨rfl, hL3, grownBy_trans (grownBy_below HB2.out _) hG3⟩
  · go_simp
    have hBV : Below W.heap.size W (V.alloc (.cells #[.int .u64 0, .int .u64 0] 132)) := (hB1.trans (hS.2.2.mono hB1.size)).alloc (Nat.le_trans hB1.size hS.2.2.size) _
    have hE := Lies.new V 132 #[.int .u64 0, .int .u64 0]
    have hS1 : (Led (V.alloc (.cells #[.int .u64 0, .int .u64 0] 132)) bl bm L ∧ Lies (V.alloc (.cells #[.int .u64 0, .int .u64 0] 132)) W.heap.size 24 a.cs.toArray ∧ Below W1.heap.size W1 (V.alloc (.cells #[.int .u64 0, .int .u64 0] 132))) := ⟨hS.1.alloc _, hS.2.1.alloc _, hS.2.2.alloc hS.2.2.size _⟩
    have hq : W1.heap.size ≤ V.heap.size := hS.2.2.size
    have hbl : bl < V.heap.size := hS.1.cell.lt
    have hal : W.heap.size < V.heap.size := hS.2.1.lt
    refine hK.out _ _ hS1 ?_
    clear hK K hS
    (try simp only [Act.put, List.setIfInBounds_toArray, List.set_cons_zero, List.set_cons_succ])
    refine RP.t_run rfl (fun K hK => ?_)
    go_simp
    refine (HG.out _ hBV).mono ?_
    rintro en V1 ⟨rfl, hb2⟩
    have hB2 : Below W.heap.size W V1 := hBV.trans (hb2.mono hBV.size)
    have hE1 := hE.below hb2 hE.lt
    have hS2 := And.intro (hS1.1.later hb2) (And.intro (hS1.2.1.below hb2 hS1.2.1.lt) (hS1.2.2.trans (hb2.mono hS1.2.2.size)))
    refine hK.out _ _ hS2 ?_
    clear hK K hb2 hS1 hBV hE
    (try simp only [Act.put, List.setIfInBounds_toArray, List.set_cons_zero, List.set_cons_succ])
    repeat (first | (refine RP.t_take (v := ?_) rfl rfl (fun w' hw' => ?_) ?_; rotate_left; (focus ((obtain ⟨hL, hA, hB⟩ := hw'; have hc := hL.cell.cell 0; obtain ⟨a0, a1, a2, a3, a4, a5, a6, a7⟩ := lies_addr hA; have hk := HLK.out w' hL; simp only [List.getElem?_toArray, List.getElem?_cons_zero] at hc); go_simp; (try go_bits); (try (with_reducible rfl)))); (try simp only [Act.put, List.setIfInBounds_toArray, List.set_cons_zero, List.set_cons_succ])) | (refine RP.t_skip rfl rfl ?_; (try simp only [Act.put, List.setIfInBounds_toArray, List.set_cons_zero, List.set_cons_succ])))
    have e0 := hE1.cell 0
    have e1 := hE1.cell 1
    have f0 := hE1.frozen 0
    have f1 := hE1.frozen 1
    simp only [List.getElem?_toArray, List.getElem?_cons_zero, List.getElem?_cons_succ] at e0 e1
    refine RP.t_run rfl (fun K hK => ?_)
    go_simp
    have hL2 := (hS2.1.setCell (a := ⟨V.heap.size, 0, none⟩) (v := .int .u64 b) (by simp; omega) e0).setCell (a := ⟨V.heap.size, 1, none⟩) (v := .int .u64 n) (by simp; omega) (((hE1.set 0 (.int .u64 b)).cell 1).trans rfl)
    have hA2 := (hS2.2.1.other (a := ⟨V.heap.size, 0, none⟩) (by simp; omega) (.int .u64 b)).other (a := ⟨V.heap.size, 1, none⟩) (by simp; omega) (.int .u64 n)
    have hE2 := (hE1.set 0 (.int .u64 b)).set 1 (.int .u64 n)
    have hV2 := (hS2.2.2.setCell (p := ⟨V.heap.size, 0, none⟩) hq (.int .u64 b)).setCell (p := ⟨V.heap.size, 1, none⟩) hq (.int .u64 n)
    replace hB2 := (hB2.setCell (p := ⟨V.heap.size, 0, none⟩) (Nat.le_of_lt hal) (.int .u64 b)).setCell (p := ⟨V.heap.size, 1, none⟩) (Nat.le_of_lt hal) (.int .u64 n)
    refine hK.out _ _ ⟨hL2, hA2, hV2⟩ ?_
    clear hK K hS2 e0 e1 f0 f1 hE1
    (try simp only [Act.put, List.setIfInBounds_toArray, List.set_cons_zero, List.set_cons_succ])
    repeat (first | (refine RP.t_take (v := ?_) rfl rfl (fun w' hw' => ?_) ?_; rotate_left; (focus ((obtain ⟨hL, hA, hB⟩ := hw'; have hc := hL.cell.cell 0; obtain ⟨a0, a1, a2, a3, a4, a5, a6, a7⟩ := lies_addr hA; have hk := HLK.out w' hL; simp only [List.getElem?_toArray, List.getElem?_cons_zero] at hc); go_simp; (try go_bits); (try (with_reducible rfl)))); (try simp only [Act.put, List.setIfInBounds_toArray, List.set_cons_zero, List.set_cons_succ])) | (refine RP.t_skip rfl rfl ?_; (try simp only [Act.put, List.setIfInBounds_toArray, List.set_cons_zero, List.set_cons_succ])))
    refine RP.t_done ?_
    generalize (V1.setCell ⟨V.heap.size, 0, none⟩ (.int .u64 b)).setCell ⟨V.heap.size, 1, none⟩ (.int .u64 n) = V2 at *
    clear hV2 hq
    have hc := hL2.cell.cell 0
    obtain ⟨a0, a1, a2, a3, a4, a5, a6, a7⟩ := lies_addr hA2
    have e0 := hE2.cell 0
    have e1 := hE2.cell 1
    simp only [List.getElem?_toArray, List.getElem?_cons_zero] at hc e0 e1
    have HB2 := Lib.hid hB2
    have HBB := Lib.hid hb
    have HNN := Lib.hid hn
    clear hB2 hb hn
    go_wp2_with (go_at_call 48; refine (set_any hL2 ⟨a, b, n⟩ HBB.out HNN.out).mono ?_; rintro en w3 ⟨rfl, hL3, hG3⟩)
    go_ret
    exact ⟨rfl, hL3, grownBy_trans (grownBy_below HB2.out _) hG3⟩
set_option maxRecDepth 100000 in
set_option maxHeartbeats 2000000 in
theorem change_err {W : World} {bl bm : Nat} {L : List Ent} (h : Led W bl bm L) (a : A8) (g : Nat) (cb : Array Value) (eg : ∀ args w, (callFunc g args).run Try.prog w = .ok (.enter g args) w) (b n : Nat) (er : Int) (her : (er == 0) = false)
    (hg : ∀ W' : World, Below W.heap.size W W' → Calls Try.prog g (#[.agg #[.int .u64 ((get L a).1 : Nat), .int .u64 ((get L a).2 : Nat)]] ++ cb) W' fun e w' => e = .returned (.tuple #[.agg #[.int .u64 b, .int .u64 n], .int .i64 er]) ∧ Below W'.heap.size W' w') :
    Calls Try.prog 82 #[.pointer (some ⟨bl, 0, none⟩), a.v, .func (.func g) #[] cb] W fun e w' => e = .returned (.int .i64 er) ∧ Led w' bl bm L ∧ W.grownBy w' (some bm) := by
  have hlk : ∀ w' : World, Led w' bl bm L → (Instr.lookup 128 (.map (some bm)) a.v false).run Try.prog w' = .ok (.agg #[.int .u64 ((get L a).1 : Nat), .int .u64 ((get L a).2 : Nat)]) w' := fun w' h' => h'.look a
  generalize (get L a).1 = x at hlk hg
  generalize (get L a).2 = y at hlk hg
  simp only [A8.v] at hlk ⊢
  have HG := Lib.hid hg
  have HLK := Lib.hid hlk
  clear hg hlk
  go_enter Try.func82, Try.ntmps82
  go_wp2_with fail
  obtain ⟨W1, hW1⟩ : ∃ W1, W1 = W.alloc (.cells a.cs.toArray 24) := ⟨_, rfl⟩
  have hB1 : Below W.heap.size W W1 := by rw [hW1]; exact (Below.refl _ _).alloc (Nat.le_refl _) _
  have hL1 : Led W1 bl bm L := by rw [hW1]; exact h.alloc _
  have hA1 : Lies W1 W.heap.size 24 a.cs.toArray := by rw [hW1]; exact Lies.new W _ _
  rw [show W.alloc (.cells #[.int .u8 a.x0.toNat, .int .u8 a.x1.toNat, .int .u8 a.x2.toNat, .int .u8 a.x3.toNat, .int .u8 a.x4.toNat, .int .u8 a.x5.toNat, .int .u8 a.x6.toNat, .int .u8 a.x7.toNat] 24) = W1 from hW1.symm]
  clear hW1
  refine RP.region (RP.take 0 (RP.take 1 (RP.take 2 (RP.take 3 (RP.take 4 (RP.take 5 (RP.take 6 (RP.fork 7 11 (RP.take 8 (RP.take 9 (RP.take 10 (RP.run 11 (RP.run 12 (RP.take 13 RP.done)))))) (RP.run 7 (RP.take 8 (RP.take 9 (RP.take 10 (RP.run 12 (RP.take 13 RP.done)))))))))))))) (fun w' => Led w' bl bm L ∧ Lies w' W.heap.size 24 a.cs.toArray ∧ Below W1.heap.size W1 w') (by kernel_rfl) (by kernel_rfl) (fun _ _ d _ _ h => by cases d <;> exact h) ⟨hL1.drew, hA1.drew, (Below.refl _ _).drew⟩ (fun hS => ?_)
  generalize hV : W1.drew = V at hS ⊢
  clear hV
  repeat (first | (refine RP.t_take (v := ?_) rfl rfl (fun w' hw' => ?_) ?_; rotate_left; (focus ((obtain ⟨hL, hA, hB⟩ := hw'; have hc := hL.cell.cell 0; obtain ⟨a0, a1, a2, a3, a4, a5, a6, a7⟩ := lies_addr hA; have hk := HLK.out w' hL; simp only [List.getElem?_toArray, List.getElem?_cons_zero] at hc); go_simp; (try go_bits); (try (with_reducible rfl)))); (try simp only [Act.put, List.setIfInBounds_toArray, List.set_cons_zero, List.set_cons_succ])) | (refine RP.t_skip rfl rfl ?_; (try simp only [Act.put, List.setIfInBounds_toArray, List.set_cons_zero, List.set_cons_succ])))
  refine RP.t_fork rfl rfl (fun K hK => ?_) (fun K hK => ?_)
  · go_simp
    have hBV : Below W.heap.size W V := hB1.trans (hS.2.2.mono hB1.size)
    refine (HG.out V hBV).mono ?_
    rintro en V1 ⟨rfl, hb2⟩
    have hB2 : Below W.heap.size W V1 := hBV.trans (hb2.mono hBV.size)
    have hS1 := And.intro (hS.1.later hb2) (And.intro (hS.2.1.below hb2 hS.2.1.lt) (hS.2.2.trans (hb2.mono hS.2.2.size)))
    refine hK.out _ _ hS1 ?_
    clear hK K hb2 hS hBV
    (try simp only [Act.put, List.setIfInBounds_toArray, List.set_cons_zero, List.set_cons_succ])
    repeat (first | (refine RP.t_take (v := ?_) rfl rfl (fun w' hw' => ?_) ?_; rotate_left; (focus ((obtain ⟨hL, hA, hB⟩ := hw'; have hc := hL.cell.cell 0; obtain ⟨a0, a1, a2, a3, a4, a5, a6, a7⟩ := lies_addr hA; have hk := HLK.out w' hL; simp only [List.getElem?_toArray, List.getElem?_cons_zero] at hc); go_simp; (try go_bits); (try (with_reducible rfl)))); (try simp only [Act.put, List.setIfInBounds_toArray, List.set_cons_zero, List.set_cons_succ])) | (refine RP.t_skip rfl rfl ?_; (try simp only [Act.put, List.setIfInBounds_toArray, List.set_cons_zero, List.set_cons_succ])))
    refine RP.t_run rfl (fun K hK => ?_)
    go_simp
    refine hK.out _ _ ⟨hS1.1.alloc _, hS1.2.1.alloc _, hS1.2.2.alloc hS1.2.2.size _⟩ ?_
    clear hK K
    (try simp only [Act.put, List.setIfInBounds_toArray, List.set_cons_zero, List.set_cons_succ])
    refine RP.t_run rfl (fun K hK => ?_)
    go_simp
    refine hK.out _ _ ⟨hS1.1.alloc _, hS1.2.1.alloc _, hS1.2.2.alloc hS1.2.2.size _⟩ ?_
    clear hK K
    (try simp only [Act.put, List.setIfInBounds_toArray, List.set_cons_zero, List.set_cons_succ])
    have hL2 := hS1.1.alloc (.cells #[.int .u64 b, .int .u64 n] 132)
    have hA2 := hS1.2.1.alloc (.cells #[.int .u64 b, .int .u64 n] 132)
    have hE2 := Lies.new V1 132 #[.int .u64 b, .int .u64 n]
    replace hB2 := hB2.alloc hB2.size (.cells #[.int .u64 b, .int .u64 n] 132)
    clear hS1
    repeat (first | (refine RP.t_take (v := ?_) rfl rfl (fun w' hw' => ?_) ?_; rotate_left; (focus ((obtain ⟨hL, hA, hB⟩ := hw'; have hc := hL.cell.cell 0; obtain ⟨a0, a1, a2, a3, a4, a5, a6, a7⟩ := lies_addr hA; have hk := HLK.out w' hL; simp only [List.getElem?_toArray, List.getElem?_cons_zero] at hc); go_simp; (try go_bits); (try (with_reducible rfl)))); (try simp only [Act.put, List.setIfInBounds_toArray, List.set_cons_zero, List.set_cons_succ])) | (refine RP.t_skip rfl rfl ?_; (try simp only [Act.put, List.setIfInBounds_toArray, List.set_cons_zero, List.set_cons_succ])))
    refine RP.t_done ?_
    generalize V1.alloc (.cells #[.int .u64 b, .int .u64 n] 132) = V2 at *
    have hc := hL2.cell.cell 0
    obtain ⟨a0, a1, a2, a3, a4, a5, a6, a7⟩ := lies_addr hA2
    have e0 := hE2.cell 0
    have e1 := hE2.cell 1
    simp only [List.getElem?_toArray, List.getElem?_cons_zero, List.getElem?_cons_succ] at hc e0 e1
    have HB2 := Lib.hid hB2
    clear hB2
    go_wp2_with fail
    go_ret
    exact ⟨rfl, hL2, grownBy_below HB2.out _⟩
  · go_simp
    have hBV : Below W.heap.size W (V.alloc (.cells #[.int .u64 0, .int .u64 0] 132)) := (hB1.trans (hS.2.2.mono hB1.size)).alloc (Nat.le_trans hB1.size hS.2.2.size) _
    have hE := Lies.new V 132 #[.int .u64 0, .int .u64 0]
    have hS1 : (Led (V.alloc (.cells #[.int .u64 0, .int .u64 0] 132)) bl bm L ∧ Lies (V.alloc (.cells #[.int .u64 0, .int .u64 0] 132)) W.heap.size 24 a.cs.toArray ∧ Below W1.heap.size W1 (V.alloc (.cells #[.int .u64 0, .int .u64 0] 132))) := ⟨hS.1.alloc _, hS.2.1.alloc _, hS.2.2.alloc hS.2.2.size _⟩
    have hq : W1.heap.size ≤ V.heap.size := hS.2.2.size
    have hbl : bl < V.heap.size := hS.1.cell.lt
    have hal : W.heap.size < V.heap.size := hS.2.1.lt
    refine hK.out _ _ hS1 ?_
    clear hK K hS
    (try simp only [Act.put, List.setIfInBounds_toArray, List.set_cons_zero, List.set_cons_succ])
    refine RP.t_run rfl (fun K hK => ?_)
    go_simp
    refine (HG.out _ hBV).mono ?_
    rintro en V1 ⟨rfl, hb2⟩
    have hB2 : Below W.heap.size W V1 := hBV.trans (hb2.mono hBV.size)
    have hE1 := hE.below hb2 hE.lt
    have hS2 := And.intro (hS1.1.later hb2) (And.intro (hS1.2.1.below hb2 hS1.2.1.lt) (hS1.2.2.trans (hb2.mono hS1.2.2.size)))
    refine hK.out _ _ hS2 ?_
    clear hK K hb2 hS1 hBV hE
    (try simp only [Act.put, List.setIfInBounds_toArray, List.set_cons_zero, List.set_cons_succ])
    repeat (first | (refine RP.t_take (v := ?_) rfl rfl (fun w' hw' => ?_) ?_; rotate_left; (focus ((obtain ⟨hL, hA, hB⟩ := hw'; have hc := hL.cell.cell 0; obtain ⟨a0, a1, a2, a3, a4, a5, a6, a7⟩ := lies_addr hA; have hk := HLK.out w' hL; simp only [List.getElem?_toArray, List.getElem?_cons_zero] at hc); go_simp; (try go_bits); (try (with_reducible rfl)))); (try simp only [Act.put, List.setIfInBounds_toArray, List.set_cons_zero, List.set_cons_succ])) | (refine RP.t_skip rfl rfl ?_; (try simp only [Act.put, List.setIfInBounds_toArray, List.set_cons_zero, List.set_cons_succ])))
    have e0 := hE1.cell 0
    have e1 := hE1.cell 1
    have f0 := hE1.frozen 0
    have f1 := hE1.frozen 1
    simp only [List.getElem?_toArray, List.getElem?_cons_zero, List.getElem?_cons_succ] at e0 e1
    refine RP.t_run rfl (fun K hK => ?_)
    go_simp
    have hL2 := (hS2.1.setCell (a := ⟨V.heap.size, 0, none⟩) (v := .int .u64 b) (by simp; omega) e0).setCell (a := ⟨V.heap.size, 1, none⟩) (v := .int .u64 n) (by simp; omega) (((hE1.set 0 (.int .u64 b)).cell 1).trans rfl)
    have hA2 := (hS2.2.1.other (a := ⟨V.heap.size, 0, none⟩) (by simp; omega) (.int .u64 b)).other (a := ⟨V.heap.size, 1, none⟩) (by simp; omega) (.int .u64 n)
    have hE2 := (hE1.set 0 (.int .u64 b)).set 1 (.int .u64 n)
    have hV2 := (hS2.2.2.setCell (p := ⟨V.heap.size, 0, none⟩) hq (.int .u64 b)).setCell (p := ⟨V.heap.size, 1, none⟩) hq (.int .u64 n)
    replace hB2 := (hB2.setCell (p := ⟨V.heap.size, 0, none⟩) (Nat.le_of_lt hal) (.int .u64 b)).setCell (p := ⟨V.heap.size, 1, none⟩) (Nat.le_of_lt hal) (.int .u64 n)
    refine hK.out _ _ ⟨hL2, hA2, hV2⟩ ?_
    clear hK K hS2 e0 e1 f0 f1 hE1
    (try simp only [Act.put, List.setIfInBounds_toArray, List.set_cons_zero, List.set_cons_succ])
    repeat (first | (refine RP.t_take (v := ?_) rfl rfl (fun w' hw' => ?_) ?_; rotate_left; (focus ((obtain ⟨hL, hA, hB⟩ := hw'; have hc := hL.cell.cell 0; obtain ⟨a0, a1, a2, a3, a4, a5, a6, a7⟩ := lies_addr hA; have hk := HLK.out w' hL; simp only [List.getElem?_toArray, List.getElem?_cons_zero] at hc); go_simp; (try go_bits); (try (with_reducible rfl)))); (try simp only [Act.put, List.setIfInBounds_toArray, List.set_cons_zero, List.set_cons_succ])) | (refine RP.t_skip rfl rfl ?_; (try simp only [Act.put, List.setIfInBounds_toArray, List.set_cons_zero, List.set_cons_succ])))
    refine RP.t_done ?_
    generalize (V1.setCell ⟨V.heap.size, 0, none⟩ (.int .u64 b)).setCell ⟨V.heap.size, 1, none⟩ (.int .u64 n) = V2 at *
    clear hV2 hq
    have hc := hL2.cell.cell 0
    obtain ⟨a0, a1, a2, a3, a4, a5, a6, a7⟩ := lies_addr hA2
    have e0 := hE2.cell 0
    have e1 := hE2.cell 1
    simp only [List.getElem?_toArray, List.getElem?_cons_zero] at hc e0 e1
    have HB2 := Lib.hid hB2
    clear hB2
    go_wp2_with fail
    go_ret
    exact ⟨rfl, hL2, grownBy_below HB2.out _⟩
set_option maxRecDepth 100000 in
set_option maxHeartbeats 1000000 in
theorem change_nil (W : World) (a : A8) (v : Value) :
    Calls Try.prog 82 #[.pointer none, a.v, v] W fun e w' => e = .returned (.int .i64 1) ∧ Below W.heap.size W w' := by
  simp only [A8.v]
  go_enter Try.func82, Try.ntmps82
  go_wp2_with fail
  go_ret
  exact ⟨rfl, (Below.refl _ _).alloc (Nat.le_refl _) _⟩
end Go.Proofs.Yteeghdkejnhjnaa.Ac
