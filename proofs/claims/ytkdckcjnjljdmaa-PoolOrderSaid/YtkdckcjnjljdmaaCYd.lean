/- pool.Order. -/
import Derived.Test.YtkdckcjnjljdmaaCYc
namespace Go.Proofs.Ytkdckcjnjljdmaa.Po
open Go Go.RowKit Go.Lib Kt Fm Ad Kv

theorem fr_lies {w w' : World} {m b : Nat} {ty : TypeId} {cs : Array Value} (h : Lies w b ty cs) (hf : Fr w w' (fun k => m ≤ k ∨ MapAt w k)) (hb : b < m) : Lies w' b ty cs := lies_fr h hf (fun e => by
  rcases e with e | ⟨es, c, e⟩
  · omega
  · rw [show w.heap[b]? = _ from h] at e; cases e)
theorem fr_row {w w' : World} {m base : Nat} {e : TypeId} {sz n : Nat} {v : Value} {xs : List Value} (h : w.ownsRow base e sz v n xs) (hf : Fr w w' (fun k => m ≤ k ∨ MapAt w k)) (hb : ∀ k, v.ownBlock = some k → k < m) : w'.ownsRow base e sz v n xs := row_fr h hf (fun k hk e => by
  rcases e with e | ⟨es, c, e⟩
  · have := hb k hk; omega
  · obtain ⟨_, _, cur, hc⟩ := row_block h hk
    rw [hc] at e
    cases e)
/-- A transaction whose data lie ahead of a block. -/
structure TxIn (m : Nat) (w : World) (t : Tx) : Prop where
  own : TxOwn 0 w t
  lt : ∀ k, t.dv.ownBlock = some k → k < m
theorem TxIn.stay {w w' : World} {m : Nat} {t : Tx} (h : TxIn m w t) (hf : Fr w w' (fun k => m ≤ k ∨ MapAt w k)) : TxIn m w' t := ⟨⟨fr_row h.own.d hf h.lt, h.own.n, h.own.v, h.own.g, h.own.p⟩, h.lt⟩
theorem TxIn.mono {m m' : Nat} {w : World} {t : Tx} (h : TxIn m w t) (hm : m ≤ m') : TxIn m' w t := ⟨h.own, fun k hk => Nat.lt_of_lt_of_le (h.lt k hk) hm⟩
theorem TxOwn.inn {w : World} {t : Tx} (h : TxOwn 0 w t) : TxIn w.heap.size w t := ⟨h, fun _ hk => (row_block h.d hk).2.1⟩
set_option maxRecDepth 100000 in
set_option maxHeartbeats 16000000 in
theorem order1_fr {W : World} {t : Tx} {base bo : Nat} {ov : Value} {L : List Tx} (ht : TxOk W t) (hbo : Lies W bo 27 #[ov]) (hr : W.ownsRow base 32 22 ov L.length (L.flatMap Tx.cs)) (hl : L.length ≤ 100000) (hb2 : base ≤ W.heap.size) : Calls Try.prog 27 #[.agg t.cs.toArray, .pointer (some ⟨bo, 0, none⟩)] W fun e w' => e = .returned (.bool true) ∧ (∃ ov', Lies w' bo 27 #[ov'] ∧ w'.ownsRow base 32 22 ov' (L ++ [t]).length ((L ++ [t]).flatMap Tx.cs)) ∧ Fr W w' (fun k => k = bo ∨ some k = ov.ownBlock) := by
  have HT := Lib.hid ht
  have HO := Lib.hid hbo
  have HR := Lib.hid hr
  clear ht hbo hr
  go_enter Try.func27, Try.ntmps27
  go_upto_region 1 with (refine wl_box t.cs _ rfl rfl rfl (fun w1 hbw1 hlw1 => ?_); have HB1 := Lib.hid (hbw1); have HLB := Lib.hid hlw1; obtain ⟨B, hBw1⟩ : ∃ B, B = W.heap.size := ⟨_, rfl⟩; rw [← hBw1] at HLB ⊢; clear hBw1 hbw1 hlw1; (try simp only [Act.put, List.setIfInBounds_toArray, List.set_cons_zero, List.set_cons_succ]))
  have z0 : w1.cell? ⟨bo, 0, none⟩ = some ov := (HO.out.below HB1.out HO.out.lt).cell 0
  have R1 := Lib.hid (ownsRow_keep HR.out HB1.out)
  have O1 := Lib.hid (HO.out.below HB1.out HO.out.lt)
  have BB1 := Lib.hid (show base ≤ w1.heap.size from Nat.le_trans hb2 HB1.out.size)
  have F1 := Lib.hid (Fr.of_below HB1.out (fun k => k = bo ∨ some k = ov.ownBlock))
  go_wp2_with (first | (refine wpList_load_mid rfl 32 _ rfl B 0 rfl t.cs _ (lies_range HLB.out) Try.underlying32 rfl sizeTx ?_; (try simp only [Act.put, List.setIfInBounds_toArray, List.set_cons_zero, List.set_cons_succ])) | (refine wl_bsN (e := 32) (d := 6) rfl rfl t.cs rfl (fun w => by kernel_rfl) (fun w2 hb2 hl2 => ?_); have R2 := Lib.hid (ownsRow_keep R1.out hb2); have O2 := Lib.hid (O1.out.below hb2 O1.out.lt); have BB2 := Lib.hid (Nat.le_trans BB1.out hb2.size); have F2 := Lib.hid (F1.out.trans (Fr.of_below hb2 _)); have L2 := Lib.hid hl2; clear hb2 hl2; (try simp only [Act.put, List.setIfInBounds_toArray, List.set_cons_zero, List.set_cons_succ])) | (refine wl_app (by_ := 80) _ _ rfl rfl Try.underlying27 inf_tx (by decide) rfl R2.out Tx.len rfl (sl_one L2.out) (fun y hy u hu => by obtain rfl := List.mem_singleton.1 hy; exact HT.out.one u hu) (by unfold maxLen; simp; omega) (by simp; omega) BB2.out (fun v3 w3 hr3 hg3 hv3 => ?_); have R3 := Lib.hid (show w3.ownsRow base 32 22 v3 (L ++ [t]).length ((L ++ [t]).flatMap Tx.cs) from by rw [List.length_append, List.flatMap_append]; exact hr3); have O3 := Lib.hid (lies_frT O2.out (FrT.grown R2.out hg3) (by decide)); have F3 := Lib.hid (F2.out.trans ((Fr.of_grown hg3).mono (fun _ _ h => .inr h))); have V3 := Lib.hid (row_cells hr3); clear hr3 hg3 hv3; (try simp only [Act.put, List.setIfInBounds_toArray, List.set_cons_zero, List.set_cons_succ])) | (refine wl_fld (c0 := [ov]) O3.out _ _ rfl rfl rfl rfl [v3] [v3] V3.out.1 (by kernel_rfl) (by intro u hu; obtain rfl := List.mem_singleton.1 hu; exact V3.out.2) (by simp) rfl (fun w4 hl4 hf4 => ?_); have O4 := Lib.hid hl4; have R4 := Lib.hid (row_frT R3.out (FrT.field O3.out hf4) (by decide)); have F4 := Lib.hid (F3.out.trans (hf4.mono (fun _ _ h => .inl h))); clear hl4 hf4; (try simp only [Act.put])))
  go_ret
  exact ⟨rfl, ⟨v3, O4.out, R4.out⟩, F4.out⟩
/-- Order's taker takes all. -/
def OT (s : List Tx) (t : Tx) (b : Bool) (s' : List Tx) : Prop := b = true ∧ s' = s ++ [t]
/-- What Order's closure holds. -/
def OI (base bo : Nat) (s : List Tx) (m : Nat) (w : World) : Prop := ∃ ov, Lies w bo 27 #[ov] ∧ bo < m ∧ w.ownsRow base 32 22 ov s.length (s.flatMap Tx.cs) ∧ (∀ k, ov.ownBlock = some k → k < m) ∧ ∀ t ∈ s, TxIn m w t
theorem OI.stay {base bo m : Nat} {s : List Tx} {w w' : World} (h : OI base bo s m w) (hf : Fr w w' (fun k => m ≤ k ∨ MapAt w k)) : OI base bo s m w' := by
  obtain ⟨ov, h1, h2, h3, h4, h5⟩ := h
  exact ⟨ov, fr_lies h1 hf h2, h2, fr_row h3 hf h4, h4, fun t ht => (h5 t ht).stay hf⟩
theorem order_taker {W : World} {bo : Nat} {l : List Tx} {f0 : Nx} (hl : l.length ≤ 1000) (hbo : bo = W.heap.size) : Taker W W.heap.size 27 #[.pointer (some ⟨bo, 0, none⟩)] OT l f0 [] (OI W.heap.size bo) := by
  refine ⟨enters_of Try.func27 (by kernel_rfl) rfl, fun s m w w' h hf => h.stay hf, fun s m m' w h hm => ?_, fun f D s m w t hpk _ hb hm hbm hi ht => ?_⟩
  · obtain ⟨ov, h1, h2, h3, h4, h5⟩ := h
    exact ⟨ov, h1, by omega, h3, fun k hk => Nat.lt_of_lt_of_le (h4 k hk) hm, fun t ht => (h5 t ht).mono hm⟩
  · obtain ⟨ov, h1, h2, h3, h4, h5⟩ := hi
    have hlen : s.length ≤ 1000 := by
      have h6 := PickTo.len (n := List.length) (fun s t b s' h => by rw [h.2]; simp) hpk
      have h7 := togoD_le l f0 []
      simp only [List.length_nil] at h6
      omega
    refine (order1_fr ht.ok h1 h3 (by omega) hb.size).mono ?_
    rintro e w' ⟨rfl, ⟨ov', k1, k2⟩, k3⟩
    have hst : Fr w w' (fun k => W.heap.size ≤ k ∧ k < m ∧ ¬ MapAt w k) := k3.mono (fun k hk hq => by
      rcases hq with rfl | hq
      · exact ⟨Nat.le_of_eq hbo.symm, h2, fun ⟨es, c, e⟩ => by rw [show w.heap[k]? = _ from h1] at e; cases e⟩
      · obtain ⟨q1, q2, cur, q3⟩ := row_block h3 hq.symm
        exact ⟨q1, h4 k hq.symm, fun ⟨es, c, e⟩ => by rw [q3] at e; cases e⟩)
    have hcell : ∀ (t : Tx), TxOwn 0 w t → TxOwn 0 w' t := fun t ht => ⟨row_fr ht.d k3 (fun k hk e => by
      obtain ⟨_, _, c0, q0⟩ := row_block ht.d hk
      rcases e with rfl | e
      · rw [show w.heap[k]? = _ from h1] at q0
        injection q0 with q0
        injection q0 with _ q0 _
        exact absurd q0 (by decide)
      · obtain ⟨_, _, c1, q1⟩ := row_block h3 e.symm
        rw [q1] at q0
        injection q0 with q0
        injection q0 with _ q0 _
        exact absurd q0 (by decide)), ht.n, ht.v, ht.g, ht.p⟩
    exact ⟨true, s ++ [t], rfl, ⟨rfl, rfl⟩, ⟨ov', k1, (by have := k3.size; omega), k2, fun k hk => (row_block k2 hk).2.1, fun u hu => (hcell u ((List.mem_append.1 hu).elim (fun h => (h5 u h).own) (fun h => by obtain rfl := List.mem_singleton.1 h; exact ht))).inn⟩, hst⟩
theorem availD_nil (l : List Tx) (f : Nx) : availD l f [] = avail l f := by
  unfold availD avail
  exact List.filter_congr (fun x _ => by simp)
theorem order_of {l : List Tx} {f0 : Nx} {f : Nx} {D : List A8} {s : List Tx} (h : PickTo OT l f0 [] f D s) : D = [] ∧ ∃ o, o.map Tx.nv = s.map Tx.nv ∧ OrdTo l f0 o f := by
  induction h with
  | start => exact ⟨rfl, [], rfl, rfl⟩
  | take _ hb hn ht ih =>
    obtain ⟨rfl, o, h1, h2⟩ := ih
    obtain ⟨h3, h4⟩ := bestT_mem hb
    rw [availD_nil] at h3 h4
    refine ⟨rfl, o ++ [_], ?_, h2.snoc h3 h4⟩
    rw [ht.2, List.map_append, List.map_append, h1, List.map_singleton, List.map_singleton, hn]
  | skip _ _ _ ht => exact absurd ht.1 (by decide)
def OrderSays (W : World) (l : List Tx) (f : Nx) (e : Ending) (w' : World) : Prop := ∃ (ov : Value) (O o : List Tx), e = .returned ov ∧ w'.ownsRow W.heap.size 32 22 ov O.length (O.flatMap Tx.cs) ∧ (∀ t ∈ O, TxOwn 0 w' t) ∧ o.map Tx.nv = O.map Tx.nv ∧ Ord l f o ∧ O.length ≤ l.length ∧ Below W.heap.size W w'
set_option maxRecDepth 100000 in
set_option maxHeartbeats 16000000 in
theorem order_any {pb : Nat} {W : World} {bp most : Nat} {v wv : Value} {l : List Tx} {f : Nx} (hp : PoolAt pb W bp most v l) (hf : Nonces W wv f) (hl : l.length ≤ 1000) : Calls Try.prog 9 #[.pointer (some ⟨bp, 0, none⟩), wv] W fun e w' => OrderSays W l f e w' := by
  have HP := Lib.hid hp
  have HF := Lib.hid hf
  clear hp hf
  go_enter Try.func9, Try.ntmps9
  go_upto_region 4 with fail
  have HB1 := Lib.hid (show Below W.heap.size W (W.alloc (.cells #[.slice none 0 0] 27)) from (Below.refl _ _).alloc (Nat.le_refl _) _)
  have HL1 := Lib.hid (Lies.new W 27 #[.slice none 0 0])
  obtain ⟨w1, hw1⟩ : ∃ w1, w1 = W.alloc (.cells #[.slice none 0 0] 27) := ⟨_, rfl⟩
  rw [← hw1] at HB1 HL1 ⊢
  obtain ⟨bo, hbo⟩ : ∃ bo, bo = W.heap.size := ⟨_, rfl⟩
  have HTK := Lib.hid (order_taker (W := W) (l := l) (f0 := f) (bo := bo) hl hbo)
  have HBO := Lib.hid hbo
  rw [← hbo] at HL1 ⊢
  clear hw1 hbo
  have HO1 := Lib.hid (show OI W.heap.size bo [] w1.heap.size w1 from ⟨.slice none 0 0, HL1.out, HL1.out.lt, World.ownsRow_nil _ _ _ _, fun k hk => (by cases hk), fun t ht => (by cases ht)⟩)
  go_wp2_with fail
  refine (pick_any HP.out HF.out HTK.out HO1.out HB1.out hl).mono ?_
  rintro en w2 ⟨f2, D, O, rfl, hpk, hav, hoi, hb2⟩
  have HPK := Lib.hid hpk
  have HAV := Lib.hid hav
  have HB2 := Lib.hid hb2
  obtain ⟨ov, k1, _, k3, _, k5⟩ := hoi
  have K3 := Lib.hid k3
  have K5 := Lib.hid k5
  have z0 : w2.cell? ⟨bo, 0, none⟩ = some ov := k1.cell 0
  have hlen : O.length ≤ l.length := by
    have h6 := PickTo.len (n := List.length) (fun s t b s' h => by rw [h.2]; simp) hpk
    have h7 := togoD_le l f []
    simp only [List.length_nil] at h6
    omega
  have HLE := Lib.hid hlen
  clear hpk hav hb2 k1 k3 k5 hlen
  go_wp2_with fail
  go_ret
  obtain ⟨rfl, o, q1, q2⟩ := order_of HPK.out
  exact ⟨ov, O, o, rfl, K3.out, fun t ht => (K5.out t ht).own, q1, q2.done (by rw [← availD_nil]; exact HAV.out), HLE.out, HB2.out⟩
end Go.Proofs.Ytkdckcjnjljdmaa.Po
