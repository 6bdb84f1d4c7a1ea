/- The law PoolKeeps. -/
import Derived.Test.YtkdckcjnjljdmaaCYf
namespace Go.Proofs.Ytkdckcjnjljdmaa.Po
open Go Go.RowKit Go.Lib Kt Fm Ad Kv

theorem addP_outs {most : Nat} {l : List Tx} {t : Tx} (ho : ∀ u ∈ l, OkT u) (ht : OkT t) : ∀ x ∈ (addP most l t).2.1, OkT x := by
  have h1 : ∀ x ∈ (withT l t).2, OkT x := fun x hx => by
    unfold withT at hx
    cases ha : at? l t with
    | none => rw [ha] at hx; cases hx
    | some y =>
      rw [ha] at hx
      obtain rfl := List.mem_singleton.1 hx
      exact ho x (List.mem_of_getElem? (at_some ha).1)
  have h2 : ∀ x ∈ (withT l t).1, OkT x := fun x hx => (withT_mem hx).elim (fun e => e ▸ ht) (ho x)
  intro x hx
  unfold addP at hx
  by_cases hle : (withT l t).1.length ≤ most
  · rw [if_pos hle] at hx; exact h1 x hx
  · rw [if_neg hle] at hx
    cases hw : worst (withT l t).1 with
    | none => rw [hw] at hx; cases hx
    | some z =>
      rw [hw] at hx
      simp only at hx
      by_cases hz : place z t = 0
      · rw [if_pos hz] at hx; cases hx
      · rw [if_neg hz] at hx
        rcases List.mem_append.1 hx with hx | hx
        · exact h1 x hx
        · obtain rfl := List.mem_singleton.1 hx
          exact h2 x (worst_spec hw).1
/-- One of a list that is another one but for where data lie. -/
theorem nv_mem {l L : List Tx} (h : L.map Tx.nv = l.map Tx.nv) {x : Tx} (hx : x ∈ L) : ∃ y ∈ l, y.nv = x.nv := by
  have : x.nv ∈ l.map Tx.nv := by rw [← h]; exact List.mem_map.2 ⟨x, hx, rfl⟩
  obtain ⟨y, hy, e⟩ := List.mem_map.1 this
  exact ⟨y, hy, e⟩
theorem rank_of {x y a b : Tx} (h1 : a.nv = x.nv) (h2 : b.nv = y.nv) (h : rank a b < 0) : rank x y < 0 := by
  rw [← rank_nv, ← h1, ← h2, rank_nv]
  exact h
theorem may_of {x a : Tx} (h1 : a.nv = x.nv) (h : mayT a = 0) : mayT x = 0 := by
  rw [show mayT x = mayT x.nv from rfl, ← h1]
  exact h
def c16 (x : Nat) : List Value := [.int .u16 x]
theorem c16_len (x : Nat) : (c16 x).length = 1 := rfl
theorem nx0_of {n : Nat} {l : List Tx} {k p : Nat} {dv : Value} (hk : k < 41) (h : Came k l) : addF nx0 n l { tx1 (UInt8.ofNat k) (k % 3) p with dv := dv } = addP n l { tx1 (UInt8.ofNat k) (k % 3) p with dv := dv } := addF_yes (may_one (i := k) (n := k % 3) (p := p) (by omega) h (by omega))
theorem came_of {i most : Nat} {l : List Tx} {t : Tx} (h : Came i l) (e : t.frm = adr (UInt8.ofNat i)) : Came (i + 1) (addP most l t).1 := by
  have h0 : ∀ u ∈ (withT l t).1, ∃ j, j < i + 1 ∧ u.frm = adr (UInt8.ofNat j) := fun u hu => by
    rcases withT_mem hu with rfl | hu
    · exact ⟨i, by omega, e⟩
    · obtain ⟨j, hj, e⟩ := h u hu
      exact ⟨j, by omega, e⟩
  have hl : Came (i + 1) l := fun u hu => by
    obtain ⟨j, hj, e⟩ := h u hu
    exact ⟨j, by omega, e⟩
  unfold addP
  by_cases hle : (withT l t).1.length ≤ most
  · rw [if_pos hle]; exact h0
  · rw [if_neg hle]
    cases worst (withT l t).1 with
    | none => exact hl
    | some z =>
      simp only
      by_cases hz : place z t = 0
      · rw [if_pos hz]; exact hl
      · rw [if_neg hz]
        exact fun u hu => h0 u (List.mem_filter.1 hu).1
/-- What a round of the law has behind Add. -/
structure Kp (most : Nat) (l : List Tx) (t : Tx) (L : List Tx) (O : List Tx) (er : Nat) : Prop where
  err : er = 0 ∨ er = 7
  outs : ∀ x ∈ O, ∀ u ∈ L, rank u x < 0
  full : er = 7 → ∀ u ∈ L, rank u t < 0
  lm : ∀ u ∈ L, mayT u = 0
  om : ∀ x ∈ O, mayT x = 0
  one : O.length ≤ 1
  len : L.length = min (l.length + 1) most
  small : L.length ≤ 1000
theorem kp_of {most : Nat} {l L O : List Tx} {t t' : Tx} (hs : PoolOk most l) (ht : OkT t') (hn : t'.nv = t.nv) (ha : at? l t' = none) (hL : L.map Tx.nv = (addP most l t').1.map Tx.nv) (hO : O.map Tx.nv = (addP most l t').2.1.map Tx.nv) (hl : l.length ≤ 40) : Kp most l t L O (addP most l t').2.2 := by
  have h := addP_spec hs.srt hs.ok ht hs.len
  have ho := addP_outs (most := most) hs.ok ht
  have e1 := len_nv hL
  have e2 := len_nv hO
  rw [List.length_map] at e1 e2
  have hlen := h.grow ha
  refine ⟨h.er, fun x hx u hu => ?_, fun e u hu => ?_, fun u hu => ?_, fun x hx => ?_, by rw [e2]; exact h.one ha, by rw [e1]; exact hlen, by rw [e1, hlen]; omega⟩
  · obtain ⟨x0, hx0, ex⟩ := nv_mem hO hx
    obtain ⟨u0, hu0, eu⟩ := nv_mem hL hu
    exact rank_of eu ex (h.outs ha x0 hx0 u0 hu0)
  · obtain ⟨u0, hu0, eu⟩ := nv_mem hL hu
    obtain ⟨q1, _, q2⟩ := h.full e
    rw [q1] at hu0
    exact rank_of eu hn (q2 u0 hu0)
  · obtain ⟨u0, hu0, eu⟩ := nv_mem hL hu
    exact may_of eu (h.ok u0 hu0).may
  · obtain ⟨x0, hx0, ex⟩ := nv_mem hO hx
    exact may_of ex (ho x0 hx0).may
theorem u8_of (k : Nat) (h : k < 41) : ((UInt8.ofNat k).toNat : Int) = (k : Int) := by rw [UInt8.toNat_ofNat']; omega
set_option maxRecDepth 100000 in
set_option maxHeartbeats 16000000 in
theorem law_keeps {W : World} {M : Nat} {v : Value} {prices : List Nat} (hM : M < 256) (hv : Sl W 1 c16 v prices) (hpr : ∀ p ∈ prices, p < 65536) : Calls Try.prog 4 #[.int .u8 M, v] W fun e w' => e = .returned (.bool true) ∧ Below W.heap.size W w' := by
  obtain ⟨sp, cp, rfl, hfp⟩ := hv.form
  have HV := Lib.hid hv
  have HFP := Lib.hid hfp
  have HM := Lib.hid hM
  have HPR := Lib.hid hpr
  clear hv hfp hM hpr
  go_enter Try.func4, Try.ntmps4
  go_wp2_with fail
  refine (known_any W).mono ?_
  rintro en w0 ⟨rfl, hb0⟩
  have HB0 := Lib.hid hb0
  clear hb0
  go_wp2_with (refine wl_val (v := .agg (Wd.Gen.cs ⟨0, 0, 0, 0, 0, 0, 0, 0⟩ none 0 0).toArray) rfl (wb_op (ty := 26) (args := #[]) rfl (by kernel_rfl)) ?_; (try simp only [Act.put, List.setIfInBounds_toArray, List.set_cons_zero, List.set_cons_succ]))
  refine (Wd.wnew_any (W := w0) (c := ⟨0, 0, 0, 0, 0, 0, 0, 0⟩) (s := none) (cap := 0) (l := []) ⟨_, _, rfl, fun h => absurd rfl h⟩ (fun x hx => by cases hx) (by simp)).mono ?_
  rintro en w1 hnew
  obtain ⟨wp, rfl, HN, HB1⟩ : ∃ wp, en = .returned (.tuple #[.pointer (some ⟨wp, 0, none⟩), .int .i64 0]) ∧ RowKit.Hid (Nonces w1 (.pointer (some ⟨wp, 0, none⟩)) nx0) ∧ RowKit.Hid (Below W.heap.size W w1) := by
    rcases hnew with ⟨h, _⟩ | ⟨_, wp, bl, bm, bk, bb, rfl, hw, _, _, _, hb⟩
    · exact absurd rfl h
    · exact ⟨wp, rfl, Lib.hid hw.nonces, Lib.hid (bt HB0.out hb)⟩
  clear hnew HB0
  by_cases hlen : 40 < prices.length
  · have hlen2 : (40 : Int) < (prices.length : Int) := by omega
    go_wp2_with fail
    go_ret
    exact ⟨rfl, HB1.out⟩
  have hlen2 : ¬ (40 : Int) < (prices.length : Int) := by omega
  have hMw : wrap64 (M : Int) = (M : Int) := IntWalk.wrap64_in _ (by have := HM.out; omega)
  go_wp2_with fail
  refine (new_any M w1).mono ?_
  rintro en w2 ⟨bp, rfl, hp, hbp, hb2⟩
  have HP2 := Lib.hid (show PS w1 bp M w2 (.slice none 0 0) [] from ⟨hb2, (show (max (M : Int) 0).toNat = M from by omega) ▸ hp, hbp⟩)
  clear hp hbp hb2
  go_wp2_with fail
  go_loopw [36] (fun iv wr => ∃ (k : Nat) (v : Value) (l : List Tx), k ≤ prices.length ∧ iv = .int .i64 k ∧ PS w1 bp M wr v l ∧ Came k l ∧ l.length = min k M) (fun iv _ => prices.length - (RowKit.intOf iv).toNat)
  case atStart => exact ⟨0, _, [], Nat.zero_le _, rfl, HP2.out, fun u hu => (by cases hu), by simp⟩
  case round =>
    clear HP2
    obtain ⟨k, v, l, hk, rfl, hps, hcm, hll⟩ := hrel
    have HPS := Lib.hid hps
    have HCM := Lib.hid hcm
    have HLL := Lib.hid hll
    clear hps hcm hll
    obtain ⟨wa, hwa⟩ : ∃ wa, wa = wr := ⟨_, rfl⟩
    rw [← hwa] at HPS ⊢
    clear hwa
    by_cases hlt : k < prices.length
    · have hlt2 : (k : Int) < (prices.length : Int) := by omega
      obtain ⟨p, hpk⟩ : ∃ p, prices[k]? = some p := ⟨_, List.getElem?_eq_getElem hlt⟩
      obtain ⟨gp, off, rfl, _⟩ := HFP.out (by intro e; rw [e] at hlt; simp at hlt)
      have zp : wa.cell? ⟨gp, off + k * 1 + 0, none⟩ = some (.int .u16 p) := (HV.out.later (bt HB1.out HPS.out.below)).cell hpk (j := 0) rfl
      rw [Nat.mul_one, Nat.add_zero] at zp
      have hpl : p < 65536 := HPR.out p (List.mem_of_getElem? hpk)
      obtain ⟨P, hP⟩ : ∃ P, P = p := ⟨_, rfl⟩
      rw [← hP] at zp hpl
      clear hpk hP
      go_wp2_with fail
      clear zp
      have hk41 : k < 41 := by omega
      have htx := tx1_any (UInt8.ofNat k) (k % 3) P wa
      rw [u8_of k hk41, show ((k % 3 : Nat) : Int) = (k : Int) % 3 from by omega] at htx
      refine htx.mono ?_
      clear htx
      rintro en wb ⟨rfl, hbb⟩
      have HPB := Lib.hid (HPS.out.later hbb)
      clear hbb HPS
      obtain ⟨t, ht⟩ : ∃ t, t = tx1 (UInt8.ofNat k) (k % 3) P := ⟨_, rfl⟩
      rw [← ht]
      have HTT := Lib.hid ht
      clear ht
      have HTO := Lib.hid (fun w => show TxOk w t from by rw [HTT.out]; exact tx1_txok w _ (by omega) (by omega))
      have OBt := Lib.hid (show (t.cs.toArray.all (·.oneCell')) = true from (HTO.out wb).oneB)
      go_upto_region 11 with (refine wl_put (Lies.new _ _ _) t.cs _ _ rfl rfl rfl rfl rfl sizeTx OBt.out (fun wc hl hf => ?_); have hb : Below wb.heap.size wb wc := below_put ((Below.refl wb.heap.size wb).alloc (Nat.le_refl _) _) hf (Nat.le_refl _); have HPC := Lib.hid (HPB.out.later hb); obtain ⟨Bt, hB⟩ : ∃ Bt, Bt = wb.heap.size := ⟨_, rfl⟩; rw [← hB] at hl ⊢; have HXBt := Lib.hid hl; clear hl hf hb hB; (try simp only [Act.put]))
      go_wp2_with (refine wpList_load_mid rfl 32 _ rfl Bt 0 rfl t.cs _ (lies_range HXBt.out) Try.underlying32 rfl sizeTx ?_; (try simp only [Act.put, List.setIfInBounds_toArray, List.set_cons_zero, List.set_cons_succ]))
      refine (add_ps (t := t) HPC.out HN.out (HTO.out wc) (by have h := HLL.out; omega)).mono ?_
      rintro en wd ⟨dv, vo, v', O, rfl, hps, ho1, ho2, ho3, hfr⟩
      obtain ⟨t', ht'⟩ : ∃ t' : Tx, t' = { t with dv := dv } := ⟨_, rfl⟩
      have HT' := Lib.hid ht'
      rw [← ht', show addF nx0 M l t' = addP M l t' from by rw [ht', HTT.out]; exact nx0_of hk41 HCM.out] at hps ho3
      rw [← ht', show addF nx0 M l t' = addP M l t' from by rw [ht', HTT.out]; exact nx0_of hk41 HCM.out]
      have HTD := Lib.hid (lies_fr HXBt.out hfr (fun e => HXBt.out.ne HPC.out.pool.box (by decide) e))
      have HPD := Lib.hid hps
      have HO1 := Lib.hid ho1
      have HO2 := Lib.hid ho2
      have HO3 := Lib.hid ho3
      have HC2 := Lib.hid (show Came (k + 1) (addP M l t').1 from came_of HCM.out (by rw [ht', HTT.out]; rfl))
      have HAT := Lib.hid (show at? l t' = none from (show at? l t' = at? l (tx1 (UInt8.ofNat k) (k % 3) P) from by rw [ht', HTT.out]; rfl).trans (came_none (by omega) HCM.out _ _))
      have HOT := Lib.hid (show OkT t' from by rw [ht', HTT.out]; exact ⟨rfl, by show k % 3 < 18446744073709551615; omega, by show (0 : Nat) < 18446744073709551616; decide, by show (1000 : Nat) < 18446744073709551616; decide, by show P < 18446744073709551616; omega⟩)
      have HOK := Lib.hid HPC.out.pool.ok
      have HNT := Lib.hid (show t'.nv = t.nv from by rw [ht']; rfl)
      clear hps ho1 ho2 ho3 hfr ht' HXBt HPC HPB
      obtain ⟨so, co, hvo, hco, hso⟩ := row_form HO1.out
      subst hvo
      have HSO := Lib.hid hso
      clear hso hco
      go_wp2_with fail
      refine (all_any HPD.out.pool (by have h := addP_spec HOK.out.srt HOK.out.ok HOT.out HOK.out.len; have h1 := h.grow HAT.out; have h2 := HLL.out; rw [h1]; omega)).mono ?_
      rintro en we ⟨va, L, rfl, hLnv, hLr, hLo, hbe⟩
      have HPE := Lib.hid (HPD.out.later hbe)
      have HKP := Lib.hid (kp_of HOK.out HOT.out HNT.out HAT.out hLnv HO3.out (by have h2 := HLL.out; omega))
      have HLR := Lib.hid hLr
      have HLO := Lib.hid hLo
      have HOR := Lib.hid (ownsRow_keep HO1.out hbe)
      have HOO := Lib.hid (show ∀ u ∈ O, TxOk we u from fun u hu => ((HO2.out u hu).later hbe).ok)
      have HTE := Lib.hid (HTD.out.below hbe HTD.out.lt)
      have HLN := Lib.hid (show (addP M l t').1.length = min (k + 1) M from by
        have h1 := (addP_spec HOK.out.srt HOK.out.ok HOT.out HOK.out.len).grow HAT.out
        have h2 := HLL.out
        omega)
      obtain ⟨er, her⟩ : ∃ er, er = (addP M l t').2.2 := ⟨_, rfl⟩
      obtain ⟨L2, hL2⟩ : ∃ L2, L2 = (addP M l t').1 := ⟨_, rfl⟩
      rw [← her] at HKP ⊢
      rw [← hL2] at HC2 HPE HLN
      clear hLnv hLr hLo hbe her hL2 HPD HO1 HO2 HO3 HTD HOK HOT HAT HNT HT' HCM HLL
      obtain ⟨sa, ca, hva, hca, hsa⟩ := row_form HLR.out
      subst hva
      have HSA := Lib.hid hsa
      clear hsa hca
      have hO1 : O.length ≤ 1 := HKP.out.one
      have hL1 : L.length ≤ 1000 := HKP.out.small
      go_wp2_with fail
      go_loopw [59] (fun iv wr => ∃ j : Nat, j ≤ L.length ∧ iv = .int .i64 j ∧ Below we.heap.size we wr) (fun iv _ => L.length - (RowKit.intOf iv).toNat)
      case atStart => exact ⟨0, Nat.zero_le _, rfl, Below.refl _ _⟩
      case round =>
        obtain ⟨j, hj, rfl, hb⟩ := hrel
        have HB6 := Lib.hid hb
        clear hb
        obtain ⟨wf, hwf⟩ : ∃ wf, wf = wr := ⟨_, rfl⟩
        rw [← hwf] at HB6 ⊢
        clear hwf
        by_cases hjl : j < L.length
        · have hjl2 : (j : Int) < (L.length : Int) := by omega
          obtain ⟨u, hu⟩ : ∃ u, L[j]? = some u := ⟨_, List.getElem?_eq_getElem hjl⟩
          obtain ⟨ga, rfl⟩ := HSA.out (by omega)
          have HU := Lib.hid hu
          have HUO := Lib.hid ((HLO.out u (List.mem_of_getElem? hu)).ok)
          have OBu := Lib.hid (show (u.cs.toArray.all (·.oneCell')) = true from HUO.out.oneB)
          clear hu
          go_upto_region 15 with (first | (refine wpList_load_mid rfl 32 _ rfl ga (j * 22) rfl u.cs _ (row_at Tx.len (ownsRow_keep HLR.out HB6.out) HU.out) Try.underlying32 rfl sizeTx ?_; (try simp only [Act.put, List.setIfInBounds_toArray, List.set_cons_zero, List.set_cons_succ])) | (refine wl_put (Lies.new _ _ _) u.cs _ _ rfl rfl rfl rfl rfl sizeTx OBu.out (fun wg hl hf => ?_); have hb : Below wf.heap.size wf wg := below_put ((Below.refl wf.heap.size wf).alloc (Nat.le_refl _) _) hf (Nat.le_refl _); have HB7 := Lib.hid (bt HB6.out hb); obtain ⟨Bu, hB⟩ : ∃ Bu, Bu = wf.heap.size := ⟨_, rfl⟩; rw [← hB] at hl ⊢; have HXBu := Lib.hid hl; clear hl hf hb hB; (try simp only [Act.put])))
          go_wp2_with fail
          go_loopw [65] (fun iv wr => ∃ i : Nat, i ≤ O.length ∧ iv = .int .i64 i ∧ Below wg.heap.size wg wr) (fun iv _ => O.length - (RowKit.intOf iv).toNat)
          case atStart => exact ⟨0, Nat.zero_le _, rfl, Below.refl _ _⟩
          case round =>
            obtain ⟨i, hi, rfl, hb⟩ := hrel
            have HB8 := Lib.hid hb
            clear hb
            obtain ⟨wh, hwh⟩ : ∃ wh, wh = wr := ⟨_, rfl⟩
            rw [← hwh] at HB8 ⊢
            clear hwh
            by_cases hil : i < O.length
            · have hil2 : (i : Int) < (O.length : Int) := by omega
              obtain ⟨x, hx⟩ : ∃ x, O[i]? = some x := ⟨_, List.getElem?_eq_getElem hil⟩
              obtain ⟨go, rfl⟩ := HSO.out (by omega)
              have HX := Lib.hid hx
              have HXM := Lib.hid (List.mem_of_getElem? hx)
              have OBx := Lib.hid (show (x.cs.toArray.all (·.oneCell')) = true from (HOO.out x HXM.out).oneB)
              clear hx
              go_upto_region 18 with (first | (refine wpList_load_mid rfl 32 _ rfl go (i * 22) rfl x.cs _ (row_at Tx.len (ownsRow_keep HOR.out (bt HB7.out HB8.out)) HX.out) Try.underlying32 rfl sizeTx ?_; (try simp only [Act.put, List.setIfInBounds_toArray, List.set_cons_zero, List.set_cons_succ])) | (refine wl_put (Lies.new _ _ _) x.cs _ _ rfl rfl rfl rfl rfl sizeTx OBx.out (fun wi hl hf => ?_); have hb : Below wh.heap.size wh wi := below_put ((Below.refl wh.heap.size wh).alloc (Nat.le_refl _) _) hf (Nat.le_refl _); have HB9 := Lib.hid (bt HB8.out hb); obtain ⟨Bx, hB⟩ : ∃ Bx, Bx = wh.heap.size := ⟨_, rfl⟩; rw [← hB] at hl ⊢; have HXBx := Lib.hid hl; clear hl hf hb hB; (try simp only [Act.put])))
              go_wp2_with (first | (refine wpList_load_mid rfl 32 _ rfl Bx 0 rfl x.cs _ (lies_range HXBx.out) Try.underlying32 rfl sizeTx ?_; (try simp only [Act.put, List.setIfInBounds_toArray, List.set_cons_zero, List.set_cons_succ])) | (refine wpList_load_mid rfl 32 _ rfl Bu 0 rfl u.cs _ (lies_range (HXBu.out.below HB9.out HXBu.out.lt)) Try.underlying32 rfl sizeTx ?_; (try simp only [Act.put, List.setIfInBounds_toArray, List.set_cons_zero, List.set_cons_succ])))
              have hbt := better_any (W := wi) (x := u) (y := x) (HUO.out.later (bt HB7.out HB9.out)) ((HOO.out x HXM.out).later (bt HB7.out HB9.out)) (HKP.out.lm u (List.mem_of_getElem? HU.out)) (HKP.out.om x HXM.out)
              rw [decide_eq_true (HKP.out.outs x HXM.out u (List.mem_of_getElem? HU.out))] at hbt
              refine hbt.mono ?_
              clear hbt
              rintro en wj ⟨rfl, hb⟩
              have HB10 := Lib.hid (bt HB9.out hb)
              clear hb
              go_wp2_with fail
              go_roundw
              case rel => exact ⟨i + 1, hil, by go_num, HB10.out⟩
              case measure => simp [RowKit.intOf]; omega
            · have hil2 : ¬ (i : Int) < (O.length : Int) := by omega
              rcases HKP.out.err with he | he
              · have he2 : ((er : Int) == 7) = false := by rw [he]; rfl
                clear he
                go_wp2_with fail
                go_roundw
                case rel => exact ⟨j + 1, hjl, by go_num, bt HB7.out HB8.out⟩
                case measure => simp [RowKit.intOf]; omega
              · have he2 : ((er : Int) == 7) = true := by rw [he]; rfl
                have HE7 := Lib.hid he
                clear he
                go_wp2_with (first | (refine wl_loadw (lies_range (HXBu.out.below HB8.out HXBu.out.lt)) _ rfl rfl (by exact rfl) Try.underlying32 rfl sizeTx ?_; (try simp only [Act.put, List.setIfInBounds_toArray, List.set_cons_zero, List.set_cons_succ])) | (refine wl_loadw (lies_range (HTE.out.below (bt HB7.out HB8.out) HTE.out.lt)) _ rfl rfl (by exact rfl) Try.underlying32 rfl sizeTx ?_; (try simp only [Act.put, List.setIfInBounds_toArray, List.set_cons_zero, List.set_cons_succ])))
                have hbt := better_any (W := wh) (x := u) (y := t) (HUO.out.later (bt HB7.out HB8.out)) (HTO.out wh) (HKP.out.lm u (List.mem_of_getElem? HU.out)) (by rw [HTT.out]; rfl)
                rw [decide_eq_true (HKP.out.full HE7.out u (List.mem_of_getElem? HU.out))] at hbt
                refine hbt.mono ?_
                clear hbt
                rintro en wj ⟨rfl, hb⟩
                have HB9 := Lib.hid (bt HB8.out hb)
                clear hb
                go_wp2_with fail
                go_roundw
                case rel => exact ⟨j + 1, hjl, by go_num, bt HB7.out HB9.out⟩
                case measure => simp [RowKit.intOf]; omega
        · have hjl2 : ¬ (j : Int) < (L.length : Int) := by omega
          have HPF := Lib.hid (HPE.out.later HB6.out)
          have hO2 : ¬ (1 : Int) < (O.length : Int) := by omega
          have hmin : (L2.length : Int) = min ((k : Int) + 1) (M : Int) := by have h := HLN.out; omega
          have HLEN := Lib.hid (len_any HPF.out.pool)
          rcases HKP.out.err with he | he
          · have he2 : ((er : Int) != 0) = false := by rw [he]; rfl
            clear he
            go_wp2_with fail
            refine HLEN.out.mono ?_
            rintro en wg ⟨rfl, hb⟩
            have HPG := Lib.hid (HPF.out.later hb)
            clear hb HPF HLEN
            go_wp2_with fail
            go_roundw
            case rel => exact ⟨k + 1, v', L2, hlt, by go_num, HPG.out, HC2.out, HLN.out⟩
            case measure => simp [RowKit.intOf]; omega
          · have he2 : ((er : Int) != 0) = true := by rw [he]; rfl
            have he3 : ((er : Int) != 7) = false := by rw [he]; rfl
            clear he
            go_wp2_with fail
            refine HLEN.out.mono ?_
            rintro en wg ⟨rfl, hb⟩
            have HPG := Lib.hid (HPF.out.later hb)
            clear hb HPF HLEN
            go_wp2_with fail
            go_roundw
            case rel => exact ⟨k + 1, v', L2, hlt, by go_num, HPG.out, HC2.out, HLN.out⟩
            case measure => simp [RowKit.intOf]; omega
    · have hlt2 : ¬ (k : Int) < (prices.length : Int) := by omega
      go_wp2_with fail
      go_ret
      exact ⟨rfl, bt HB1.out HPS.out.below⟩
end Go.Proofs.Ytkdckcjnjljdmaa.Po
