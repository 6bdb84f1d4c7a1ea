/- The statement ValidThereUpto: for every input of bulk at most 1048576 the call returns true (in a valid module all that is spoken of is there; each code is well typed, its height is told) and each argument reads behind it as it did: the row. Conditions: the bulk's bound alone. -/
import Derived.Test.YtmgjcaikldeioaaGreatNj
import Derived.Test.YtmgjcaikldeioaaGreatNa
import Derived.Test.YtmgjcaikldeioaaGreatRw
import Derived.Test.YtmgjcaikldeioaaGreatRwW
namespace Go.Proofs.YtmgjcaikldeioaaGreat.Va
open Go Go.RowKit Go.Lib Kt Fm Gr Ty

set_option maxRecDepth 100000 in
set_option maxHeartbeats 16000000 in
theorem th1_any {w U : World} {S0 sb : Nat} {m : Mod} (hsp : SpX w S0 m) (hm : ModOk U m) (hsb : Lies w sb 40 #[.pointer (some ⟨S0, 0, none⟩)]) (k : UInt8) {i : Nat} (hi : i < 4294967296) :
    Calls Tryz.prog 12 #[.int .u8 k.toNat, .int .u32 i, .pointer (some ⟨sb, 0, none⟩)] w fun en w' => en = .returned (.bool (thereB m k i)) ∧ Below w.heap.size w w' := by
  have HSP := Lib.hid hsp
  have c0 : w.cell? ⟨sb, 0, none⟩ = some (.pointer (some ⟨S0, 0, none⟩)) := hsb.cell 0
  have HC := Lib.hid (cntK_le hm k)
  clear hsp hm hsb
  go_enter Tryz.func12, Tryz.ntmps12
  go_wp2_with fail
  refine (countX HSP.out k).mono ?_
  rintro en w1 ⟨rfl, hb1⟩
  have HB := Lib.hid hb1
  have hc := HC.out
  have HN := Lib.hid (show thereB m k i = decide (i < cntK m k) from rfl)
  clear hb1 c0
  generalize cntK m k = n at hc HN ⊢
  have w1 : IntKind.u64.wrap (i : Int) = (i : Int) := by show (i : Int) % 18446744073709551616 = i; omega
  have w2 : IntKind.u64.wrap (n : Int) = (n : Int) := by show (n : Int) % 18446744073709551616 = n; omega
  go_wp2_with fail
  go_ret
  exact ⟨by rw [HN.out]; rfl, HB.out⟩
/-- What the law has behind its first lines: the world, and all that lies in it. -/
structure Ba (W : World) (m : Mod) (Bm S0 sb : Nat) (v : Value) (H : List Nat) (x : World) : Prop where
  bel : Below W.heap.size W x
  sp : SpX x S0 m
  sb : Lies x sb 40 #[.pointer (some ⟨S0, 0, none⟩)]
  md : Lies x Bm 33 m.cs.toArray
  hv : Sl x 1 ic v H
section
variable {W : World} {m : Mod} {Bm S0 sb : Nat} {v : Value} {H : List Nat} {x w' : World}
theorem Ba.later (h : Ba W m Bm S0 sb v H x) (hb : Below x.heap.size x w') : Ba W m Bm S0 sb v H w' := ⟨bt h.bel hb, spx_later h.sp hb, h.sb.below hb h.sb.lt, h.md.below hb h.md.lt, h.hv.later hb⟩
end
set_option maxRecDepth 100000 in
set_option maxHeartbeats 16000000 in
theorem law_there {W : World} {m : Mod} (hm : ModOk W m) :
    Calls Tryz.prog 3 #[.agg m.cs.toArray] W fun e w' => e = .returned (.bool true) ∧ Below W.heap.size W w' := by
  have HM := Lib.hid hm
  obtain ⟨sc, cc, hcv, hcs⟩ := hm.2.2.2.2.2.2.2.2.2.1.1.form
  obtain ⟨se, ce, hev, hes⟩ := hm.2.2.2.2.2.2.2.2.1.1.form
  obtain ⟨sx, cx, hxv, hxs⟩ := hm.2.2.2.2.2.2.1.1.form
  have HCV := Lib.hid hcv
  have HEV := Lib.hid hev
  have HXV := Lib.hid hxv
  have HCS := Lib.hid hcs
  have HES := Lib.hid hes
  have HXS := Lib.hid hxs
  have hlc : m.codes.length ≤ 1048576 := hm.2.2.2.2.2.2.2.2.2.1.2.2
  have hle : m.elems.length ≤ 1048576 := hm.2.2.2.2.2.2.2.2.1.2.2
  have hlx : m.exps.length ≤ 1048576 := hm.2.2.2.2.2.2.1.2.2
  clear hm hcv hev hxv hcs hes hxs
  go_enter Tryz.func3, Tryz.ntmps3
  go_wp2_with (refine wl_box m.cs _ rfl rfl rfl (fun w1 hb1 hl1 => ?_); have HB1 := Lib.hid hb1; have HL1 := Lib.hid hl1; obtain ⟨Bm, hBm⟩ : ∃ Bm, Bm = W.heap.size := ⟨_, rfl⟩; rw [← hBm] at HL1 ⊢; clear hBm hb1 hl1; (try simp only [Act.put, List.setIfInBounds_toArray, List.set_cons_zero, List.set_cons_succ]))
  refine known_any.mono ?_
  rintro en w2 ⟨rfl, hb2⟩
  have HB2 := Lib.hid (bt HB1.out hb2)
  have HL2 := Lib.hid (HL1.out.below hb2 HL1.out.lt)
  clear hb2
  go_wp2_with (refine wpList_load_mid rfl 33 _ rfl Bm 0 rfl m.cs _ (lies_range HL2.out) Tryz.underlying33 rfl sizeMod ?_; (try simp only [Act.put, List.setIfInBounds_toArray, List.set_cons_zero, List.set_cons_succ]))
  refine (vcheck_any (HM.out.later HB2.out)).mono ?_
  rintro en w3 ⟨v, rfl, hv3, hb3⟩
  have HB3 := Lib.hid (bt HB2.out hb3)
  have HL3 := Lib.hid (HL2.out.below hb3 HL2.out.lt)
  obtain ⟨sh, ch, rfl, hsh⟩ := hv3.form
  have HV3 := Lib.hid hv3
  have HSH := Lib.hid hsh
  clear hb3 hv3 hsh
  go_wp2_with (refine wpList_load_mid rfl 33 _ rfl Bm 0 rfl m.cs _ (lies_range HL3.out) Tryz.underlying33 rfl sizeMod ?_; (try simp only [Act.put, List.setIfInBounds_toArray, List.set_cons_zero, List.set_cons_succ]))
  refine (great7_any (HM.out.later HB3.out)).mono ?_
  rintro en w4 ⟨⟨bg, rfl⟩, hb4⟩
  have HB4 := Lib.hid (bt HB3.out hb4)
  have HL4 := Lib.hid (HL3.out.below hb4 HL3.out.lt)
  have HV4 := Lib.hid (HV3.out.later hb4)
  clear hb4
  obtain ⟨ev, hev⟩ : ∃ ev, ev = (vchk m).2 := ⟨_, rfl⟩
  rw [← hev]
  have HEV2 := Lib.hid hev
  clear hev
  cases bg with
  | true =>
    go_wp2_with fail
    go_ret
    exact ⟨rfl, HB4.out⟩
  | false =>
  by_cases he : ev = 0
  · have HSO := Lib.hid (sound_of (HEV2.out.symm.trans he))
    subst he
    obtain ⟨H, hH⟩ : ∃ H, H = (vchk m).1 := ⟨_, rfl⟩
    rw [← hH] at HSO HV4 HSH ⊢
    rw [HSO.out.len] at HV4 ⊢
    clear hH
    go_wp2_with (refine wpList_load_mid rfl 33 _ rfl Bm 0 rfl m.cs _ (lies_range HL4.out) Tryz.underlying33 rfl sizeMod ?_; (try simp only [Act.put, List.setIfInBounds_toArray, List.set_cons_zero, List.set_cons_succ]))
    refine (sofX_any (HM.out.later HB4.out)).mono ?_
    rintro en w5 ⟨S0, rfl, hsp, _, hb5⟩
    have HB5 := Lib.hid (bt HB4.out hb5)
    obtain ⟨x, hx⟩ : ∃ x, x = w5.alloc (.cells #[.pointer (some ⟨S0, 0, none⟩)] 40) := ⟨_, rfl⟩
    have hbx : Below w5.heap.size w5 x := hx ▸ (Below.refl _ _).alloc (Nat.le_refl _) _
    obtain ⟨sb, hsb⟩ : ∃ sb, sb = w5.heap.size := ⟨_, rfl⟩
    have HA := Lib.hid (show Ba W m Bm S0 sb (.slice sh m.codes.length ch) H x from ⟨bt HB5.out hbx, spx_later hsp hbx, hsb ▸ hx ▸ Lies.new _ _ _, (HL4.out.below hb5 HL4.out.lt).below hbx (HL4.out.below hb5 HL4.out.lt).lt, (HV4.out.later hb5).later hbx⟩)
    have xM10 : (w5.alloc (.cells #[.pointer (some ⟨S0, 0, none⟩)] 40)).cell? ⟨Bm, 10, none⟩ = some (.slice sc m.codes.length cc) := hx ▸ (HA.out.md.cell 10).trans (congrArg some HCV.out)
    have xS : (w5.alloc (.cells #[.pointer (some ⟨S0, 0, none⟩)] 40)).cell? ⟨w5.heap.size, 0, none⟩ = some (.pointer (some ⟨S0, 0, none⟩)) := hsb ▸ hx ▸ HA.out.sb.cell 0
    clear hsp hb5 hbx HL1 HL2 HL3 HL4 HB1 HB2 HB3 HB4 HB5 HV3 HV4
    go_wp2_with fail
    rw [← hx, ← hsb]
    clear xM10 xS hx hsb
    refine (count1 HA.out.sp).mono ?_
    rintro en x2 ⟨rfl, hb6⟩
    have HA2 := Lib.hid (HA.out.later hb6)
    have h1 : ¬ (1 : Int) < ((bsOf m).length : Int) := by have := HSO.out.tab; omega
    have h1' : ((bsOf m).length : Int) ≤ 1 := by omega
    have xS : x2.cell? ⟨sb, 0, none⟩ = some (.pointer (some ⟨S0, 0, none⟩)) := HA2.out.sb.cell 0
    clear hb6
    go_wp2_with fail
    refine (count2 HA2.out.sp).mono ?_
    rintro en x3 ⟨rfl, hb7⟩
    have HA3 := Lib.hid (HA2.out.later hb7)
    have h2 : ¬ (1 : Int) < ((msOf m).length : Int) := by have := HSO.out.mem; omega
    have h2' : ((msOf m).length : Int) ≤ 1 := by omega
    have xM10 : x3.cell? ⟨Bm, 10, none⟩ = some (.slice sc m.codes.length cc) := (HA3.out.md.cell 10).trans (congrArg some HCV.out)
    clear hb7 xS
    go_wp2_with fail
    clear xM10 h1 h1' h2 h2' HA HA2
    go_loopw [58] (fun iv wr => ∃ i : Nat, i ≤ m.codes.length ∧ iv = .int .i64 i ∧ Below x3.heap.size x3 wr)
      (fun iv _ => m.codes.length - (Lib.intOf iv).toNat)
    case atStart => exact ⟨0, by omega, rfl, Below.refl _ _⟩
    case round =>
      obtain ⟨i, hi, rfl, hbr⟩ := hrel
      have HBR := Lib.hid hbr
      clear hbr
      by_cases hlt : i < m.codes.length
      · obtain ⟨c, hc⟩ : ∃ c, m.codes[i]? = some c := ⟨_, List.getElem?_eq_getElem hlt⟩
        obtain ⟨his, ⟨h, hck, hHi⟩, hfi⟩ := HSO.out.cod i c hc
        have HOK := Lib.hid (HM.out.2.2.2.2.2.2.2.2.2.1.2.1 c (List.mem_of_getElem? hc))
        obtain ⟨g, off, rfl, _⟩ := HCS.out (by intro e; rw [e] at hlt; simp at hlt)
        obtain ⟨gh, oh, rfl, _⟩ := HSH.out (by intro e; rw [e] at hHi; simp at hHi)
        have HRA := Lib.hid (show wr.rangeAt g (off + i * 2) c.cs from by
          have h1 := HM.out.2.2.2.2.2.2.2.2.2.1.1.later (HA3.out.later HBR.out).bel
          rw [HCV.out] at h1
          exact Gr.sl_range h1 hc)
        have HHI := Lib.hid hHi
        have HIS := Lib.hid his
        have HCK := Lib.hid hck
        have HFI := Lib.hid hfi
        have hlt2 : (i : Int) < (m.codes.length : Int) := by omega
        have hii : (fk m 0).length + i < 4294967296 := by have := fk_le m 0; have h2 : m.imps.length ≤ 1048576 := HM.out.2.1.2.2; omega
        obtain ⟨sbd, cbd, hbd, hbs⟩ := HOK.out.2.1.form
        have HBD := Lib.hid hbd
        have HBS := Lib.hid hbs
        have hlb : c.body.length ≤ 1048576 := HOK.out.2.2.2
        clear hc his hck hHi hfi hbd hbs
        go_upto_region 13 with (first | (refine wpList_load_mid rfl 48 _ rfl g (off + i * 2) rfl c.cs _ HRA.out Tryz.underlying48 rfl sizeCod ?_; (try simp only [Act.put, List.setIfInBounds_toArray, List.set_cons_zero, List.set_cons_succ])) | (refine wl_put (Lies.new _ _ _) c.cs _ _ rfl rfl rfl rfl rfl sizeCod (oneCod HOK.out) (fun y1 hly1 hfy1 => ?_); have hby1 : Below wr.heap.size wr y1 := below_put ((Below.refl wr.heap.size wr).alloc (Nat.le_refl _) _) hfy1 (Nat.le_refl _); have HY1 := Lib.hid (bt HBR.out hby1); have HCX := Lib.hid hly1; obtain ⟨Bx, hBy1⟩ : ∃ Bx, Bx = wr.heap.size := ⟨_, rfl⟩; rw [← hBy1] at HCX ⊢; clear hBy1 hly1 hfy1 hby1 ; try simp only [Act.put]))
        go_cut [9, 10] from 63 to 72 (fun u9 u10 wx => ∃ y Bn, u9 = .pointer (some ⟨Bn, 0, none⟩) ∧ u10 = .bool true ∧ Lies wx Bn 51 y.cs.toArray ∧ FtOk wx y ∧ FnTold m ((fk m 0).length + i) y ∧ Below y1.heap.size y1 wx)
        case first =>
          have hd := below_drew y1
          have HR0 := Lib.hid (bt HY1.out hd)
          have HQ0 := Lib.hid hd
          have HT0 := Lib.hid (HA3.out.later HR0.out)
          refine RP.region (RP.take 0 (RP.take 1 (RP.take 3 (RP.fork 2 10 (RP.take 4 (RP.take 5 (RP.fork 6 10 (RP.take 7 (RP.take 8 (RP.take 9 (RP.run 10 (RP.run 11 (RP.take 12 RP.done)))))) (RP.run 6 (RP.take 7 (RP.take 8 (RP.take 9 (RP.run 11 (RP.take 12 RP.done))))))))) (RP.run 2 (RP.take 4 (RP.take 5 (RP.run 6 (RP.take 7 (RP.take 8 (RP.take 9 (RP.run 11 (RP.take 12 RP.done))))))))))))) (fun w' => w'.cell? ⟨sb, 0, none⟩ = some (.pointer (some ⟨S0, 0, none⟩))) (by kernel_rfl) (by kernel_rfl) (fun _ _ d _ _ h => by cases d <;> exact h) (HT0.out.sb.cell 0) (fun _ => ?_)
          clear hd
          generalize y1.drew = r0 at HR0 HQ0 HT0 ⊢
          repeat (first | (refine RP.t_take (v := ?_) rfl rfl (fun w' hw' => ?_) ?_; rotate_left; (focus (have q0 := hw'; (try simp only [Act.put, List.setIfInBounds_toArray, List.set_cons_zero, List.set_cons_succ]); go_simp; (try go_bits); (try (with_reducible rfl)))); (try simp only [Act.put, List.setIfInBounds_toArray, List.set_cons_zero, List.set_cons_succ])) | (refine RP.t_skip rfl rfl ?_; (try simp only [Act.put, List.setIfInBounds_toArray, List.set_cons_zero, List.set_cons_succ])))
          refine RP.t_fork rfl rfl (fun K hK => ?_) (fun K hK => ?_)
          · go_simp
            refine (imported0 HT0.out.sp).mono ?_
            rintro en r1 ⟨rfl, hb⟩
            have HR1 := Lib.hid (bt HR0.out hb)
            have HQ1 := Lib.hid (bt HQ0.out hb)
            have HT1 := Lib.hid (HT0.out.later hb)
            clear hb
            refine hK.out _ _ (HT1.out.sb.cell 0) ?_
            clear hK K
            (try simp only [Act.put, List.setIfInBounds_toArray, List.set_cons_zero, List.set_cons_succ])
            repeat (first | (refine RP.t_take (v := ?_) rfl rfl (fun w' hw' => ?_) ?_; rotate_left; (focus (have q0 := hw'; (try simp only [Act.put, List.setIfInBounds_toArray, List.set_cons_zero, List.set_cons_succ]); go_simp; (try go_bits); (try (with_reducible rfl)))); (try simp only [Act.put, List.setIfInBounds_toArray, List.set_cons_zero, List.set_cons_succ])) | (refine RP.t_skip rfl rfl ?_; (try simp only [Act.put, List.setIfInBounds_toArray, List.set_cons_zero, List.set_cons_succ])))
            refine RP.t_fork rfl rfl (fun K hK => ?_) (fun K hK => ?_)
            · go_simp
              refine (func_anyI (i := (fk m 0).length + i) HM.out HT1.out.sp.sp hii (by omega)).mono ?_
              rintro en r2 ⟨y, rfl, ho, ht, hb⟩
              rw [HIS.out]
              have HO := Lib.hid ho
              have HFT := Lib.hid ht
              have HLN := Lib.hid (fntold_len HM.out ht)
              have HR2 := Lib.hid (bt HR1.out hb)
              have HQ2 := Lib.hid (bt HQ1.out hb)
              have HT2 := Lib.hid (HT1.out.later hb)
              clear ho ht hb
              refine hK.out _ _ (HT2.out.sb.cell 0) ?_
              clear hK K
              (try simp only [Act.put, List.setIfInBounds_toArray, List.set_cons_zero, List.set_cons_succ])
              repeat (first | (refine RP.t_take (v := ?_) rfl rfl (fun w' hw' => ?_) ?_; rotate_left; (focus (have q0 := hw'; (try simp only [Act.put, List.setIfInBounds_toArray, List.set_cons_zero, List.set_cons_succ]); go_simp; (try go_bits); (try (with_reducible rfl)))); (try simp only [Act.put, List.setIfInBounds_toArray, List.set_cons_zero, List.set_cons_succ])) | (refine RP.t_skip rfl rfl ?_; (try simp only [Act.put, List.setIfInBounds_toArray, List.set_cons_zero, List.set_cons_succ])))
              refine RP.t_run rfl (fun K hK => ?_)
              go_simp
              obtain ⟨r3, hwn⟩ : ∃ r3, r3 = r2.alloc (.cells #[.slice none 0 0, .slice none 0 0] 51) := ⟨_, rfl⟩
              have hb : Below r2.heap.size r2 r3 := hwn ▸ (Below.refl _ _).alloc (Nat.le_refl _) _
              have HN := Lib.hid (show Lies r3 r2.heap.size 51 #[.slice none 0 0, .slice none 0 0] from hwn ▸ Lies.new _ _ _)
              rw [← hwn]
              clear hwn
              obtain ⟨Bn, hBn⟩ : ∃ Bn, Bn = r2.heap.size := ⟨_, rfl⟩
              rw [← hBn] at HN ⊢
              have hBw : y1.heap.size ≤ Bn := by rw [hBn]; exact HQ2.out.size
              clear hBn
              have HR3 := Lib.hid (bt HR2.out hb)
              have HQ3 := Lib.hid (bt HQ2.out hb)
              have HT3 := Lib.hid (HT2.out.later hb)
              replace HO := Lib.hid (HO.out.later hb)
              clear hb
              refine hK.out _ _ (HT3.out.sb.cell 0) ?_
              clear hK K
              (try simp only [Act.put, List.setIfInBounds_toArray, List.set_cons_zero, List.set_cons_succ])
              refine RP.t_run rfl (fun K hK => ?_)
              refine ite_of rfl ?_
              refine wp_put HN.out y.cs _ _ rfl rfl rfl rfl sizeFt (oneFt (HO.out.ok HLN.out.1 HLN.out.2)) (fun r4 hlc hfc => ?_)
              have hq : Below y1.heap.size y1 r4 := HQ3.out.trans (hfc.below HQ3.out.size (fun k hk => by rw [hk]; exact hBw))
              have HTz := Lib.hid (HA3.out.later (bt HY1.out hq))
              have HO := Lib.hid (HO.out.frT (FrT.field HN.out hfc) (by decide))
              refine hK.out _ _ (HTz.out.sb.cell 0) ?_
              clear hK K
              (try simp only [Act.put])
              repeat (first | (refine RP.t_take (v := ?_) rfl rfl (fun w' hw' => ?_) ?_; rotate_left; (focus (have q0 := hw'; (try simp only [Act.put, List.setIfInBounds_toArray, List.set_cons_zero, List.set_cons_succ]); go_simp; (try go_bits); (try (with_reducible rfl)))); (try simp only [Act.put, List.setIfInBounds_toArray, List.set_cons_zero, List.set_cons_succ])) | (refine RP.t_skip rfl rfl ?_; (try simp only [Act.put, List.setIfInBounds_toArray, List.set_cons_zero, List.set_cons_succ])))
              refine RP.t_done ?_
              go_wp2_with fail
              go_meet
              exact ⟨y, Bn, rfl, rfl, hlc, HO.out.ok HLN.out.1 HLN.out.2, HFT.out, hq⟩
            · go_simp
              obtain ⟨r2, hwn⟩ : ∃ r2, r2 = r1.alloc (.cells #[.slice none 0 0, .slice none 0 0] 51) := ⟨_, rfl⟩
              have hb : Below r1.heap.size r1 r2 := hwn ▸ (Below.refl _ _).alloc (Nat.le_refl _) _
              have HN := Lib.hid (show Lies r2 r1.heap.size 51 #[.slice none 0 0, .slice none 0 0] from hwn ▸ Lies.new _ _ _)
              rw [← hwn]
              clear hwn
              obtain ⟨Bn, hBn⟩ : ∃ Bn, Bn = r1.heap.size := ⟨_, rfl⟩
              rw [← hBn] at HN ⊢
              have hBw : y1.heap.size ≤ Bn := by rw [hBn]; exact HQ1.out.size
              clear hBn
              have HR2 := Lib.hid (bt HR1.out hb)
              have HQ2 := Lib.hid (bt HQ1.out hb)
              have HT2 := Lib.hid (HT1.out.later hb)
              clear hb
              refine hK.out _ _ (HT2.out.sb.cell 0) ?_
              clear hK K
              (try simp only [Act.put, List.setIfInBounds_toArray, List.set_cons_zero, List.set_cons_succ])
              refine RP.t_run rfl (fun K hK => ?_)
              go_simp
              refine (func_anyI (i := (fk m 0).length + i) HM.out HT2.out.sp.sp hii (by omega)).mono ?_
              rintro en r3 ⟨y, rfl, ho, ht, hb⟩
              rw [HIS.out]
              have HO := Lib.hid ho
              have HFT := Lib.hid ht
              have HLN := Lib.hid (fntold_len HM.out ht)
              have HR3 := Lib.hid (bt HR2.out hb)
              have HQ3 := Lib.hid (bt HQ2.out hb)
              have HT3 := Lib.hid (HT2.out.later hb)
              replace HN := Lib.hid (HN.out.below hb HN.out.lt)
              clear ho ht hb
              refine hK.out _ _ (HT3.out.sb.cell 0) ?_
              clear hK K
              (try simp only [Act.put, List.setIfInBounds_toArray, List.set_cons_zero, List.set_cons_succ])
              repeat (first | (refine RP.t_take (v := ?_) rfl rfl (fun w' hw' => ?_) ?_; rotate_left; (focus (have q0 := hw'; (try simp only [Act.put, List.setIfInBounds_toArray, List.set_cons_zero, List.set_cons_succ]); go_simp; (try go_bits); (try (with_reducible rfl)))); (try simp only [Act.put, List.setIfInBounds_toArray, List.set_cons_zero, List.set_cons_succ])) | (refine RP.t_skip rfl rfl ?_; (try simp only [Act.put, List.setIfInBounds_toArray, List.set_cons_zero, List.set_cons_succ])))
              refine RP.t_run rfl (fun K hK => ?_)
              refine ite_of rfl ?_
              refine wp_put HN.out y.cs _ _ rfl rfl rfl rfl sizeFt (oneFt (HO.out.ok HLN.out.1 HLN.out.2)) (fun r4 hlc hfc => ?_)
              have hq : Below y1.heap.size y1 r4 := HQ3.out.trans (hfc.below HQ3.out.size (fun k hk => by rw [hk]; exact hBw))
              have HTz := Lib.hid (HA3.out.later (bt HY1.out hq))
              have HO := Lib.hid (HO.out.frT (FrT.field HN.out hfc) (by decide))
              refine hK.out _ _ (HTz.out.sb.cell 0) ?_
              clear hK K
              (try simp only [Act.put])
              repeat (first | (refine RP.t_take (v := ?_) rfl rfl (fun w' hw' => ?_) ?_; rotate_left; (focus (have q0 := hw'; (try simp only [Act.put, List.setIfInBounds_toArray, List.set_cons_zero, List.set_cons_succ]); go_simp; (try go_bits); (try (with_reducible rfl)))); (try simp only [Act.put, List.setIfInBounds_toArray, List.set_cons_zero, List.set_cons_succ])) | (refine RP.t_skip rfl rfl ?_; (try simp only [Act.put, List.setIfInBounds_toArray, List.set_cons_zero, List.set_cons_succ])))
              refine RP.t_done ?_
              go_wp2_with fail
              go_meet
              exact ⟨y, Bn, rfl, rfl, hlc, HO.out.ok HLN.out.1 HLN.out.2, HFT.out, hq⟩
          · go_simp
            obtain ⟨r1, hwn⟩ : ∃ r1, r1 = r0.alloc (.cells #[.slice none 0 0, .slice none 0 0] 51) := ⟨_, rfl⟩
            have hb : Below r0.heap.size r0 r1 := hwn ▸ (Below.refl _ _).alloc (Nat.le_refl _) _
            have HN := Lib.hid (show Lies r1 r0.heap.size 51 #[.slice none 0 0, .slice none 0 0] from hwn ▸ Lies.new _ _ _)
            rw [← hwn]
            clear hwn
            obtain ⟨Bn, hBn⟩ : ∃ Bn, Bn = r0.heap.size := ⟨_, rfl⟩
            rw [← hBn] at HN ⊢
            have hBw : y1.heap.size ≤ Bn := by rw [hBn]; exact HQ0.out.size
            clear hBn
            have HR1 := Lib.hid (bt HR0.out hb)
            have HQ1 := Lib.hid (bt HQ0.out hb)
            have HT1 := Lib.hid (HT0.out.later hb)
            clear hb
            refine hK.out _ _ (HT1.out.sb.cell 0) ?_
            clear hK K
            (try simp only [Act.put, List.setIfInBounds_toArray, List.set_cons_zero, List.set_cons_succ])
            refine RP.t_run rfl (fun K hK => ?_)
            go_simp
            refine (imported0 HT1.out.sp).mono ?_
            rintro en r2 ⟨rfl, hb⟩
            have HR2 := Lib.hid (bt HR1.out hb)
            have HQ2 := Lib.hid (bt HQ1.out hb)
            have HT2 := Lib.hid (HT1.out.later hb)
            replace HN := Lib.hid (HN.out.below hb HN.out.lt)
            clear hb
            refine hK.out _ _ (HT2.out.sb.cell 0) ?_
            clear hK K
            (try simp only [Act.put, List.setIfInBounds_toArray, List.set_cons_zero, List.set_cons_succ])
            repeat (first | (refine RP.t_take (v := ?_) rfl rfl (fun w' hw' => ?_) ?_; rotate_left; (focus (have q0 := hw'; (try simp only [Act.put, List.setIfInBounds_toArray, List.set_cons_zero, List.set_cons_succ]); go_simp; (try go_bits); (try (with_reducible rfl)))); (try simp only [Act.put, List.setIfInBounds_toArray, List.set_cons_zero, List.set_cons_succ])) | (refine RP.t_skip rfl rfl ?_; (try simp only [Act.put, List.setIfInBounds_toArray, List.set_cons_zero, List.set_cons_succ])))
            refine RP.t_run rfl (fun K hK => ?_)
            go_simp
            refine (func_anyI (i := (fk m 0).length + i) HM.out HT2.out.sp.sp hii (by omega)).mono ?_
            rintro en r3 ⟨y, rfl, ho, ht, hb⟩
            rw [HIS.out]
            have HO := Lib.hid ho
            have HFT := Lib.hid ht
            have HLN := Lib.hid (fntold_len HM.out ht)
            have HR3 := Lib.hid (bt HR2.out hb)
            have HQ3 := Lib.hid (bt HQ2.out hb)
            have HT3 := Lib.hid (HT2.out.later hb)
            replace HN := Lib.hid (HN.out.below hb HN.out.lt)
            clear ho ht hb
            refine hK.out _ _ (HT3.out.sb.cell 0) ?_
            clear hK K
            (try simp only [Act.put, List.setIfInBounds_toArray, List.set_cons_zero, List.set_cons_succ])
            repeat (first | (refine RP.t_take (v := ?_) rfl rfl (fun w' hw' => ?_) ?_; rotate_left; (focus (have q0 := hw'; (try simp only [Act.put, List.setIfInBounds_toArray, List.set_cons_zero, List.set_cons_succ]); go_simp; (try go_bits); (try (with_reducible rfl)))); (try simp only [Act.put, List.setIfInBounds_toArray, List.set_cons_zero, List.set_cons_succ])) | (refine RP.t_skip rfl rfl ?_; (try simp only [Act.put, List.setIfInBounds_toArray, List.set_cons_zero, List.set_cons_succ])))
            refine RP.t_run rfl (fun K hK => ?_)
            refine ite_of rfl ?_
            refine wp_put HN.out y.cs _ _ rfl rfl rfl rfl sizeFt (oneFt (HO.out.ok HLN.out.1 HLN.out.2)) (fun r4 hlc hfc => ?_)
            have hq : Below y1.heap.size y1 r4 := HQ3.out.trans (hfc.below HQ3.out.size (fun k hk => by rw [hk]; exact hBw))
            have HTz := Lib.hid (HA3.out.later (bt HY1.out hq))
            have HO := Lib.hid (HO.out.frT (FrT.field HN.out hfc) (by decide))
            refine hK.out _ _ (HTz.out.sb.cell 0) ?_
            clear hK K
            (try simp only [Act.put])
            repeat (first | (refine RP.t_take (v := ?_) rfl rfl (fun w' hw' => ?_) ?_; rotate_left; (focus (have q0 := hw'; (try simp only [Act.put, List.setIfInBounds_toArray, List.set_cons_zero, List.set_cons_succ]); go_simp; (try go_bits); (try (with_reducible rfl)))); (try simp only [Act.put, List.setIfInBounds_toArray, List.set_cons_zero, List.set_cons_succ])) | (refine RP.t_skip rfl rfl ?_; (try simp only [Act.put, List.setIfInBounds_toArray, List.set_cons_zero, List.set_cons_succ])))
            refine RP.t_done ?_
            go_wp2_with fail
            go_meet
            exact ⟨y, Bn, rfl, rfl, hlc, HO.out.ok HLN.out.1 HLN.out.2, HFT.out, hq⟩
        case rest =>
          obtain ⟨y, Bn, rfl, rfl, hn, hy, hft, hbz⟩ := hcut
          have HN := Lib.hid hn
          have HY := Lib.hid hy
          have HZ := Lib.hid (bt HY1.out hbz)
          have HCX2 := Lib.hid (HCX.out.below hbz HCX.out.lt)
          have HAZ := Lib.hid (HA3.out.later (bt HY1.out hbz))
          have hcd : chk ⟨spcOf m (gsOf m) (bsOf m) (msOf m), y, c⟩ = (h, 0) := by rw [← HCK.out, codC]; exact chk_fn (fnA_told hft).1 (fnA_told hft).2
          have HCD := Lib.hid hcd
          have HFT := Lib.hid hft
          clear hn hy hft hbz hcd HRA
          have xS : wc.cell? ⟨sb, 0, none⟩ = some (.pointer (some ⟨S0, 0, none⟩)) := HAZ.out.sb.cell 0
          go_wp2_with (first | (refine wpList_load_mid rfl 51 _ rfl Bn 0 rfl y.cs _ (lies_range HN.out) Tryz.underlying51 rfl sizeFt ?_; (try simp only [Act.put, List.setIfInBounds_toArray, List.set_cons_zero, List.set_cons_succ])) | (refine wpList_load_mid rfl 48 _ rfl Bx 0 rfl c.cs _ (lies_range HCX2.out) Tryz.underlying48 rfl sizeCod ?_; (try simp only [Act.put, List.setIfInBounds_toArray, List.set_cons_zero, List.set_cons_succ])))
          refine (check_anyK (K := 1) (fn := y) (c := c) (m := m) (GS := gsOf m) (BS := bsOf m) (MS := msOf m) ⟨Nat.le_refl _, by decide⟩ HAZ.out.sp (HM.out.later HAZ.out.bel) HY.out (HOK.out.later HAZ.out.bel) (by omega) (cxB_one HSO.out.res HFT.out)).mono ?_
          rw [HCD.out]
          rintro en z ⟨rfl, hbz⟩
          have HZ2 := Lib.hid (bt HZ.out hbz)
          have HCX3 := Lib.hid (HCX2.out.below hbz HCX2.out.lt)
          have HA4 := Lib.hid (HA3.out.later HZ2.out)
          have hvc : z.cell? ⟨gh, oh + i, none⟩ = some (.int .i64 h) := by
            have := (Gr.sl_range HA4.out.hv HHI.out) 0 _ rfl
            simpa using this
          have xB1 : z.cell? ⟨Bx, 1, none⟩ = some (.slice sbd c.body.length cbd) := (HCX3.out.cell 1).trans (congrArg some HBD.out)
          have hhh : ((h : Int) != (h : Int)) = false := by simp
          clear hbz xS
          go_wp2_with fail
          clear hvc xB1 hhh
          go_loopw [97] (fun jv wr => ∃ j : Nat, j ≤ c.body.length ∧ jv = .int .i64 j ∧ Below x3.heap.size x3 wr)
            (fun jv _ => c.body.length - (Lib.intOf jv).toNat)
          case atStart => exact ⟨0, by omega, rfl, HZ2.out⟩
          case round =>
            obtain ⟨j, hj, rfl, hbt⟩ := hrel
            have HBT := Lib.hid hbt
            clear hbt
            by_cases hjl : j < c.body.length
            · obtain ⟨x, hx⟩ : ∃ x, c.body[j]? = some x := ⟨_, List.getElem?_eq_getElem hjl⟩
              have HF := Lib.hid (HFI.out x (List.mem_of_getElem? hx))
              have HOX := Lib.hid (HOK.out.2.2.1 x (List.mem_of_getElem? hx))
              have HON := Lib.hid (oneIns HOX.out)
              have hxa : x.a < 4294967296 := HOX.out.1
              obtain ⟨gb, ob, rfl, _⟩ := HBS.out (by intro e; rw [e] at hjl; simp at hjl)
              have HRB := Lib.hid (show wr.rangeAt gb (ob + j * 5) x.cs from by
                have h1 := HOK.out.2.1.later (HA3.out.later HBT.out).bel
                rw [HBD.out] at h1
                exact Gr.sl_range h1 hx)
              have hjl2 : (j : Int) < (c.body.length : Int) := by omega
              obtain ⟨o, ho⟩ : ∃ o : Int, o = x.op.toNat := ⟨_, rfl⟩
              have HOP := Lib.hid ho
              clear hx ho
              by_cases h16 : o = 16
              · subst h16
                have HK := Lib.hid (show x.op = 16 from UInt8.toNat_inj.1 (by have := HOP.out; show x.op.toNat = 16; omega))
                go_wp2_with (first | (refine wpList_load_mid rfl 57 _ rfl gb (ob + j * 5) rfl x.cs _ HRB.out Tryz.underlying57 rfl sizeIns ?_; (try simp only [Act.put, List.setIfInBounds_toArray, List.set_cons_zero, List.set_cons_succ])) | (refine wl_put (Lies.new _ _ _) x.cs _ _ rfl rfl rfl rfl rfl sizeIns HON.out (fun s1 hls1 hfs1 => ?_); have hbs1 : Below wr.heap.size wr s1 := below_put ((Below.refl wr.heap.size wr).alloc (Nat.le_refl _) _) hfs1 (Nat.le_refl _); have HS1 := Lib.hid (bt HBT.out hbs1); have HI1 := Lib.hid hls1; obtain ⟨Bi, hBs1⟩ : ∃ Bi, Bi = wr.heap.size := ⟨_, rfl⟩; rw [← hBs1] at HI1 ⊢; have xI0 : s1.cell? ⟨Bi, 0, none⟩ = some (.int .u8 16) := (HI1.out.cell 0).trans (congrArg (fun z => some (Value.int .u8 z)) HOP.out.symm); have xI1 : s1.cell? ⟨Bi, 1, none⟩ = some (.int .u32 x.a) := HI1.out.cell 1; clear hBs1 hls1 hfs1 hbs1 ; try simp only [Act.put]))
                clear xI0 xI1
                refine (th1_any (HA3.out.later HS1.out).sp HM.out (HA3.out.later HS1.out).sb 0 hxa).mono ?_
                rintro en t1 ⟨rfl, hb⟩
                have HX1 := Lib.hid (bt HS1.out hb)
                clear hb
                rw [show thereB m 0 x.a = true from HF.out.call HK.out]
                go_wp2_with fail
                exact ⟨⟨j + 1, by omega, by go_num, HX1.out⟩, by simp [Lib.intOf]; omega⟩
              by_cases h17 : o = 17
              · subst h17
                have HK := Lib.hid (show x.op = 17 from UInt8.toNat_inj.1 (by have := HOP.out; show x.op.toNat = 17; omega))
                go_wp2_with (first | (refine wpList_load_mid rfl 57 _ rfl gb (ob + j * 5) rfl x.cs _ HRB.out Tryz.underlying57 rfl sizeIns ?_; (try simp only [Act.put, List.setIfInBounds_toArray, List.set_cons_zero, List.set_cons_succ])) | (refine wl_put (Lies.new _ _ _) x.cs _ _ rfl rfl rfl rfl rfl sizeIns HON.out (fun s1 hls1 hfs1 => ?_); have hbs1 : Below wr.heap.size wr s1 := below_put ((Below.refl wr.heap.size wr).alloc (Nat.le_refl _) _) hfs1 (Nat.le_refl _); have HS1 := Lib.hid (bt HBT.out hbs1); have HI1 := Lib.hid hls1; obtain ⟨Bi, hBs1⟩ : ∃ Bi, Bi = wr.heap.size := ⟨_, rfl⟩; rw [← hBs1] at HI1 ⊢; have xI0 : s1.cell? ⟨Bi, 0, none⟩ = some (.int .u8 17) := (HI1.out.cell 0).trans (congrArg (fun z => some (Value.int .u8 z)) HOP.out.symm); have xI1 : s1.cell? ⟨Bi, 1, none⟩ = some (.int .u32 x.a) := HI1.out.cell 1; have xS : s1.cell? ⟨sb, 0, none⟩ = some (.pointer (some ⟨S0, 0, none⟩)) := (HA3.out.later HS1.out).sb.cell 0; clear hBs1 hls1 hfs1 hbs1 ; try simp only [Act.put]))
                clear xI0 xI1 xS
                refine (type_any HM.out (HA3.out.later HS1.out).sp.sp hxa).mono ?_
                rintro en s2 ⟨yt, rfl, hyo, hyt, hb, _⟩
                have HS2 := Lib.hid (bt HS1.out hb)
                rw [(HF.out.ind HK.out).1]
                have HYO := Lib.hid hyo
                have HYL := Lib.hid (told_len HM.out hyt)
                clear hyo hyt hb
                go_wp2_with (refine wl_put (Lies.new _ _ _) yt.cs _ _ rfl rfl rfl rfl rfl sizeFt (oneFt (HYO.out.ok HYL.out.1 HYL.out.2)) (fun s3 hls3 hfs3 => ?_); have hbs3 : Below s2.heap.size s2 s3 := below_put ((Below.refl s2.heap.size s2).alloc (Nat.le_refl _) _) hfs3 (Nat.le_refl _); have HS3 := Lib.hid (bt HS2.out hbs3); have HT3 := Lib.hid hls3; obtain ⟨Bt, hBs3⟩ : ∃ Bt, Bt = s2.heap.size := ⟨_, rfl⟩; rw [← hBs3] at HT3 ⊢; clear hBs3 hls3 hfs3 hbs3 ; try simp only [Act.put])
                refine (th1_any (HA3.out.later HS3.out).sp HM.out (HA3.out.later HS3.out).sb 1 (by decide)).mono ?_
                rintro en t1 ⟨rfl, hb⟩
                have HX1 := Lib.hid (bt HS3.out hb)
                clear hb
                rw [show thereB m 1 0 = true from (HF.out.ind HK.out).2]
                go_wp2_with fail
                exact ⟨⟨j + 1, by omega, by go_num, HX1.out⟩, by simp [Lib.intOf]; omega⟩
              by_cases h35 : o = 35
              · subst h35
                have HK := Lib.hid (show x.op = 35 from UInt8.toNat_inj.1 (by have := HOP.out; show x.op.toNat = 35; omega))
                go_wp2_with (first | (refine wpList_load_mid rfl 57 _ rfl gb (ob + j * 5) rfl x.cs _ HRB.out Tryz.underlying57 rfl sizeIns ?_; (try simp only [Act.put, List.setIfInBounds_toArray, List.set_cons_zero, List.set_cons_succ])) | (refine wl_put (Lies.new _ _ _) x.cs _ _ rfl rfl rfl rfl rfl sizeIns HON.out (fun s1 hls1 hfs1 => ?_); have hbs1 : Below wr.heap.size wr s1 := below_put ((Below.refl wr.heap.size wr).alloc (Nat.le_refl _) _) hfs1 (Nat.le_refl _); have HS1 := Lib.hid (bt HBT.out hbs1); have HI1 := Lib.hid hls1; obtain ⟨Bi, hBs1⟩ : ∃ Bi, Bi = wr.heap.size := ⟨_, rfl⟩; rw [← hBs1] at HI1 ⊢; have xI0 : s1.cell? ⟨Bi, 0, none⟩ = some (.int .u8 35) := (HI1.out.cell 0).trans (congrArg (fun z => some (Value.int .u8 z)) HOP.out.symm); have xI1 : s1.cell? ⟨Bi, 1, none⟩ = some (.int .u32 x.a) := HI1.out.cell 1; clear hBs1 hls1 hfs1 hbs1 ; try simp only [Act.put]))
                clear xI0 xI1
                refine (th1_any (HA3.out.later HS1.out).sp HM.out (HA3.out.later HS1.out).sb 3 hxa).mono ?_
                rintro en t1 ⟨rfl, hb⟩
                have HX1 := Lib.hid (bt HS1.out hb)
                clear hb
                rw [show thereB m 3 x.a = true from HF.out.glob (.inl HK.out)]
                go_wp2_with fail
                exact ⟨⟨j + 1, by omega, by go_num, HX1.out⟩, by simp [Lib.intOf]; omega⟩
              by_cases h36 : o = 36
              · subst h36
                have HK := Lib.hid (show x.op = 36 from UInt8.toNat_inj.1 (by have := HOP.out; show x.op.toNat = 36; omega))
                go_wp2_with (first | (refine wpList_load_mid rfl 57 _ rfl gb (ob + j * 5) rfl x.cs _ HRB.out Tryz.underlying57 rfl sizeIns ?_; (try simp only [Act.put, List.setIfInBounds_toArray, List.set_cons_zero, List.set_cons_succ])) | (refine wl_put (Lies.new _ _ _) x.cs _ _ rfl rfl rfl rfl rfl sizeIns HON.out (fun s1 hls1 hfs1 => ?_); have hbs1 : Below wr.heap.size wr s1 := below_put ((Below.refl wr.heap.size wr).alloc (Nat.le_refl _) _) hfs1 (Nat.le_refl _); have HS1 := Lib.hid (bt HBT.out hbs1); have HI1 := Lib.hid hls1; obtain ⟨Bi, hBs1⟩ : ∃ Bi, Bi = wr.heap.size := ⟨_, rfl⟩; rw [← hBs1] at HI1 ⊢; have xI0 : s1.cell? ⟨Bi, 0, none⟩ = some (.int .u8 36) := (HI1.out.cell 0).trans (congrArg (fun z => some (Value.int .u8 z)) HOP.out.symm); have xI1 : s1.cell? ⟨Bi, 1, none⟩ = some (.int .u32 x.a) := HI1.out.cell 1; clear hBs1 hls1 hfs1 hbs1 ; try simp only [Act.put]))
                clear xI0 xI1
                refine (th1_any (HA3.out.later HS1.out).sp HM.out (HA3.out.later HS1.out).sb 3 hxa).mono ?_
                rintro en t1 ⟨rfl, hb⟩
                have HX1 := Lib.hid (bt HS1.out hb)
                clear hb
                rw [show thereB m 3 x.a = true from HF.out.glob (.inr HK.out)]
                go_wp2_with fail
                exact ⟨⟨j + 1, by omega, by go_num, HX1.out⟩, by simp [Lib.intOf]; omega⟩
              by_cases h64 : o = 64
              · subst h64
                have HK := Lib.hid (show x.op = 64 from UInt8.toNat_inj.1 (by have := HOP.out; show x.op.toNat = 64; omega))
                go_wp2_with (first | (refine wpList_load_mid rfl 57 _ rfl gb (ob + j * 5) rfl x.cs _ HRB.out Tryz.underlying57 rfl sizeIns ?_; (try simp only [Act.put, List.setIfInBounds_toArray, List.set_cons_zero, List.set_cons_succ])) | (refine wl_put (Lies.new _ _ _) x.cs _ _ rfl rfl rfl rfl rfl sizeIns HON.out (fun s1 hls1 hfs1 => ?_); have hbs1 : Below wr.heap.size wr s1 := below_put ((Below.refl wr.heap.size wr).alloc (Nat.le_refl _) _) hfs1 (Nat.le_refl _); have HS1 := Lib.hid (bt HBT.out hbs1); have HI1 := Lib.hid hls1; obtain ⟨Bi, hBs1⟩ : ∃ Bi, Bi = wr.heap.size := ⟨_, rfl⟩; rw [← hBs1] at HI1 ⊢; have xI0 : s1.cell? ⟨Bi, 0, none⟩ = some (.int .u8 64) := (HI1.out.cell 0).trans (congrArg (fun z => some (Value.int .u8 z)) HOP.out.symm); clear hBs1 hls1 hfs1 hbs1 ; try simp only [Act.put]))
                clear xI0
                refine (th1_any (HA3.out.later HS1.out).sp HM.out (HA3.out.later HS1.out).sb 2 (by decide)).mono ?_
                rintro en t1 ⟨rfl, hb⟩
                have HX1 := Lib.hid (bt HS1.out hb)
                clear hb
                rw [show thereB m 2 0 = true from HF.out.mem (.inr HK.out)]
                go_wp2_with fail
                exact ⟨⟨j + 1, by omega, by go_num, HX1.out⟩, by simp [Lib.intOf]; omega⟩
              by_cases h63 : o = 63
              · subst h63
                have HK := Lib.hid (show x.op = 63 from UInt8.toNat_inj.1 (by have := HOP.out; show x.op.toNat = 63; omega))
                go_wp2_with (first | (refine wpList_load_mid rfl 57 _ rfl gb (ob + j * 5) rfl x.cs _ HRB.out Tryz.underlying57 rfl sizeIns ?_; (try simp only [Act.put, List.setIfInBounds_toArray, List.set_cons_zero, List.set_cons_succ])) | (refine wl_put (Lies.new _ _ _) x.cs _ _ rfl rfl rfl rfl rfl sizeIns HON.out (fun s1 hls1 hfs1 => ?_); have hbs1 : Below wr.heap.size wr s1 := below_put ((Below.refl wr.heap.size wr).alloc (Nat.le_refl _) _) hfs1 (Nat.le_refl _); have HS1 := Lib.hid (bt HBT.out hbs1); have HI1 := Lib.hid hls1; obtain ⟨Bi, hBs1⟩ : ∃ Bi, Bi = wr.heap.size := ⟨_, rfl⟩; rw [← hBs1] at HI1 ⊢; have xI0 : s1.cell? ⟨Bi, 0, none⟩ = some (.int .u8 63) := (HI1.out.cell 0).trans (congrArg (fun z => some (Value.int .u8 z)) HOP.out.symm); clear hBs1 hls1 hfs1 hbs1 ; try simp only [Act.put]))
                clear xI0
                refine (th1_any (HA3.out.later HS1.out).sp HM.out (HA3.out.later HS1.out).sb 2 (by decide)).mono ?_
                rintro en t1 ⟨rfl, hb⟩
                have HX1 := Lib.hid (bt HS1.out hb)
                clear hb
                rw [show thereB m 2 0 = true from HF.out.mem (.inl HK.out)]
                go_wp2_with fail
                exact ⟨⟨j + 1, by omega, by go_num, HX1.out⟩, by simp [Lib.intOf]; omega⟩
              go_wp2_with (first | (refine wpList_load_mid rfl 57 _ rfl gb (ob + j * 5) rfl x.cs _ HRB.out Tryz.underlying57 rfl sizeIns ?_; (try simp only [Act.put, List.setIfInBounds_toArray, List.set_cons_zero, List.set_cons_succ])) | (refine wl_put (Lies.new _ _ _) x.cs _ _ rfl rfl rfl rfl rfl sizeIns HON.out (fun s1 hls1 hfs1 => ?_); have hbs1 : Below wr.heap.size wr s1 := below_put ((Below.refl wr.heap.size wr).alloc (Nat.le_refl _) _) hfs1 (Nat.le_refl _); have HS1 := Lib.hid (bt HBT.out hbs1); have HI1 := Lib.hid hls1; obtain ⟨Bi, hBs1⟩ : ∃ Bi, Bi = wr.heap.size := ⟨_, rfl⟩; rw [← hBs1] at HI1 ⊢; have xI0 : s1.cell? ⟨Bi, 0, none⟩ = some (.int .u8 o) := (HI1.out.cell 0).trans (congrArg (fun z => some (Value.int .u8 z)) HOP.out.symm); clear hBs1 hls1 hfs1 hbs1 ; try simp only [Act.put]))
              exact ⟨⟨j + 1, by omega, by go_num, HS1.out⟩, by simp [Lib.intOf]; omega⟩
            · have hge : ¬ (j : Int) < (c.body.length : Int) := by omega
              go_wp2_with fail
              exact ⟨⟨i + 1, by omega, by go_num, HBT.out⟩, by simp [Lib.intOf]; omega⟩
      · have hge : ¬ (i : Int) < (m.codes.length : Int) := by omega
        have xM9 : wr.cell? ⟨Bm, 9, none⟩ = some (.slice se m.elems.length ce) := ((HA3.out.later HBR.out).md.cell 9).trans (congrArg some HEV.out)
        go_wp2_with fail
        clear xM9 hge hlt hi
        go_loopw [145] (fun iv wr => ∃ i : Nat, i ≤ m.elems.length ∧ iv = .int .i64 i ∧ Below x3.heap.size x3 wr)
          (fun iv _ => m.elems.length - (Lib.intOf iv).toNat)
        case atStart => exact ⟨0, by omega, rfl, HBR.out⟩
        case round =>
          obtain ⟨i, hi, rfl, hbt⟩ := hrel
          have HBT := Lib.hid hbt
          clear hbt
          by_cases hlt : i < m.elems.length
          · obtain ⟨x, hx⟩ : ∃ x, m.elems[i]? = some x := ⟨_, List.getElem?_eq_getElem hlt⟩
            have HF := Lib.hid (HSO.out.elm x (List.mem_of_getElem? hx))
            have HOX := Lib.hid (HM.out.2.2.2.2.2.2.2.2.1.2.1 x (List.mem_of_getElem? hx))
            have HON := Lib.hid (oneElm HOX.out)
            have hxt : x.tb < 4294967296 := HOX.out.1
            obtain ⟨gb, ob, rfl, _⟩ := HES.out (by intro e; rw [e] at hlt; simp at hlt)
            obtain ⟨sf, cf, hfv, hfs⟩ := HOX.out.2.2.1.form
            have HFV := Lib.hid hfv
            have HFS := Lib.hid hfs
            have hlf : x.fs.length ≤ 1048576 := HOX.out.2.2.2.2
            have HRB := Lib.hid (show wr.rangeAt gb (ob + i * 3) x.cs from by
              have h1 := HM.out.2.2.2.2.2.2.2.2.1.1.later (HA3.out.later HBT.out).bel
              rw [HEV.out] at h1
              exact Gr.sl_range h1 hx)
            have hlt2 : (i : Int) < (m.elems.length : Int) := by omega
            clear hx hfv hfs
            go_wp2_with (first | (refine wpList_load_mid rfl 59 _ rfl gb (ob + i * 3) rfl x.cs _ HRB.out Tryz.underlying59 rfl sizeElm ?_; (try simp only [Act.put, List.setIfInBounds_toArray, List.set_cons_zero, List.set_cons_succ])) | (refine wl_put (Lies.new _ _ _) x.cs _ _ rfl rfl rfl rfl rfl sizeElm HON.out (fun s1 hls1 hfs1 => ?_); have hbs1 : Below wr.heap.size wr s1 := below_put ((Below.refl wr.heap.size wr).alloc (Nat.le_refl _) _) hfs1 (Nat.le_refl _); have HS1 := Lib.hid (bt HBT.out hbs1); have HI1 := Lib.hid hls1; obtain ⟨Bi, hBs1⟩ : ∃ Bi, Bi = wr.heap.size := ⟨_, rfl⟩; rw [← hBs1] at HI1 ⊢; have xI2 : s1.cell? ⟨Bi, 2, none⟩ = some (.slice sf x.fs.length cf) := (HI1.out.cell 2).trans (congrArg some HFV.out); clear hBs1 hls1 hfs1 hbs1 ; try simp only [Act.put]))
            clear xI2
            go_loopw [152] (fun jv wr => ∃ j : Nat, j ≤ x.fs.length ∧ jv = .int .i64 j ∧ Below s1.heap.size s1 wr)
              (fun jv _ => x.fs.length - (Lib.intOf jv).toNat)
            case atStart => exact ⟨0, by omega, rfl, Below.refl _ _⟩
            case round =>
              obtain ⟨j, hj, rfl, hbu⟩ := hrel
              have HBU := Lib.hid (bt HS1.out hbu)
              have HBV := Lib.hid hbu
              have HI2 := Lib.hid (HI1.out.below hbu HI1.out.lt)
              clear hbu
              by_cases hjl : j < x.fs.length
              · obtain ⟨fu, hfu⟩ : ∃ fu, x.fs[j]? = some fu := ⟨_, List.getElem?_eq_getElem hjl⟩
                have HFF := Lib.hid (HF.out fu (List.mem_of_getElem? hfu))
                have hfb : fu < 4294967296 := HOX.out.2.2.2.1 fu (List.mem_of_getElem? hfu)
                obtain ⟨gf, of, rfl, _⟩ := HFS.out (by intro e; rw [e] at hjl; simp at hjl)
                have hfc : wr.cell? ⟨gf, of + j, none⟩ = some (.int .u32 fu) := by
                  have h1 := HOX.out.2.2.1.later (HA3.out.later HBU.out).bel
                  rw [HFV.out] at h1
                  have := (Gr.sl_range h1 hfu) 0 _ rfl
                  simpa using this
                have hjl2 : (j : Int) < (x.fs.length : Int) := by omega
                clear hfu
                go_wp2_with fail
                clear hfc
                refine (th1_any (HA3.out.later HBU.out).sp HM.out (HA3.out.later HBU.out).sb 0 hfb).mono ?_
                rintro en t1 ⟨rfl, hb⟩
                have HX1 := Lib.hid (bt HBU.out hb)
                have HV1 := Lib.hid (bt HBV.out hb)
                have HI3 := Lib.hid (HI2.out.below hb HI2.out.lt)
                clear hb
                rw [show thereB m 0 fu = true from HFF.out.1]
                have xI0 : t1.cell? ⟨Bi, 0, none⟩ = some (.int .u32 x.tb) := HI3.out.cell 0
                go_wp2_with fail
                clear xI0
                refine (th1_any (HA3.out.later HX1.out).sp HM.out (HA3.out.later HX1.out).sb 1 hxt).mono ?_
                rintro en t2 ⟨rfl, hb⟩
                have HV2 := Lib.hid (bt HV1.out hb)
                clear hb
                rw [show thereB m 1 x.tb = true from HFF.out.2]
                go_wp2_with fail
                exact ⟨⟨j + 1, by omega, by go_num, HV2.out⟩, by simp [Lib.intOf]; omega⟩
              · have hge : ¬ (j : Int) < (x.fs.length : Int) := by omega
                go_wp2_with fail
                exact ⟨⟨i + 1, by omega, by go_num, HBU.out⟩, by simp [Lib.intOf]; omega⟩
          · have hge : ¬ (i : Int) < (m.elems.length : Int) := by omega
            have xM6 : wr.cell? ⟨Bm, 6, none⟩ = some (.slice sx m.exps.length cx) := ((HA3.out.later HBT.out).md.cell 6).trans (congrArg some HXV.out)
            go_wp2_with fail
            clear xM6 hge hlt hi
            go_loopw [172] (fun iv wr => ∃ i : Nat, i ≤ m.exps.length ∧ iv = .int .i64 i ∧ Below x3.heap.size x3 wr)
              (fun iv _ => m.exps.length - (Lib.intOf iv).toNat)
            case atStart => exact ⟨0, by omega, rfl, HBT.out⟩
            case round =>
              obtain ⟨i, hi, rfl, hbu⟩ := hrel
              have HBU := Lib.hid hbu
              clear hbu
              by_cases hlt : i < m.exps.length
              · obtain ⟨x, hx⟩ : ∃ x, m.exps[i]? = some x := ⟨_, List.getElem?_eq_getElem hlt⟩
                have HF := Lib.hid (HSO.out.exp x (List.mem_of_getElem? hx))
                have HOX := Lib.hid (HM.out.2.2.2.2.2.2.1.2.1 x (List.mem_of_getElem? hx))
                have hxi : x.ix < 4294967296 := HOX.out.1
                obtain ⟨gb, ob, rfl, _⟩ := HXS.out (by intro e; rw [e] at hlt; simp at hlt)
                have HRB := Lib.hid (show wr.rangeAt gb (ob + i * 3) x.cs from by
                  have h1 := HM.out.2.2.2.2.2.2.1.1.later (HA3.out.later HBU.out).bel
                  rw [HXV.out] at h1
                  exact Gr.sl_range h1 hx)
                have hlt2 : (i : Int) < (m.exps.length : Int) := by omega
                clear hx
                go_wp2_with (first | (refine wpList_load_mid rfl 61 _ rfl gb (ob + i * 3) rfl x.cs _ HRB.out Tryz.underlying61 rfl sizeExp ?_; (try simp only [Act.put, List.setIfInBounds_toArray, List.set_cons_zero, List.set_cons_succ])) | (refine wl_put (Lies.new _ _ _) x.cs _ _ rfl rfl rfl rfl rfl sizeExp (by simp [Exp.cs, Value.oneCell']) (fun s1 hls1 hfs1 => ?_); have hbs1 : Below wr.heap.size wr s1 := below_put ((Below.refl wr.heap.size wr).alloc (Nat.le_refl _) _) hfs1 (Nat.le_refl _); have HS1 := Lib.hid (bt HBU.out hbs1); have HI1 := Lib.hid hls1; obtain ⟨Bi, hBs1⟩ : ∃ Bi, Bi = wr.heap.size := ⟨_, rfl⟩; rw [← hBs1] at HI1 ⊢; have xI1 : s1.cell? ⟨Bi, 1, none⟩ = some (.int .u8 x.kind.toNat) := HI1.out.cell 1; have xI2 : s1.cell? ⟨Bi, 2, none⟩ = some (.int .u32 x.ix) := HI1.out.cell 2; clear hBs1 hls1 hfs1 hbs1 ; try simp only [Act.put]))
                clear xI1 xI2
                refine (th1_any (HA3.out.later HS1.out).sp HM.out (HA3.out.later HS1.out).sb x.kind hxi).mono ?_
                rintro en t1 ⟨rfl, hb⟩
                have HX1 := Lib.hid (bt HS1.out hb)
                clear hb
                rw [show thereB m x.kind x.ix = true from HF.out]
                go_wp2_with fail
                exact ⟨⟨i + 1, by omega, by go_num, HX1.out⟩, by simp [Lib.intOf]; omega⟩
              · have hge : ¬ (i : Int) < (m.exps.length : Int) := by omega
                obtain ⟨bh, hbh⟩ : ∃ bh, bh = m.hs := ⟨_, rfl⟩
                have xM7 : wr.cell? ⟨Bm, 7, none⟩ = some (.bool bh) := by rw [hbh]; exact (HA3.out.later HBU.out).md.cell 7
                have xM8 : wr.cell? ⟨Bm, 8, none⟩ = some (.int .u32 m.st) := (HA3.out.later HBU.out).md.cell 8
                have HBH := Lib.hid hbh
                clear hbh
                cases bh with
                | false =>
                  go_wp2_with fail
                  go_ret
                  exact ⟨rfl, (HA3.out.later HBU.out).bel⟩
                | true =>
                  go_wp2_with fail
                  refine (th1_any (HA3.out.later HBU.out).sp HM.out (HA3.out.later HBU.out).sb 0 HM.out.2.2.2.2.2.2.2.1).mono ?_
                  rintro en t1 ⟨rfl, hb⟩
                  have HX1 := Lib.hid (bt HBU.out hb)
                  clear hb
                  rw [show thereB m 0 m.st = true from HSO.out.start HBH.out.symm]
                  go_wp2_with fail
                  go_ret
                  exact ⟨rfl, (HA3.out.later HX1.out).bel⟩
  · have h01 : ¬ (ev : Int) = 0 := by omega
    have h02 : ((ev : Int) != 0) = true := by simpa using he
    go_wp2_with fail
    go_ret
    exact ⟨rfl, HB4.out⟩
end Go.Proofs.YtmgjcaikldeioaaGreat.Va
/- What the statements' rows ask: a module that came in, opened within the bound. -/
namespace Go.Proofs.YtmgjcaikldeioaaGreat.Va
open Go Go.RowKit Go.Lib Go.WideShapes Go.ChangeShapes Go.ChangeAt Kt Fm Gr

section
variable {H : Type} {enc : TypeId × Value → H} {w : World} {base : Nat} {spare : Nat → Bool} {held : Bool}
set_option maxRecDepth 100000 in
theorem small {ds : List (DataW H)} (h : Rows.uptoSmall H ds = true) {d : DataW H} (hd : d ∈ ds) : bulk d ≤ Bd := by
  unfold Rows.uptoSmall at h
  rw [decide_eq_true_eq] at h
  exact Nat.le_trans (bulk_mem hd) h
set_option maxRecDepth 100000 in
theorem open_mod {r : Reach} {b0 : Nat} {v : Value} {d : DataW H} {p : List MemPlace} (hv : Value.okWide Tryz.prog w r b0 33 v) (h : DataW.Trod enc Tryz.prog w base spare held 33 v d p) (hB : bulk d ≤ Bd) : ∃ m : Mod, v = .agg m.cs.toArray ∧ ModOk w m := by
  simp only [Value.okWide, Tryz.underlying33] at hv
  obtain ⟨cs, rfl, hsz, _⟩ := hv
  obtain ⟨fuel, hf⟩ := h
  obtain ⟨m, hm, hok⟩ := el_Mod fuel _ _ _ hf hB
  refine ⟨m, ?_, hok⟩
  have : cs = m.cs.toArray := by
    rw [← hm]
    simp [Value.cells]
  rw [this]
end
end Go.Proofs.YtmgjcaikldeioaaGreat.Va
/- The statement ValidThereUpto: for every input of bulk at most 1048576 the call returns true (in a valid module all that is spoken of is there; each code is well typed, its height is told) and each argument reads behind it as it did: the row. Conditions: the bulk's bound alone. -/
namespace Go.Proofs.YtmgjcaikldeioaaGreat.lwThere
open Go Go.ChangeShapes Go.WideShapes Go.ChangeAt Go.RowKit Kt Fm Gr Ty Va
theorem laidOut : laidOutB Tryz.prog = true := by kernel_rfl
theorem readable : (Tryz.f3.params.toList.all fun t => Tryz.prog.readableRec t && decide (t < Tryz.prog.types.size)) = true := by kernel_rfl
set_option maxRecDepth 100000 in
theorem contract (H : Type) (enc : TypeId × Value → H) (W : World) (base : Nat) (args : Array Value) (ds gs : List (DataW H)) (before : List MemPlace)
    (hval : ∀ (j : Nat) t v, Tryz.f3.params[j]? = some t → args[j]? = some v → Value.okWide Tryz.prog W .any base t v)
    (hW : DataW.Whole enc Tryz.prog Tryz.f3.params.toList Rows.validThereSpec.vars false W args.toList ds gs before) (hk : Rows.uptoSmall H (ds ++ gs) = true) :
    Calls Tryz.prog 3 args W fun e W' => ∃ v, e = .returned v ∧ Rows.validThereSpec.post enc Tryz.prog Tryz.f3 false true false false W args v W' := by
  have hW' := hW
  obtain ⟨p, q, hA0, hV, rfl, hfz, hnd⟩ := hW
  have hA : DataW.TrodAll enc Tryz.prog W 0 (fun _ => true) true Tryz.f3.params.toList args.toList ds p := hA0
  rw [Tryz.params3] at hA hval
  obtain ⟨v0, vs0, d0, ds0, p0, q0, hargs0, rfl, rfl, h0, r0⟩ := trodAll_cons hA
  obtain ⟨rfl, rfl, rfl⟩ := trodAll_nil r0
  obtain rfl : args = #[v0] := by cases args; simp_all
  obtain ⟨rfl, rfl⟩ := trodVars_none hV
  obtain ⟨x0, rfl, hx0⟩ := open_mod (hval 0 _ v0 rfl rfl) h0 (small hk (by simp))
  refine (law_there hx0).mono fun e W' ⟨he, hb⟩ => ?_
  subst he
  exact ⟨_, rfl, Rw.law_post laidOut readable rfl Tryz.underlying4 rfl (fun _ => rfl) (fun _ => rfl) (fun _ => rfl) hW' hb⟩
set_option maxRecDepth 100000 in
theorem reads (os : Os) {H : Type} (enc : TypeId × Value → H) : ∃ places, DataW.whole enc Tryz.prog ((Rw.plainWorld os).forCall (fun _ _ => 0) ⟨#[], #[(.agg #[.slice none 0 0, .slice none 0 0, .slice none 0 0, .slice none 0 0, .slice none 0 0, .slice none 0 0, .slice none 0 0, .bool false, .int .u32 0, .slice none 0 0, .slice none 0 0, .slice none 0 0])], []⟩).memory Tryz.f3.params.toList Rows.validThereSpec.vars false (#[(.agg #[.slice none 0 0, .slice none 0 0, .slice none 0 0, .slice none 0 0, .slice none 0 0, .slice none 0 0, .slice none 0 0, .bool false, .int .u32 0, .slice none 0 0, .slice none 0 0, .slice none 0 0])] : Array Value).toList 8 = some ([(.agg [.nil, .nil, .nil, .nil, .nil, .nil, .nil, .lit (.bool false), .lit (.int .u32 0), .nil, .nil, .nil])], [], places) :=
  ⟨[], by kernel_rfl⟩
set_option maxRecDepth 100000 in
theorem lifted (os : Os) (started : os.Started) (H : Type) (enc : TypeId × Value → H) (F : Stop.Interp) :
    ReturnsInHanded {} Tryz.checked os 3 .any ((Rows.OpenSpec.upto Rows.validThereSpec).preRow enc Tryz.prog Tryz.f3 Rows.validThereUptoRow.domain false Rows.validThereUptoRow.laid) (((Rows.OpenSpec.upto Rows.validThereSpec).at F).post enc Tryz.prog Tryz.f3 false true false false) := by
  obtain ⟨places, hx⟩ := reads os enc
  refine returnsInHanded_of_row (C := Tryz.checked) (s := Rows.OpenSpec.upto Rows.validThereSpec) Rw.own started (by kernel_rfl) Tryz.func3
    (witness_row_at (enc := enc) (C := Tryz.checked) false (Rw.plainWorld os) #[(.agg #[.slice none 0 0, .slice none 0 0, .slice none 0 0, .slice none 0 0, .slice none 0 0, .slice none 0 0, .slice none 0 0, .bool false, .int .u32 0, .slice none 0 0, .slice none 0 0, .slice none 0 0])] rfl (by kernel_rfl) (by kernel_rfl) (by kernel_rfl)
      (OpenSpec.preRow_of_cond 8 hx (by kernel_rfl) (fun k hk => by cases hk; kernel_rfl) (by kernel_rfl) (Rw.met_nil _))) ?_
  intro W base args ds gs before hval hW _ hcond _ _ _ _
  exact contract H enc W base args ds gs before hval hW (hcond _ rfl)
theorem said : Rows.ValidThereUptoSaid :=
  OpenClaim.holds_of_cond 3 Tryz.f3 rfl rfl rfl rfl rfl rfl rfl ⟨rfl, rfl, rfl, rfl, rfl⟩ rfl rfl rfl rfl rfl (by kernel_rfl) Tryz.func3 (by kernel_rfl)
    (of_decide_eq_true (by kernel_rfl)) (by unfold Func.isWrapper; first | (rw [if_pos (by decide +kernel)]; kernel_rfl) | (rw [if_neg (by decide +kernel)]; exact ⟨rfl, rfl⟩))
    (fun os started H enc _ F => by rw [OpenClaim.pre_eq_preRow]; exact lifted os started H enc F)
#print axioms said
end Go.Proofs.YtmgjcaikldeioaaGreat.lwThere
