/- A local's type (body.Local); are all locals numbers (slices.ContainsFunc)? -/
import Derived.Test.YtmgjcaikldeioaaGreatXUf
namespace Go.Proofs.YtmgjcaikldeioaaGreat.Ty
open Go Go.RowKit Go.Lib Kt Fm Gr

theorem sizeLoc : (Tryz.prog.info? 82).map (·.size) = some 2 := by kernel_rfl
theorem oneLoc (x : Gr.Loc) : (x.cs.toArray.all (·.oneCell')) = true := by simp [Gr.Loc.cs, Value.oneCell']
theorem go_step {L : List Gr.Loc} {j k : Nat} {x : Gr.Loc} (hx : L[j]? = some x) : locT.go (L.drop j) k = if k < x.n then some x.t else locT.go (L.drop (j + 1)) (k - x.n) := by
 have hj := (List.getElem?_eq_some_iff.1 hx).1
 have e : L.drop j = x :: L.drop (j + 1) := by
  rw [List.drop_eq_getElem_cons hj, (List.getElem?_eq_some_iff.1 hx).2]
 rw [e, locT.go]
theorem go_end (L : List Gr.Loc) (k : Nat) : locT.go (L.drop L.length) k = none := by rw [List.drop_length, locT.go]
/-- What Local tells. -/
def LocSays (o : Option UInt8) (e : Ending) : Prop := ∃ t : UInt8, e = .returned (.tuple #[.int .u8 t.toNat, .bool o.isSome]) ∧ ∀ u, o = some u → t = u
set_option maxRecDepth 100000 in
set_option maxHeartbeats 8000000 in
theorem loc_any {W : World} {fn : Ft} {c : Cod} {a : Nat} (hfn : FtOk W fn) (hc : CodOk W c) (ha : a < 4294967296) :
  Calls Tryz.prog 124 #[.agg fn.cs.toArray, .agg c.cs.toArray, .int .u32 a] W fun e w' => LocSays (locT fn c a) e ∧ Below W.heap.size W w' := by
 obtain ⟨⟨hp, _, hpb⟩, _⟩ := hfn
 obtain ⟨⟨hl, hlo, hlb⟩, _⟩ := hc
 obtain ⟨sp, cp, hpv, hps⟩ := hp.form
 obtain ⟨sl, cl, hlv, hls⟩ := hl.form
 have hpb' : fn.p.length ≤ 1048576 := hpb
 have hlb' : c.locs.length ≤ 1048576 := hlb
 have HP := zh hp
 have HL := zh hl
 have HLO := zh hlo
 have HPV := zh hpv
 have HLV := zh hlv
 have HPS := zh hps
 have HLS := zh hls
 clear hp hl hlo hpb hlb hpv hlv hps hls
 by_cases hlt : a < fn.p.length
 ·obtain ⟨t, ht⟩ : ∃ t, fn.p[a]? = some t := ⟨_, List.getElem?_eq_getElem hlt⟩
  have HT := zh ht
  obtain ⟨g, off, rfl, _⟩ := HPS.out (by intro e; rw [e] at hlt; simp at hlt)
  have HE := zh (show locT fn c a = some t from by unfold locT; rw [if_pos hlt]; exact ht)
  have hlt2 : (a : Int) < (fn.p.length : Int) := by omega
  clear ht
  go_enter Tryz.func124, Tryz.ntmps124
  go_wp2_with (first | (refine wl_box fn.cs _ rfl rfl rfl (fun w1 hb1 hl1 => ?_); have HB1 := zh hb1; have HL1 := zh hl1; clear hb1 hl1; simp only [Act.put, sA, sB, sC]) | (refine wl_box c.cs _ rfl rfl rfl (fun w2 hb2 hl2 => ?_); have HB2 := zh (bt HB1.out hb2); have HF2 := zh (HL1.out.below hb2 HL1.out.lt); have HC2 := zh hl2; have k0 : w2.cell? ⟨W.heap.size, 0, none⟩ = some (.slice (some ⟨g, off, none⟩) fn.p.length cp) := (keepc hb2 (HL1.out.cell 0)).trans (congrArg some HPV.out); have c0 : w2.cell? ⟨w1.heap.size, 0, none⟩ = some (.slice sl c.locs.length cl) := (hl2.cell 0).trans (congrArg some HLV.out); have hct := (HP.out.later (bt HB1.out hb2)); rw [HPV.out] at hct; replace hct := hct.cell HT.out (j := 0) rfl; rw [Nat.add_zero, Nat.mul_one] at hct; clear hb2 hl2; simp only [Act.put, sA, sB, sC]))
  go_ret2
  exact ⟨⟨t, by rw [HE.out]; rfl, fun u hu => by rw [HE.out] at hu; exact Option.some.inj hu⟩, HB2.out⟩
 ·obtain ⟨k, hk⟩ : ∃ k, k = a - fn.p.length := ⟨_, rfl⟩
  have HE := zh (show locT fn c a = locT.go (c.locs.drop 0) k from by unfold locT; rw [if_neg hlt, hk, List.drop_zero])
  have hlt2 : ¬ (a : Int) < (fn.p.length : Int) := by omega
  have hsub : (a : Int) - (fn.p.length : Int) = (k : Int) := by omega
  have hkb : k < 4294967296 := by omega
  clear hk
  go_enter Tryz.func124, Tryz.ntmps124
  go_wp2_with (first | (refine wl_box fn.cs _ rfl rfl rfl (fun w1 hb1 hl1 => ?_); have HB1 := zh hb1; have HL1 := zh hl1; clear hb1 hl1; simp only [Act.put, sA, sB, sC]) | (refine wl_box c.cs _ rfl rfl rfl (fun w2 hb2 hl2 => ?_); have HB2 := zh (bt HB1.out hb2); have HF2 := zh (HL1.out.below hb2 HL1.out.lt); have HC2 := zh hl2; have k0 : w2.cell? ⟨W.heap.size, 0, none⟩ = some (.slice sp fn.p.length cp) := (keepc hb2 (HL1.out.cell 0)).trans (congrArg some HPV.out); have c0 : w2.cell? ⟨w1.heap.size, 0, none⟩ = some (.slice sl c.locs.length cl) := (hl2.cell 0).trans (congrArg some HLV.out);  clear hb2 hl2; simp only [Act.put, sA, sB, sC]))
  clear k0 c0
  go_loopw [8, 33] (fun kk i wr => ∃ j k1 : Nat, j ≤ c.locs.length ∧ i = .int .i64 j ∧ kk = .int .u64 k1 ∧ k1 < 4294967296 ∧ locT.go (c.locs.drop 0) k = locT.go (c.locs.drop j) k1 ∧ Below W.heap.size W wr)
   (fun _ i _ => c.locs.length - (Lib.intOf i).toNat)
  case atStart => exact ⟨0, k, by omega, rfl, rfl, hkb, rfl, HB2.out⟩
  case round =>
   obtain ⟨j, k1, hj, rfl, rfl, hk1, hgo, hbr⟩ := hrel
   have HGO := zh hgo
   have HBR := zh hbr
   clear hgo hbr
   by_cases hlt3 : j < c.locs.length
   ·obtain ⟨x, hx⟩ : ∃ x, c.locs[j]? = some x := ⟨_, List.getElem?_eq_getElem hlt3⟩
    have hxn : x.n < 4294967296 := HLO.out x (List.mem_of_getElem? hx)
    obtain ⟨g, off, rfl, _⟩ := HLS.out (by intro e; rw [e] at hlt3; simp at hlt3)
    have HLs := zh (HL.out.later HBR.out)
    rw [HLV.out] at HLs
    have HR := zh (sl_range HLs.out hx)
    have HX := zh hx
    have hlt4 : (j : Int) < (c.locs.length : Int) := by omega
    clear hx
    by_cases hin : k1 < x.n
    ·have hin2 : (k1 : Int) < (x.n : Int) := by omega
     have HE2 := zh (show locT fn c a = some x.t from by rw [HE.out, HGO.out, go_step HX.out, if_pos hin])
     go_wp2_with (first | (refine wpList_load_mid rfl 82 _ rfl g (off + j * 2) rfl x.cs _ HR.out Tryz.underlying82 rfl sizeLoc ?_; simp only [Act.put, sA, sB, sC]) | (refine wl_put (Lies.new _ _ _) x.cs _ _ rfl rfl rfl rfl rfl sizeLoc (oneLoc x) (fun w5 hL5 hF5 => ?_); have HB5 := zh (bt HBR.out (below_put ((Below.refl wr.heap.size wr).alloc (Nat.le_refl _) _) hF5 (Nat.le_refl _))); have y0 : w5.cell? ⟨wr.heap.size, 0, none⟩ = some (.int .u32 x.n) := hL5.cell 0; have y1 : w5.cell? ⟨wr.heap.size, 1, none⟩ = some (.int .u8 x.t.toNat) := hL5.cell 1; clear hL5 hF5; try simp only [Act.put]))
     go_ret2
     exact ⟨⟨x.t, by rw [HE2.out]; rfl, fun u hu => by rw [HE2.out] at hu; exact Option.some.inj hu⟩, HB5.out⟩
    ·have hin2 : ¬ (k1 : Int) < (x.n : Int) := by omega
     obtain ⟨k2, hk2⟩ : ∃ k2, k2 = k1 - x.n := ⟨_, rfl⟩
     have hsub2 : (k1 : Int) - (x.n : Int) = (k2 : Int) := by omega
     have hk2b : k2 < 4294967296 := by omega
     have HE2 := zh (show locT.go (c.locs.drop 0) k = locT.go (c.locs.drop (j + 1)) k2 from by rw [HGO.out, go_step HX.out, if_neg hin, hk2])
     clear hk2
     go_wp2_with (first | (refine wpList_load_mid rfl 82 _ rfl g (off + j * 2) rfl x.cs _ HR.out Tryz.underlying82 rfl sizeLoc ?_; simp only [Act.put, sA, sB, sC]) | (refine wl_put (Lies.new _ _ _) x.cs _ _ rfl rfl rfl rfl rfl sizeLoc (oneLoc x) (fun w5 hL5 hF5 => ?_); have HB5 := zh (bt HBR.out (below_put ((Below.refl wr.heap.size wr).alloc (Nat.le_refl _) _) hF5 (Nat.le_refl _))); have y0 : w5.cell? ⟨wr.heap.size, 0, none⟩ = some (.int .u32 x.n) := hL5.cell 0; have y1 : w5.cell? ⟨wr.heap.size, 1, none⟩ = some (.int .u8 x.t.toNat) := hL5.cell 1; clear hL5 hF5; try simp only [Act.put]))
     exact ⟨⟨j + 1, k2, by omega, by go_num, rfl, hk2b, HE2.out, HB5.out⟩, by simp [Lib.intOf]; omega⟩
   ·obtain rfl : j = c.locs.length := by omega
    have HE2 := zh (show locT fn c a = none from by rw [HE.out, HGO.out, go_end])
    go_wp2_with fail
    go_ret2
    exact ⟨⟨0, by rw [HE2.out]; rfl, fun u hu => by rw [HE2.out] at hu; cases hu⟩, HBR.out⟩
/-- Is a local of no number's type? -/
def badLoc (x : Gr.Loc) : Bool := x.t != 127 && x.t != 126
set_option maxRecDepth 100000 in
set_option maxHeartbeats 8000000 in
theorem bad_any {W : World} (x : Gr.Loc) : Calls Tryz.prog 66 #[.agg x.cs.toArray] W fun e w' => e = .returned (.bool (badLoc x)) ∧ Below W.heap.size W w' := by
 have e127 : ((x.t.toNat : Int) != 127) = (x.t != 127) := congrArg (!·) (u8b x.t 127)
 have e126 : ((x.t.toNat : Int) != 126) = (x.t != 126) := congrArg (!·) (u8b x.t 126)
 have HE := zh (And.intro e127 e126)
 clear e127 e126
 cases h1 : x.t != 127 with
 | false =>
  have f1 : ((x.t.toNat : Int) != 127) = false := HE.out.1.trans h1
  have HB := zh (show badLoc x = false from by unfold badLoc; rw [h1]; rfl)
  clear h1
  go_enter Tryz.func66, Tryz.ntmps66
  go_wp2_with (refine wl_box x.cs _ rfl rfl rfl (fun w1 hb1 hl1 => ?_); have HB1 := zh hb1; have y1 : w1.cell? ⟨W.heap.size, 1, none⟩ = some (.int .u8 x.t.toNat) := hl1.cell 1; clear hb1 hl1; simp only [Act.put, sA, sB, sC])
  go_ret
  exact ⟨by rw [HB.out]; rfl, HB1.out⟩
 | true =>
  have f1 : ((x.t.toNat : Int) != 127) = true := HE.out.1.trans h1
  obtain ⟨b, hb⟩ : ∃ b, b = (x.t != 126) := ⟨_, rfl⟩
  have f2 : ((x.t.toNat : Int) != 126) = b := HE.out.2.trans hb.symm
  have HB := zh (show badLoc x = b from by unfold badLoc; rw [h1, hb]; rfl)
  clear h1 hb
  go_enter Tryz.func66, Tryz.ntmps66
  go_wp2_with (refine wl_box x.cs _ rfl rfl rfl (fun w1 hb1 hl1 => ?_); have HB1 := zh hb1; have y1 : w1.cell? ⟨W.heap.size, 1, none⟩ = some (.int .u8 x.t.toNat) := hl1.cell 1; clear hb1 hl1; simp only [Act.put, sA, sB, sC])
  all_goals
   go_ret
   exact ⟨by rw [HB.out]; first | rfl | simp_all, HB1.out⟩
set_option maxRecDepth 100000 in
set_option maxHeartbeats 8000000 in
theorem index_loc {W : World} {v : Value} {L : List Gr.Loc} (h : Sl W 2 Loc.cs v L) (hn : L.length ≤ 4194304) :
  Calls Tryz.prog 89 #[v, .func (.func 66) #[] #[]] W fun e w' => (∃ i : Int, e = .returned (.int .i64 i) ∧ decide (0 ≤ i) = L.any badLoc) ∧ Below W.heap.size W w' := by
 obtain ⟨s, cap, rfl, hs⟩ := h.form
 have HS := zh hs
 have H := zh h
 clear hs h
 go_enter Tryz.func89, Tryz.ntmps89
 go_wp2_with fail
 go_loopw [5, 8] (fun _ i wr => ∃ j : Nat, j ≤ L.length ∧ i = .int .i64 j ∧ Below W.heap.size W wr ∧ (L.take j).any badLoc = false)
  (fun _ i _ => L.length - (Lib.intOf i).toNat)
 case atStart => exact ⟨0, by omega, rfl, Below.refl _ _, by simp⟩
 case round =>
  obtain ⟨j, hj, rfl, hbr, hall⟩ := hrel
  have HBR := zh hbr
  have HALL := zh hall
  clear hbr hall
  by_cases hlt : j < L.length
  ·obtain ⟨x, hx⟩ : ∃ x, L[j]? = some x := ⟨_, List.getElem?_eq_getElem hlt⟩
   obtain ⟨g, off, rfl, hg⟩ := HS.out (by intro e; simp [e] at hlt)
   have HR := zh (sl_range (H.out.later HBR.out) hx)
   have HX := zh hx
   have hlt2 : (j : Int) < (L.length : Int) := by omega
   clear hx
   go_wp2_with (refine wpList_load_mid rfl 82 _ rfl g (off + j * 2) rfl x.cs _ HR.out Tryz.underlying82 rfl sizeLoc ?_; simp only [Act.put, sA, sB, sC])
   refine (bad_any x).mono ?_
   rintro en w5 ⟨rfl, hb5⟩
   have HB5 := zh (bt HBR.out hb5)
   clear hb5
   cases hbd : badLoc x with
   | true =>
    go_wp2_with fail
    go_ret
    exact ⟨⟨_, rfl, by rw [any_of HX.out hbd]; simp⟩, HB5.out⟩
   | false =>
    go_wp2_with fail
    exact ⟨⟨j + 1, by omega, by go_num, HB5.out, by rw [any_take _ HX.out, HALL.out, hbd]; rfl⟩, by simp [Lib.intOf]; omega⟩
  ·obtain rfl : j = L.length := by omega
   go_wp2_with fail
   go_ret
   have h1 := HALL.out
   rw [List.take_length] at h1
   exact ⟨⟨_, rfl, by rw [h1]; decide⟩, HBR.out⟩
set_option maxRecDepth 100000 in
set_option maxHeartbeats 8000000 in
theorem contains_loc {W : World} {v : Value} {L : List Gr.Loc} (h : Sl W 2 Loc.cs v L) (hn : L.length ≤ 4194304) :
  Calls Tryz.prog 65 #[v, .func (.func 66) #[] #[]] W fun e w' => e = .returned (.bool (L.any badLoc)) ∧ Below W.heap.size W w' := by
 go_enter Tryz.func65, Tryz.ntmps65
 go_wp2_with fail
 refine (index_loc h hn).mono ?_
 rintro en w1 ⟨⟨i, rfl, hi⟩, hb⟩
 have HB := zh hb
 have HI := zh hi
 clear hb hi
 go_wp2_with fail
 go_ret
 rw [← HI.out]
 exact ⟨rfl, HB.out⟩
end Go.Proofs.YtmgjcaikldeioaaGreat.Ty
