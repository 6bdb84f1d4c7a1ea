/- An instruction's bytes (instr.put): that there are some, not what they are. -/
import Derived.Test.YtmgjcaikldeioaaGreatXTza
import Derived.Test.YtmgjcaikldeioaaGreatXGl
import Derived.Test.YtmgjcaikldeioaaGreatXUa
namespace Go.Proofs.YtmgjcaikldeioaaGreat.Ty
open Go Go.RowKit Go.Lib Kt Fm Gr

/-- A variable that holds bytes of one's own, and what turned but it and they. -/
structure Buf (W w : World) (H b : Nat) (v0 v : Value) (n : Nat) : Prop where
 lies : Lies w b 49 #[v]
 own : Own w H v n
 fr : Fr W w (fun k => k = b ∨ some k = v0.ownBlock)
 blk : v.ownBlock = v0.ownBlock ∨ ∀ k, v.ownBlock = some k → W.heap.size ≤ k
theorem lies_ne_block {w : World} {b : Nat} {t : TypeId} {cs : Array Value} {H n : Nat} {v : Value} (hl : Lies w b t cs) (ho : Own w H v n) (ht : t ≠ 5) : ∀ k, v.ownBlock = some k → k ≠ b := fun k hk e => by
 subst e
 obtain ⟨_, _, cur, hc⟩ := ho.block hk
 rw [show w.heap[k]? = _ from hl] at hc
 injection hc with hc
 injection hc with _ h2 _
 exact ht h2
section
variable {W w w1 w2 w3 w' : World} {H b n m : Nat} {v0 v v' : Value}
theorem Buf.start (hl : Lies W b 49 #[v]) (ho : Own W H v n) : Buf W W H b v v n := ⟨hl, ho, Fr.refl _ _, Or.inl rfl⟩
theorem Buf.later (h : Buf W w H b v0 v n) (hb : Below w.heap.size w w1) : Buf W w1 H b v0 v n := ⟨h.lies.below hb h.lies.lt, h.own.later hb, h.fr.trans (Fr.of_below hb _), h.blk⟩
theorem Buf.mid (h : Buf W w H b v0 v n) (hb : Below w.heap.size w w1) (hg : w1.grownBy w2 v.ownBlock) : Lies w2 b 49 #[v] :=
 lies_frT (h.later hb).lies ((h.later hb).own.frT hg) (by decide)
theorem Buf.trans (h : Buf W w H b v0 v n) (k : Buf w w' H b v v' m) : Buf W w' H b v0 v' m :=
 ⟨k.lies, k.own, ⟨k.fr.os.trans h.fr.os, k.fr.tape.trans h.fr.tape, k.fr.output.trans h.fr.output, Nat.le_trans h.fr.size k.fr.size, fun i hi hn => (k.fr.block i (Nat.lt_of_lt_of_le hi h.fr.size) (fun e => by
   rcases e with e | e
   ·exact hn (Or.inl e)
   ·rcases h.blk with e2 | e2
    ·exact hn (Or.inr (by rw [e, e2]))
    ·have := e2 i e.symm
     omega)).trans (h.fr.block i hi hn)⟩, by
  rcases k.blk with e | e
  ·rcases h.blk with e2 | e2
   ·exact Or.inl (e.trans e2)
   ·exact Or.inr fun i hi => e2 i (by rw [← e]; exact hi)
  ·exact Or.inr fun i hi => Nat.le_trans h.fr.size (e i hi)⟩
theorem Buf.put (h : Buf W w H b v0 v n) (hb : Below w.heap.size w w1) (ho : Own w2 H v' m) (hg : w1.grownBy w2 v.ownBlock) (hv : v'.ownBlock = v.ownBlock ∨ v'.ownBlock = some w1.heap.size) (hl : Lies w3 b 49 #[v']) (hf : Fr w2 w3 (fun k => k = b)) : Buf W w3 H b v0 v' m := by
 have hl2 := h.mid hb hg
 refine h.trans ⟨hl, ho.fr hf (lies_ne_block hl2 ho (by decide)), ?_, ?_⟩
 ·exact ((Fr.of_below hb _).trans ((Fr.of_grown hg).mono fun k _ e => Or.inr e)).trans (hf.mono fun k _ e => Or.inl e)
 ·rcases hv with e | e
  ·exact Or.inl e
  ·exact Or.inr fun k hk => by rw [e] at hk; injection hk with hk; rw [← hk]; exact hb.size
theorem Buf.other {B : Nat} {t : TypeId} {cs : Array Value} (h : Lies w B t cs) (k : Buf w w' H b v v' m) (hl : Lies w b 49 #[v]) (ho : Own w H v n) (h1 : t ≠ 49) (h2 : t ≠ 5) : Lies w' B t cs :=
 lies_fr h k.fr fun e => by
  rcases e with e | e
  ·exact h.ne hl h1 e
  ·exact lies_ne_block h ho h2 B e.symm rfl
end
set_option maxRecDepth 100000 in
set_option maxHeartbeats 4000000 in
theorem put1_any {W : World} {H b n a : Nat} {v : Value} (hl : Lies W b 49 #[v]) (ho : Own W H v n) (hH : H ≤ W.heap.size) (hn : n ≤ 100000000000000) (ha : a < 4294967296) :
  Calls Tryz.prog 113 #[.int .u32 a, .pointer (some ⟨b, 0, none⟩)] W fun e w' => e = .returned (.tuple #[]) ∧ ∃ v' n', Buf W w' H b v v' n' ∧ n' ≤ n + 10 := by
 obtain ⟨sv, cv, rfl, _⟩ := ho.form
 have HL := zh hl
 have HO := zh ho
 have HH := zh hH
 clear hl ho hH
 go_enter Tryz.func113, Tryz.ntmps113
 go_wp2_with fail
 have hd := below_drew W
 have HLV := zh (HL.out.below hd HL.out.lt)
 refine wp_region_t [(1, 1), (2, 1), (0, 2), (3, 0), (4, 0), (5, 0)] (fun _ => True) [(5, fun w' => w'.cell? ⟨b, 0, none⟩ = some (.slice sv n cv))] [5] rfl (by kernel_rfl) (by kernel_rfl) (fun _ _ d _ _ h => by cases d <;> exact h) trivial (fun p hp => by obtain rfl := List.mem_singleton.1 hp; exact HLV.out.cell 0) ?_
 have HOV := zh (HO.out.later hd)
 have HB0 := zh hd
 clear hd
 generalize W.drew = V at HLV HOV HB0 ⊢
 repeat (first | (refine ts_take2 (v := ?_) rfl rfl (fun w' _ hs' => ?_) ?_; rotate_left; (focus (have q0 := hs'.one rfl; clear hs'; (try simp only [Act.put, sA, sB, sC]); go_simp; (try go_bits); (try (with_reducible rfl)))); (try simp only [Act.put, sA, sB, sC])) | (refine ts_take (v := ?_) rfl rfl (fun w' hw' => ?_) ?_; rotate_left; (focus (clear hw'; (try simp only [Act.put, sA, sB, sC]); go_simp; (try go_bits); (try (with_reducible rfl)))); (try simp only [Act.put, sA, sB, sC])))
 refine ts_run1 rfl rfl (fun K hK => ?_)
 go_simp
 refine (appu_any (n := a) (by omega)).mono ?_
 rintro en w1 ⟨u, rfl, k, ho1, hk, hb1⟩
 have HL1 := zh (HLV.out.below hb1 HLV.out.lt)
 have HW1 := zh (bt HB0.out hb1)
 have HO1 := zh (HOV.out.later hb1)
 obtain ⟨L, hLk, hsl, hone⟩ := ho1.sl
 have HSL := zh hsl
 have HONE := zh hone
 refine hK.out _ _ trivial (still_one (.inr (HL1.out.cell 0))) ?_
 clear hK K ho1 hb1 HLV HOV HB0 hsl hone
 (try simp only [Act.put, sA, sB, sC])
 refine ts_run1 rfl rfl (fun K hK => ?_)
 refine wp_more _ _ rfl rfl HO1.out (fun _ => rfl) rfl HSL.out HONE.out (by omega) (Nat.le_trans HH.out HW1.out.size) (fun v2 w2 ho2 hg2 hv2 => ?_)
 obtain ⟨s2, c2, rfl, _⟩ := ho2.form
 have HO2 := zh ho2
 have HG2 := zh hg2
 have HV2 := zh hv2
 have HB1 := zh ((Buf.start HL.out HO.out).later HW1.out)
 have HL2 := zh (HB1.out.mid (Below.refl _ _) hg2)
 refine hK.out _ _ trivial (still_one (.inr (HL2.out.cell 0))) ?_
 clear hK K ho2 hg2 hv2
 (try simp only [Act.put, sA, sB, sC])
 refine ts_run1 rfl rfl (fun K hK => ?_)
 refine wp_fld (c0 := [.slice sv n cv]) HL2.out _ _ rfl rfl rfl [.slice s2 (n + L.length) c2] [.slice s2 (n + L.length) c2] rfl siz_u8s (by intro u hu; obtain rfl := List.mem_singleton.1 hu; rfl) (by simp) rfl (fun w3 hl3 hf3 => ?_)
 have HB3 := zh (HB1.out.put (Below.refl _ _) HO2.out HG2.out HV2.out hl3 hf3)
 refine hK.out _ _ trivial (still_one (.inl rfl)) ?_
 clear hK K hl3 hf3
 (try simp only [Act.put])
 refine ts_done ?_
 go_wp2_with fail
 go_end0
 exact ⟨rfl, _, _, HB3.out, by omega⟩
theorem formN_cases (op : UInt8) : ((formN op).toNat : Int) = 0 ∨ ((formN op).toNat : Int) = 1 ∨ ((formN op).toNat : Int) = 2 ∨ ((formN op).toNat : Int) = 3 ∨ ((formN op).toNat : Int) = 4 ∨ ((formN op).toNat : Int) = 5 ∨ ((formN op).toNat : Int) = 6 ∨ ((formN op).toNat : Int) = 7 ∨ ((formN op).toNat : Int) = 8 ∨ ((formN op).toNat : Int) = 9 := by
 unfold formN
 repeat' split
 all_goals simp
theorem Buf.box {W : World} {H n : Nat} {v : Value} (h : Own W H v n) : Buf W (W.alloc (.cells #[v] 49)) H W.heap.size v v n :=
 ⟨Lies.new _ _ _, h.later ((Below.refl _ _).alloc (Nat.le_refl _) _), Fr.alloc _ _ _, Or.inl rfl⟩
theorem Buf.below {W w : World} {H b n : Nat} {v0 v : Value} (h : Buf W w H b v0 v n) (hb : H ≤ b) (hv : ∀ k, v0.ownBlock = some k → H ≤ k) (hH : H ≤ W.heap.size) : Below H W w :=
 h.fr.below hH fun k hk => by
  rcases hk with rfl | hk
  ·exact hb
  ·exact hv k hk.symm
theorem Buf.below' {W0 W w : World} {b n m : Nat} {v0 v : Value} (h : Buf W w W0.heap.size b v0 v n) (hB : Below W0.heap.size W0 W) (ho : Own W W0.heap.size v0 m) (hb : W.heap.size ≤ b) : Below W0.heap.size W w :=
 h.below (Nat.le_trans hB.size hb) (fun _ hk => (ho.block hk).1) hB.size
theorem Buf.out {W w : World} {H b n : Nat} {v0 v : Value} (h : Buf W w H b v0 v n) (hb : W.heap.size ≤ b) : Fr W w (fun k => some k = v0.ownBlock) :=
 h.fr.mono fun k hk e => by
  rcases e with rfl | e
  ·omega
  ·exact e
set_option maxRecDepth 100000 in
set_option maxHeartbeats 16000000 in
theorem put_any {W0 W : World} {n : Nat} {v : Value} {x : Ins} (ho : Own W W0.heap.size v n) (hB : Below W0.heap.size W0 W) (hx : InsOk W0 x) (hn : n ≤ 20000000000000) :
  Calls Tryz.prog 88 #[v, .agg x.cs.toArray] W fun e w' => ∃ v', e = .returned v' ∧ ∃ n', Own w' W0.heap.size v' n' ∧ n' ≤ n + 100 + 10 * x.ls.length ∧ Fr W w' (fun k => some k = v.ownBlock) ∧ (v'.ownBlock = v.ownBlock ∨ ∀ k, v'.ownBlock = some k → W.heap.size ≤ k) := by
 obtain ⟨op, a, b, c, lv, ls⟩ := x
 obtain ⟨ha, hb, ⟨hc1, hc2⟩, hsl, hlt, hbd⟩ := hx
 obtain ⟨sl, cl, hlv, hs⟩ := hsl.form
 replace hlv : lv = .slice sl ls.length cl := hlv
 subst hlv
 replace hbd : ls.length ≤ 1048576 := hbd
 replace ha : a < 4294967296 := ha
 replace hb : b < 4294967296 := hb
 replace hc1 : -9223372036854775808 ≤ c := hc1
 replace hc2 : c ≤ 9223372036854775807 := hc2
 obtain ⟨s0, c0', rfl, _⟩ := ho.form
 have HH := zh (show W0.heap.size ≤ W.heap.size from hB.size)
 have HB0 := zh hB
 have HO := zh ho
 have HSL := zh hsl
 have HS := zh hs
 have HLT := zh hlt
 have HF := zh (formN_cases op)
 clear hB ho hsl hs hlt
 obtain ⟨B2, hB2'⟩ : ∃ B2, B2 = W.heap.size := ⟨_, rfl⟩
 have hB2 : W.heap.size ≤ B2 := by omega
 go_enter Tryz.func88, Tryz.ntmps88
 go_wp2_with (first | (refine wl_box (Ins.cs ⟨op, a, b, c, .slice sl ls.length cl, ls⟩) _ rfl rfl rfl (fun w1 hb1 hl1 => ?_); have HB1 := zh ((Buf.box HO.out).later hb1); have HX1 := zh hl1; clear hb1 hl1; simp only [World.size_alloc, ← hB2'] at HB1 HX1 ⊢; obtain ⟨B3, hB3⟩ : ∃ B3, B3 = B2 + 1 := ⟨_, rfl⟩; rw [← hB3] at HX1 ⊢; clear hB3 hB2'; have c0 : w1.cell? ⟨B2, 0, none⟩ = some (.slice s0 (n) c0') := HB1.out.lies.cell 0; have x0 : w1.cell? ⟨B3, 0, none⟩ = some (.int .u8 op.toNat) := HX1.out.cell 0; have x1 : w1.cell? ⟨B3, 1, none⟩ = some (.int .u32 a) := HX1.out.cell 1; have x2 : w1.cell? ⟨B3, 2, none⟩ = some (.int .u32 b) := HX1.out.cell 2; have x3 : w1.cell? ⟨B3, 3, none⟩ = some (.int .i64 c) := HX1.out.cell 3; have x4 : w1.cell? ⟨B3, 4, none⟩ = some (.slice sl ls.length cl) := HX1.out.cell 4; (try simp only [Act.put, sA, sB, sC])) | (refine wl_b1 _ _ rfl rfl rfl (fun wA hbA hsA => ?_); have HBA2 := zh (HB1.out.later hbA); have HSA2 := zh hsA; have HXA2 := zh (HX1.out.below hbA HX1.out.lt); clear hbA hsA; (try simp only [Act.put, sA, sB, sC])) | (refine wl_more _ _ rfl rfl rfl HBA2.out.own (fun _ => rfl) rfl HSA2.out (one_oc _) (by simp; omega) (Nat.le_trans HH.out HBA2.out.fr.size) (fun vA w2 ho2 hg2 hv2 => ?_); obtain ⟨s2, c2, rfl, _⟩ := ho2.form; have HO2 := zh (show Own w2 W0.heap.size (.slice s2 (n + 1) c2) (n + 1) from ho2); have HG2 := zh hg2; have HV2 := zh hv2; have HL2 := zh (HBA2.out.mid (Below.refl _ _) hg2); have HXM2 := zh (lies_frT HXA2.out (HBA2.out.own.frT hg2) (by decide)); clear ho2 hg2 hv2; (try simp only [Act.put, sA, sB, sC])) | (refine wl_fld (c0 := [.slice s0 (n) c0']) HL2.out _ _ rfl rfl rfl rfl [.slice s2 (n + 1) c2] [.slice s2 (n + 1) c2] rfl siz_u8s (by intro u hu; obtain rfl := List.mem_singleton.1 hu; rfl) (by simp) rfl (fun w2 hl3 hf3 => ?_); have HB2 := zh (HBA2.out.put (Below.refl _ _) HO2.out HG2.out HV2.out hl3 hf3); have HX2 := zh (lies_frT HXM2.out (FrT.field HL2.out hf3) (by decide)); clear c0 x0 x1 x2 x3 x4; have c0 : w2.cell? ⟨B2, 0, none⟩ = some (.slice s2 (n + 1) c2) := HB2.out.lies.cell 0; have x0 : w2.cell? ⟨B3, 0, none⟩ = some (.int .u8 op.toNat) := HX2.out.cell 0; have x1 : w2.cell? ⟨B3, 1, none⟩ = some (.int .u32 a) := HX2.out.cell 1; have x2 : w2.cell? ⟨B3, 2, none⟩ = some (.int .u32 b) := HX2.out.cell 2; have x3 : w2.cell? ⟨B3, 3, none⟩ = some (.int .i64 c) := HX2.out.cell 3; have x4 : w2.cell? ⟨B3, 4, none⟩ = some (.slice sl ls.length cl) := HX2.out.cell 4; clear hl3 hf3; try simp only [Act.put]))
 refine (form_any op).mono ?_
 rintro en wz ⟨rfl, rfl⟩
 rcases HF.out with hf | hf | hf | hf | hf | hf | hf | hf | hf | hf
 all_goals rw [hf]; clear HF hf
 ·go_wp2_with fail
  go_ret
  exact ⟨_, rfl, _, HB2.out.own, by omega, HB2.out.out hB2, HB2.out.blk⟩
 ·go_wp2_with (first | (refine wl_b1 _ _ rfl rfl rfl (fun wA hbA hsA => ?_); have HBA3 := zh (HB2.out.later hbA); have HSA3 := zh hsA; have HXA3 := zh (HX2.out.below hbA HX2.out.lt); clear hbA hsA; (try simp only [Act.put, sA, sB, sC])) | (refine wl_more _ _ rfl rfl rfl HBA3.out.own (fun _ => rfl) rfl HSA3.out (one_oc _) (by simp; omega) (Nat.le_trans HH.out HBA3.out.fr.size) (fun vA w2 ho2 hg2 hv2 => ?_); obtain ⟨s3, c3, rfl, _⟩ := ho2.form; have HO3 := zh (show Own w2 W0.heap.size (.slice s3 (n + 1 + 1) c3) (n + 1 + 1) from ho2); have HG3 := zh hg2; have HV3 := zh hv2; have HL3 := zh (HBA3.out.mid (Below.refl _ _) hg2); have HXM3 := zh (lies_frT HXA3.out (HBA3.out.own.frT hg2) (by decide)); clear ho2 hg2 hv2; (try simp only [Act.put, sA, sB, sC])) | (refine wl_fld (c0 := [.slice s2 (n + 1) c2]) HL3.out _ _ rfl rfl rfl rfl [.slice s3 (n + 1 + 1) c3] [.slice s3 (n + 1 + 1) c3] rfl siz_u8s (by intro u hu; obtain rfl := List.mem_singleton.1 hu; rfl) (by simp) rfl (fun w3 hl3 hf3 => ?_); have HB3 := zh (HBA3.out.put (Below.refl _ _) HO3.out HG3.out HV3.out hl3 hf3); have HX3 := zh (lies_frT HXM3.out (FrT.field HL3.out hf3) (by decide)); clear c0 x0 x1 x2 x3 x4; have c0 : w3.cell? ⟨B2, 0, none⟩ = some (.slice s3 (n + 1 + 1) c3) := HB3.out.lies.cell 0; have x0 : w3.cell? ⟨B3, 0, none⟩ = some (.int .u8 op.toNat) := HX3.out.cell 0; have x1 : w3.cell? ⟨B3, 1, none⟩ = some (.int .u32 a) := HX3.out.cell 1; have x2 : w3.cell? ⟨B3, 2, none⟩ = some (.int .u32 b) := HX3.out.cell 2; have x3 : w3.cell? ⟨B3, 3, none⟩ = some (.int .i64 c) := HX3.out.cell 3; have x4 : w3.cell? ⟨B3, 4, none⟩ = some (.slice sl ls.length cl) := HX3.out.cell 4; clear hl3 hf3; try simp only [Act.put]))
  go_ret
  exact ⟨_, rfl, _, HB3.out.own, by omega, HB3.out.out hB2, HB3.out.blk⟩
 ·go_wp2_with fail
  refine (put1_any HB2.out.lies HB2.out.own (Nat.le_trans HH.out HB2.out.fr.size) (by omega) ha).mono ?_
  rintro en w3 ⟨rfl, v3, n3, hb3, hn3⟩
  obtain ⟨s3, c3, rfl, _⟩ := hb3.own.form
  have HX3 := zh (Buf.other HX2.out hb3 HB2.out.lies HB2.out.own (by decide) (by decide))
  have HB3 := zh (HB2.out.trans hb3)
  clear c0 x0 x1 x2 x3 x4
  have c0 : w3.cell? ⟨B2, 0, none⟩ = some (.slice s3 (n3) c3) := HB3.out.lies.cell 0
  have x0 : w3.cell? ⟨B3, 0, none⟩ = some (.int .u8 op.toNat) := HX3.out.cell 0
  have x1 : w3.cell? ⟨B3, 1, none⟩ = some (.int .u32 a) := HX3.out.cell 1
  have x2 : w3.cell? ⟨B3, 2, none⟩ = some (.int .u32 b) := HX3.out.cell 2
  have x3 : w3.cell? ⟨B3, 3, none⟩ = some (.int .i64 c) := HX3.out.cell 3
  have x4 : w3.cell? ⟨B3, 4, none⟩ = some (.slice sl ls.length cl) := HX3.out.cell 4
  clear hb3
  go_wp2_with fail
  go_ret
  exact ⟨_, rfl, _, HB3.out.own, by omega, HB3.out.out hB2, HB3.out.blk⟩
 ·go_wp2_with fail
  refine (put1_any HB2.out.lies HB2.out.own (Nat.le_trans HH.out HB2.out.fr.size) (by omega) (by omega)).mono ?_
  rintro en w3 ⟨rfl, v3, n3, hb3, hn3⟩
  obtain ⟨s3, c3, rfl, _⟩ := hb3.own.form
  have HX3 := zh (Buf.other HX2.out hb3 HB2.out.lies HB2.out.own (by decide) (by decide))
  have HB3 := zh (HB2.out.trans hb3)
  clear c0 x0 x1 x2 x3 x4
  have c0 : w3.cell? ⟨B2, 0, none⟩ = some (.slice s3 (n3) c3) := HB3.out.lies.cell 0
  have x0 : w3.cell? ⟨B3, 0, none⟩ = some (.int .u8 op.toNat) := HX3.out.cell 0
  have x1 : w3.cell? ⟨B3, 1, none⟩ = some (.int .u32 a) := HX3.out.cell 1
  have x2 : w3.cell? ⟨B3, 2, none⟩ = some (.int .u32 b) := HX3.out.cell 2
  have x3 : w3.cell? ⟨B3, 3, none⟩ = some (.int .i64 c) := HX3.out.cell 3
  have x4 : w3.cell? ⟨B3, 4, none⟩ = some (.slice sl ls.length cl) := HX3.out.cell 4
  clear hb3
  go_wp2_with fail
  clear c0 x0 x1 x2 x3 x4
  go_loopw [43] (fun i wr => ∃ j : Nat, j ≤ ls.length ∧ i = .int .i64 j ∧ ∃ v4 n4, Buf W wr W0.heap.size B2 (.slice s0 n c0') v4 n4 ∧ n4 ≤ n3 + 10 * j ∧ Lies wr B3 57 (Ins.cs ⟨op, a, b, c, .slice sl ls.length cl, ls⟩).toArray)
   (fun i _ => ls.length - (Lib.intOf i).toNat)
  case atStart => exact ⟨0, by omega, rfl, _, _, HB3.out, by omega, HX3.out⟩
  case round =>
   obtain ⟨j, hj, rfl, v4, n4, hB4, hn4, hX4⟩ := hrel
   obtain ⟨s4, c4, rfl, _⟩ := hB4.own.form
   have HB4 := zh hB4
   have HX4 := zh hX4
   clear hB4 hX4
   by_cases hlt : j < ls.length
   ·obtain ⟨y, hy⟩ : ∃ y, ls[j]? = some y := ⟨_, List.getElem?_eq_getElem hlt⟩
    have hyl : y < 4294967296 := HLT.out y (List.mem_of_getElem? hy)
    have hlt2 : (j : Int) < (ls.length : Int) := by omega
    obtain ⟨g, off, rfl, hg⟩ := HS.out (by intro e; simp [e] at hlt)
    have hcy := (HSL.out.later (HB0.out.trans (HB4.out.below' HB0.out HO.out hB2))).cell hy (j := 0) rfl
    rw [Nat.add_zero, Nat.mul_one] at hcy
    clear hy
    go_wp2_with fail
    clear hcy
    refine (put1_any HB4.out.lies HB4.out.own (Nat.le_trans HH.out HB4.out.fr.size) (by omega) hyl).mono ?_
    rintro en w5 ⟨rfl, v5, n5, hb5, hn5⟩
    obtain ⟨s5, c5, rfl, _⟩ := hb5.own.form
    have HX5 := zh (Buf.other HX4.out hb5 HB4.out.lies HB4.out.own (by decide) (by decide))
    have HB5 := zh (HB4.out.trans hb5)
    have c0 : w5.cell? ⟨B2, 0, none⟩ = some (.slice s5 (n5) c5) := HB5.out.lies.cell 0
    have x0 : w5.cell? ⟨B3, 0, none⟩ = some (.int .u8 op.toNat) := HX5.out.cell 0
    have x1 : w5.cell? ⟨B3, 1, none⟩ = some (.int .u32 a) := HX5.out.cell 1
    have x2 : w5.cell? ⟨B3, 2, none⟩ = some (.int .u32 b) := HX5.out.cell 2
    have x3 : w5.cell? ⟨B3, 3, none⟩ = some (.int .i64 c) := HX5.out.cell 3
    have x4 : w5.cell? ⟨B3, 4, none⟩ = some (.slice (some ⟨g, off, none⟩) ls.length cl) := HX5.out.cell 4
    clear hb5
    clear c0 x0 x1 x2 x3 x4
    go_wp2_with fail
    exact ⟨⟨j + 1, by omega, by go_num, _, _, HB5.out, by omega, HX5.out⟩, by simp [Lib.intOf]; omega⟩
   ·obtain rfl : j = ls.length := by omega
    have c0 : wr.cell? ⟨B2, 0, none⟩ = some (.slice s4 (n4) c4) := HB4.out.lies.cell 0
    have x0 : wr.cell? ⟨B3, 0, none⟩ = some (.int .u8 op.toNat) := HX4.out.cell 0
    have x1 : wr.cell? ⟨B3, 1, none⟩ = some (.int .u32 a) := HX4.out.cell 1
    have x2 : wr.cell? ⟨B3, 2, none⟩ = some (.int .u32 b) := HX4.out.cell 2
    have x3 : wr.cell? ⟨B3, 3, none⟩ = some (.int .i64 c) := HX4.out.cell 3
    have x4 : wr.cell? ⟨B3, 4, none⟩ = some (.slice sl ls.length cl) := HX4.out.cell 4
    go_wp2_with fail
    refine (put1_any HB4.out.lies HB4.out.own (Nat.le_trans HH.out HB4.out.fr.size) (by omega) ha).mono ?_
    rintro en w5 ⟨rfl, v5, n5, hb5, hn5⟩
    obtain ⟨s5, c5, rfl, _⟩ := hb5.own.form
    have HX5 := zh (Buf.other HX4.out hb5 HB4.out.lies HB4.out.own (by decide) (by decide))
    have HB5 := zh (HB4.out.trans hb5)
    clear c0 x0 x1 x2 x3 x4
    have c0 : w5.cell? ⟨B2, 0, none⟩ = some (.slice s5 (n5) c5) := HB5.out.lies.cell 0
    have x0 : w5.cell? ⟨B3, 0, none⟩ = some (.int .u8 op.toNat) := HX5.out.cell 0
    have x1 : w5.cell? ⟨B3, 1, none⟩ = some (.int .u32 a) := HX5.out.cell 1
    have x2 : w5.cell? ⟨B3, 2, none⟩ = some (.int .u32 b) := HX5.out.cell 2
    have x3 : w5.cell? ⟨B3, 3, none⟩ = some (.int .i64 c) := HX5.out.cell 3
    have x4 : w5.cell? ⟨B3, 4, none⟩ = some (.slice sl ls.length cl) := HX5.out.cell 4
    clear hb5
    go_wp2_with fail
    go_ret
    exact ⟨_, rfl, _, HB5.out.own, by omega, HB5.out.out hB2, HB5.out.blk⟩
 ·go_wp2_with fail
  refine (put1_any HB2.out.lies HB2.out.own (Nat.le_trans HH.out HB2.out.fr.size) (by omega) ha).mono ?_
  rintro en w3 ⟨rfl, v3, n3, hb3, hn3⟩
  obtain ⟨s3, c3, rfl, _⟩ := hb3.own.form
  have HX3 := zh (Buf.other HX2.out hb3 HB2.out.lies HB2.out.own (by decide) (by decide))
  have HB3 := zh (HB2.out.trans hb3)
  clear c0 x0 x1 x2 x3 x4
  have c0 : w3.cell? ⟨B2, 0, none⟩ = some (.slice s3 (n3) c3) := HB3.out.lies.cell 0
  have x0 : w3.cell? ⟨B3, 0, none⟩ = some (.int .u8 op.toNat) := HX3.out.cell 0
  have x1 : w3.cell? ⟨B3, 1, none⟩ = some (.int .u32 a) := HX3.out.cell 1
  have x2 : w3.cell? ⟨B3, 2, none⟩ = some (.int .u32 b) := HX3.out.cell 2
  have x3 : w3.cell? ⟨B3, 3, none⟩ = some (.int .i64 c) := HX3.out.cell 3
  have x4 : w3.cell? ⟨B3, 4, none⟩ = some (.slice sl ls.length cl) := HX3.out.cell 4
  clear hb3
  go_wp2_with fail
  go_ret
  exact ⟨_, rfl, _, HB3.out.own, by omega, HB3.out.out hB2, HB3.out.blk⟩
 ·go_wp2_with fail
  refine (put1_any HB2.out.lies HB2.out.own (Nat.le_trans HH.out HB2.out.fr.size) (by omega) ha).mono ?_
  rintro en w3 ⟨rfl, v3, n3, hb3, hn3⟩
  obtain ⟨s3, c3, rfl, _⟩ := hb3.own.form
  have HX3 := zh (Buf.other HX2.out hb3 HB2.out.lies HB2.out.own (by decide) (by decide))
  have HB3 := zh (HB2.out.trans hb3)
  clear c0 x0 x1 x2 x3 x4
  have c0 : w3.cell? ⟨B2, 0, none⟩ = some (.slice s3 (n3) c3) := HB3.out.lies.cell 0
  have x0 : w3.cell? ⟨B3, 0, none⟩ = some (.int .u8 op.toNat) := HX3.out.cell 0
  have x1 : w3.cell? ⟨B3, 1, none⟩ = some (.int .u32 a) := HX3.out.cell 1
  have x2 : w3.cell? ⟨B3, 2, none⟩ = some (.int .u32 b) := HX3.out.cell 2
  have x3 : w3.cell? ⟨B3, 3, none⟩ = some (.int .i64 c) := HX3.out.cell 3
  have x4 : w3.cell? ⟨B3, 4, none⟩ = some (.slice sl ls.length cl) := HX3.out.cell 4
  clear hb3
  go_wp2_with (first | (refine wl_b1 _ _ rfl rfl rfl (fun wA hbA hsA => ?_); have HBA4 := zh (HB3.out.later hbA); have HSA4 := zh hsA; have HXA4 := zh (HX3.out.below hbA HX3.out.lt); clear hbA hsA; (try simp only [Act.put, sA, sB, sC])) | (refine wl_more _ _ rfl rfl rfl HBA4.out.own (fun _ => rfl) rfl HSA4.out (one_oc _) (by simp; omega) (Nat.le_trans HH.out HBA4.out.fr.size) (fun vA w2 ho2 hg2 hv2 => ?_); obtain ⟨s4, c4, rfl, _⟩ := ho2.form; have HO4 := zh (show Own w2 W0.heap.size (.slice s4 (n3 + 1) c4) (n3 + 1) from ho2); have HG4 := zh hg2; have HV4 := zh hv2; have HL4 := zh (HBA4.out.mid (Below.refl _ _) hg2); have HXM4 := zh (lies_frT HXA4.out (HBA4.out.own.frT hg2) (by decide)); clear ho2 hg2 hv2; (try simp only [Act.put, sA, sB, sC])) | (refine wl_fld (c0 := [.slice s3 (n3) c3]) HL4.out _ _ rfl rfl rfl rfl [.slice s4 (n3 + 1) c4] [.slice s4 (n3 + 1) c4] rfl siz_u8s (by intro u hu; obtain rfl := List.mem_singleton.1 hu; rfl) (by simp) rfl (fun w4 hl3 hf3 => ?_); have HB4 := zh (HBA4.out.put (Below.refl _ _) HO4.out HG4.out HV4.out hl3 hf3); have HX4 := zh (lies_frT HXM4.out (FrT.field HL4.out hf3) (by decide)); clear c0 x0 x1 x2 x3 x4; have c0 : w4.cell? ⟨B2, 0, none⟩ = some (.slice s4 (n3 + 1) c4) := HB4.out.lies.cell 0; have x0 : w4.cell? ⟨B3, 0, none⟩ = some (.int .u8 op.toNat) := HX4.out.cell 0; have x1 : w4.cell? ⟨B3, 1, none⟩ = some (.int .u32 a) := HX4.out.cell 1; have x2 : w4.cell? ⟨B3, 2, none⟩ = some (.int .u32 b) := HX4.out.cell 2; have x3 : w4.cell? ⟨B3, 3, none⟩ = some (.int .i64 c) := HX4.out.cell 3; have x4 : w4.cell? ⟨B3, 4, none⟩ = some (.slice sl ls.length cl) := HX4.out.cell 4; clear hl3 hf3; try simp only [Act.put]))
  go_ret
  exact ⟨_, rfl, _, HB4.out.own, by omega, HB4.out.out hB2, HB4.out.blk⟩
 ·go_wp2_with fail
  refine (put1_any HB2.out.lies HB2.out.own (Nat.le_trans HH.out HB2.out.fr.size) (by omega) ha).mono ?_
  rintro en w3 ⟨rfl, v3, n3, hb3, hn3⟩
  obtain ⟨s3, c3, rfl, _⟩ := hb3.own.form
  have HX3 := zh (Buf.other HX2.out hb3 HB2.out.lies HB2.out.own (by decide) (by decide))
  have HB3 := zh (HB2.out.trans hb3)
  clear c0 x0 x1 x2 x3 x4
  have c0 : w3.cell? ⟨B2, 0, none⟩ = some (.slice s3 (n3) c3) := HB3.out.lies.cell 0
  have x0 : w3.cell? ⟨B3, 0, none⟩ = some (.int .u8 op.toNat) := HX3.out.cell 0
  have x1 : w3.cell? ⟨B3, 1, none⟩ = some (.int .u32 a) := HX3.out.cell 1
  have x2 : w3.cell? ⟨B3, 2, none⟩ = some (.int .u32 b) := HX3.out.cell 2
  have x3 : w3.cell? ⟨B3, 3, none⟩ = some (.int .i64 c) := HX3.out.cell 3
  have x4 : w3.cell? ⟨B3, 4, none⟩ = some (.slice sl ls.length cl) := HX3.out.cell 4
  clear hb3
  go_wp2_with fail
  refine (put1_any HB3.out.lies HB3.out.own (Nat.le_trans HH.out HB3.out.fr.size) (by omega) hb).mono ?_
  rintro en w4 ⟨rfl, v4, n4, hb4, hn4⟩
  obtain ⟨s4, c4, rfl, _⟩ := hb4.own.form
  have HX4 := zh (Buf.other HX3.out hb4 HB3.out.lies HB3.out.own (by decide) (by decide))
  have HB4 := zh (HB3.out.trans hb4)
  clear c0 x0 x1 x2 x3 x4
  have c0 : w4.cell? ⟨B2, 0, none⟩ = some (.slice s4 (n4) c4) := HB4.out.lies.cell 0
  have x0 : w4.cell? ⟨B3, 0, none⟩ = some (.int .u8 op.toNat) := HX4.out.cell 0
  have x1 : w4.cell? ⟨B3, 1, none⟩ = some (.int .u32 a) := HX4.out.cell 1
  have x2 : w4.cell? ⟨B3, 2, none⟩ = some (.int .u32 b) := HX4.out.cell 2
  have x3 : w4.cell? ⟨B3, 3, none⟩ = some (.int .i64 c) := HX4.out.cell 3
  have x4 : w4.cell? ⟨B3, 4, none⟩ = some (.slice sl ls.length cl) := HX4.out.cell 4
  clear hb4
  go_wp2_with fail
  go_ret
  exact ⟨_, rfl, _, HB4.out.own, by omega, HB4.out.out hB2, HB4.out.blk⟩
 ·go_wp2_with (first | (refine wl_b1 _ _ rfl rfl rfl (fun wA hbA hsA => ?_); have HBA3 := zh (HB2.out.later hbA); have HSA3 := zh hsA; have HXA3 := zh (HX2.out.below hbA HX2.out.lt); clear hbA hsA; (try simp only [Act.put, sA, sB, sC])) | (refine wl_more _ _ rfl rfl rfl HBA3.out.own (fun _ => rfl) rfl HSA3.out (one_oc _) (by simp; omega) (Nat.le_trans HH.out HBA3.out.fr.size) (fun vA w2 ho2 hg2 hv2 => ?_); obtain ⟨s3, c3, rfl, _⟩ := ho2.form; have HO3 := zh (show Own w2 W0.heap.size (.slice s3 (n + 1 + 1) c3) (n + 1 + 1) from ho2); have HG3 := zh hg2; have HV3 := zh hv2; have HL3 := zh (HBA3.out.mid (Below.refl _ _) hg2); have HXM3 := zh (lies_frT HXA3.out (HBA3.out.own.frT hg2) (by decide)); clear ho2 hg2 hv2; (try simp only [Act.put, sA, sB, sC])) | (refine wl_fld (c0 := [.slice s2 (n + 1) c2]) HL3.out _ _ rfl rfl rfl rfl [.slice s3 (n + 1 + 1) c3] [.slice s3 (n + 1 + 1) c3] rfl siz_u8s (by intro u hu; obtain rfl := List.mem_singleton.1 hu; rfl) (by simp) rfl (fun w3 hl3 hf3 => ?_); have HB3 := zh (HBA3.out.put (Below.refl _ _) HO3.out HG3.out HV3.out hl3 hf3); have HX3 := zh (lies_frT HXM3.out (FrT.field HL3.out hf3) (by decide)); clear c0 x0 x1 x2 x3 x4; have c0 : w3.cell? ⟨B2, 0, none⟩ = some (.slice s3 (n + 1 + 1) c3) := HB3.out.lies.cell 0; have x0 : w3.cell? ⟨B3, 0, none⟩ = some (.int .u8 op.toNat) := HX3.out.cell 0; have x1 : w3.cell? ⟨B3, 1, none⟩ = some (.int .u32 a) := HX3.out.cell 1; have x2 : w3.cell? ⟨B3, 2, none⟩ = some (.int .u32 b) := HX3.out.cell 2; have x3 : w3.cell? ⟨B3, 3, none⟩ = some (.int .i64 c) := HX3.out.cell 3; have x4 : w3.cell? ⟨B3, 4, none⟩ = some (.slice sl ls.length cl) := HX3.out.cell 4; clear hl3 hf3; try simp only [Act.put]))
  go_ret
  exact ⟨_, rfl, _, HB3.out.own, by omega, HB3.out.out hB2, HB3.out.blk⟩
 ·go_wp2_with fail
  have hd := below_drew wz
  have HBV := zh (HB2.out.later hd)
  have HXV := zh (HX2.out.below hd HX2.out.lt)
  clear hd c0 x0 x1 x2 x3 x4
  refine wp_region_t [(1, 1), (2, 1), (0, 2), (3, 0), (4, 0), (5, 0)] (fun w' => w'.cell? ⟨B3, 3, none⟩ = some (.int .i64 c)) [(5, fun w' => w'.cell? ⟨B2, 0, none⟩ = some (.slice s2 (n + 1) c2))] [5] rfl (by kernel_rfl) (by kernel_rfl) (fun _ _ d _ _ h => by cases d <;> exact h) (HXV.out.cell 3) (fun p hp => by obtain rfl := List.mem_singleton.1 hp; exact HBV.out.lies.cell 0) ?_
  generalize wz.drew = V at HBV HXV ⊢
  repeat (first | (refine ts_take2 (v := ?_) rfl rfl (fun w' _ hs' => ?_) ?_; rotate_left; (focus (have q0 := hs'.one rfl; clear hs'; (try simp only [Act.put, sA, sB, sC]); go_simp; (try go_bits); (try (with_reducible rfl)))); (try simp only [Act.put, sA, sB, sC])) | (refine ts_take (v := ?_) rfl rfl (fun w' hw' => ?_) ?_; rotate_left; (focus (have q0 := hw'; clear hw'; (try simp only [Act.put, sA, sB, sC]); go_simp; (try go_bits); (try (with_reducible rfl)))); (try simp only [Act.put, sA, sB, sC])))
  refine ts_run1 rfl rfl (fun K hK => ?_)
  go_simp
  refine (apps_any hc1 hc2).mono ?_
  rintro en w4 ⟨u, rfl, k, ho1, hk, hb1⟩
  have HB4 := zh (HBV.out.later hb1)
  have HX4 := zh (HXV.out.below hb1 HXV.out.lt)
  obtain ⟨L, rfl, hsl, hone⟩ := ho1.sl
  have HSL4 := zh hsl
  have HONE := zh hone
  refine hK.out _ _ (HX4.out.cell 3) (still_one (.inr (HB4.out.lies.cell 0))) ?_
  clear hK K ho1 hb1 HBV HXV hsl hone
  (try simp only [Act.put, sA, sB, sC])
  refine ts_run1 rfl rfl (fun K hK => ?_)
  refine wp_more _ _ rfl rfl HB4.out.own (fun _ => rfl) rfl HSL4.out HONE.out (by omega) (Nat.le_trans HH.out HB4.out.fr.size) (fun v5 w5 ho2 hg2 hv2 => ?_)
  obtain ⟨s5, c5, rfl, _⟩ := ho2.form
  have HO5 := zh ho2
  have HG5 := zh hg2
  have HV5 := zh hv2
  have HL5 := zh (HB4.out.mid (Below.refl _ _) hg2)
  have HX5 := zh (lies_frT HX4.out (HB4.out.own.frT hg2) (by decide))
  refine hK.out _ _ (HX5.out.cell 3) (still_one (.inr (HL5.out.cell 0))) ?_
  clear hK K ho2 hg2 hv2
  (try simp only [Act.put, sA, sB, sC])
  refine ts_run1 rfl rfl (fun K hK => ?_)
  refine wp_fld (c0 := [.slice s2 (n + 1) c2]) HL5.out _ _ rfl rfl rfl [.slice s5 _ c5] [.slice s5 _ c5] rfl siz_u8s (by intro u hu; obtain rfl := List.mem_singleton.1 hu; rfl) (by simp) rfl (fun w6 hl3 hf3 => ?_)
  have HB6 := zh (HB4.out.put (Below.refl _ _) HO5.out HG5.out HV5.out hl3 hf3)
  have HX6 := zh (lies_frT HX5.out (FrT.field HL5.out hf3) (by decide))
  have c6 := HB6.out.lies.cell 0
  refine hK.out _ _ (HX6.out.cell 3) (still_one (.inl rfl)) ?_
  clear hK K hl3 hf3
  (try simp only [Act.put])
  refine ts_done ?_
  have c7 : w6.cell? ⟨B2, 0, none⟩ = some (.slice s5 (n + 1 + L.length) c5) := c6
  clear c6
  go_wp2_with fail
  go_ret
  exact ⟨_, rfl, _, HB6.out.own, by omega, HB6.out.out hB2, HB6.out.blk⟩
 ·go_wp2_with fail
  have hd := below_drew wz
  have HBV := zh (HB2.out.later hd)
  have HXV := zh (HX2.out.below hd HX2.out.lt)
  clear hd c0 x0 x1 x2 x3 x4
  refine wp_region_t [(1, 1), (2, 1), (0, 2), (3, 0), (4, 0), (5, 0)] (fun w' => w'.cell? ⟨B3, 3, none⟩ = some (.int .i64 c)) [(5, fun w' => w'.cell? ⟨B2, 0, none⟩ = some (.slice s2 (n + 1) c2))] [5] rfl (by kernel_rfl) (by kernel_rfl) (fun _ _ d _ _ h => by cases d <;> exact h) (HXV.out.cell 3) (fun p hp => by obtain rfl := List.mem_singleton.1 hp; exact HBV.out.lies.cell 0) ?_
  generalize wz.drew = V at HBV HXV ⊢
  repeat (first | (refine ts_take2 (v := ?_) rfl rfl (fun w' _ hs' => ?_) ?_; rotate_left; (focus (have q0 := hs'.one rfl; clear hs'; (try simp only [Act.put, sA, sB, sC]); go_simp; (try go_bits); (try (with_reducible rfl)))); (try simp only [Act.put, sA, sB, sC])) | (refine ts_take (v := ?_) rfl rfl (fun w' hw' => ?_) ?_; rotate_left; (focus (have q0 := hw'; clear hw'; (try simp only [Act.put, sA, sB, sC]); go_simp; (try go_bits); (try (with_reducible rfl)))); (try simp only [Act.put, sA, sB, sC])))
  refine ts_run1 rfl rfl (fun K hK => ?_)
  go_simp
  refine (apps_any hc1 hc2).mono ?_
  rintro en w4 ⟨u, rfl, k, ho1, hk, hb1⟩
  have HB4 := zh (HBV.out.later hb1)
  have HX4 := zh (HXV.out.below hb1 HXV.out.lt)
  obtain ⟨L, rfl, hsl, hone⟩ := ho1.sl
  have HSL4 := zh hsl
  have HONE := zh hone
  refine hK.out _ _ (HX4.out.cell 3) (still_one (.inr (HB4.out.lies.cell 0))) ?_
  clear hK K ho1 hb1 HBV HXV hsl hone
  (try simp only [Act.put, sA, sB, sC])
  refine ts_run1 rfl rfl (fun K hK => ?_)
  refine wp_more _ _ rfl rfl HB4.out.own (fun _ => rfl) rfl HSL4.out HONE.out (by omega) (Nat.le_trans HH.out HB4.out.fr.size) (fun v5 w5 ho2 hg2 hv2 => ?_)
  obtain ⟨s5, c5, rfl, _⟩ := ho2.form
  have HO5 := zh ho2
  have HG5 := zh hg2
  have HV5 := zh hv2
  have HL5 := zh (HB4.out.mid (Below.refl _ _) hg2)
  have HX5 := zh (lies_frT HX4.out (HB4.out.own.frT hg2) (by decide))
  refine hK.out _ _ (HX5.out.cell 3) (still_one (.inr (HL5.out.cell 0))) ?_
  clear hK K ho2 hg2 hv2
  (try simp only [Act.put, sA, sB, sC])
  refine ts_run1 rfl rfl (fun K hK => ?_)
  refine wp_fld (c0 := [.slice s2 (n + 1) c2]) HL5.out _ _ rfl rfl rfl [.slice s5 _ c5] [.slice s5 _ c5] rfl siz_u8s (by intro u hu; obtain rfl := List.mem_singleton.1 hu; rfl) (by simp) rfl (fun w6 hl3 hf3 => ?_)
  have HB6 := zh (HB4.out.put (Below.refl _ _) HO5.out HG5.out HV5.out hl3 hf3)
  have HX6 := zh (lies_frT HX5.out (FrT.field HL5.out hf3) (by decide))
  have c6 := HB6.out.lies.cell 0
  refine hK.out _ _ (HX6.out.cell 3) (still_one (.inl rfl)) ?_
  clear hK K hl3 hf3
  (try simp only [Act.put])
  refine ts_done ?_
  have c7 : w6.cell? ⟨B2, 0, none⟩ = some (.slice s5 (n + 1 + L.length) c5) := c6
  clear c6
  go_wp2_with fail
  go_ret
  exact ⟨_, rfl, _, HB6.out.own, by omega, HB6.out.out hB2, HB6.out.blk⟩
end Go.Proofs.YtmgjcaikldeioaaGreat.Ty
