/- The statement RuleOffers: for every input the call returns true (what is offered is the document's, by numbers and by names) and each argument reads behind it as it did: the row. Conditions: none beyond the row's own. -/
import Derived.Test.YtmgjcaikldeioaaGreatZRm
import Derived.Test.YtmgjcaikldeioaaGreatZRw
import Derived.Test.YtmgjcaikldeioaaGreatZRwW
namespace Go.Proofs.YtmgjcaikldeioaaGreat.Ru
open Go Go.RowKit Go.Lib Kt Fm Gr Ty Va

theorem oneModR {w : World} {m : Mod} (h : ModOk w m) : (m.cs.toArray.all (·.oneCell')) = true := by
  obtain ⟨s0, c0, e0, _⟩ := h.1.1.form
  obtain ⟨s1, c1, e1, _⟩ := h.2.1.1.form
  obtain ⟨s2, c2, e2, _⟩ := h.2.2.1.1.form
  obtain ⟨s3, c3, e3, _⟩ := h.2.2.2.1.1.form
  obtain ⟨s4, c4, e4, _⟩ := h.2.2.2.2.1.1.form
  obtain ⟨s5, c5, e5, _⟩ := h.2.2.2.2.2.1.1.form
  obtain ⟨s6, c6, e6, _⟩ := h.2.2.2.2.2.2.1.1.form
  obtain ⟨s9, c9, e9, _⟩ := h.2.2.2.2.2.2.2.2.1.1.form
  obtain ⟨s10, c10, e10, _⟩ := h.2.2.2.2.2.2.2.2.2.1.1.form
  obtain ⟨s11, c11, e11, _⟩ := h.2.2.2.2.2.2.2.2.2.2.1.form
  simp [Mod.cs, e0, e1, e2, e3, e4, e5, e6, e9, e10, e11, Value.oneCell']
def mainB : ByteArray := ⟨#[109, 97, 105, 110]⟩
/-- A module as the chapter's rows have it. -/
def modR (tv p1 p2 iv : Value) (imps : List Imp) (fv mv : Value) (mems : List Lim) (ev : Value) (ix : Nat) (cv : Value) : Mod := ⟨tv, [⟨.slice none 0 0, [], .slice none 0 0, []⟩, ⟨p1, [126], .slice none 0 0, []⟩, ⟨p2, [127], .slice none 0 0, []⟩], iv, imps, fv, [0], .slice none 0 0, [], mv, mems, .slice none 0 0, [], ev, [⟨mainB, 0, ix⟩], false, 0, .slice none 0 0, [], cv, [⟨.slice none 0 0, [], .slice none 0 0, []⟩], .slice none 0 0, []⟩
def modZ : Mod := ⟨.slice none 0 0, [], .slice none 0 0, [], .slice none 0 0, [], .slice none 0 0, [], .slice none 0 0, [], .slice none 0 0, [], .slice none 0 0, [], false, 0, .slice none 0 0, [], .slice none 0 0, [], .slice none 0 0, []⟩
def impR (nm : ByteArray) (kind : UInt8) (ty : Nat) (mx : Int) : Imp := ⟨⟨#[101, 110, 118]⟩, nm, kind, ty, ⟨0, mx⟩, ⟨0, false⟩⟩
theorem modZ_ok (w : World) : ModOk w modZ := ⟨nil_ok, nil_ok, nil_ok, nil_ok, nil_ok, nil_ok, nil_ok, (by show (0 : Nat) < 4294967296; decide), nil_ok, nil_ok, nil_ok⟩
set_option maxRecDepth 100000 in
set_option maxHeartbeats 16000000 in
theorem least_any (W : World) : Calls Tryz.prog 25 #[] W fun e w' => (∃ tv p1 p2 fv ev cv, e = .returned (.agg (modR tv p1 p2 (.slice none 0 0) [] fv (.slice none 0 0) [] ev 0 cv).cs.toArray) ∧ ModOk w' (modR tv p1 p2 (.slice none 0 0) [] fv (.slice none 0 0) [] ev 0 cv)) ∧ Below W.heap.size W w' := by
  go_enter Tryz.func25, Tryz.ntmps25
  go_upto_region 1 with fail
  obtain ⟨w0, hw0⟩ : ∃ w0, w0 = W.alloc (.cells modZ.cs.toArray 33) := ⟨_, rfl⟩
  have HM0 := Lib.hid (show Lies w0 W.heap.size 33 modZ.cs.toArray from by rw [hw0]; exact Lies.new _ _ _)
  have HB0 := Lib.hid (show Below W.heap.size W w0 from by rw [hw0]; exact (Below.refl _ _).alloc (Nat.le_refl _) _)
  have HMB := Lib.hid (Nat.le_refl W.heap.size)
  rw [show (W.alloc (.cells #[.slice none 0 0, .slice none 0 0, .slice none 0 0, .slice none 0 0, .slice none 0 0, .slice none 0 0, .slice none 0 0, .bool false, .int .u32 0, .slice none 0 0, .slice none 0 0, .slice none 0 0] 33)) = w0 from hw0.symm]
  clear hw0
  go_wp2_with (first | (refine wl_bsN (e := 5) (d := 2) rfl rfl (u8c 126) rfl (fun w => by kernel_rfl) (fun w1 hb1 hl1 => ?_); obtain ⟨g1, hg1⟩ : ∃ g, g = w0.heap.size := ⟨_, rfl⟩; rw [← hg1] at hl1 ⊢; have HB1 := Lib.hid (bt HB0.out hb1); have HP1 := Lib.hid hl1; have HM1 := Lib.hid (HM0.out.below hb1 HM0.out.lt); clear hb1 hl1 hg1; (try simp only [Act.put, List.setIfInBounds_toArray, List.set_cons_zero, List.set_cons_succ])) | (refine wl_bsN (e := 5) (d := 4) rfl rfl (u8c 127) rfl (fun w => by kernel_rfl) (fun w2 hb2 hl2 => ?_); obtain ⟨g2, hg2⟩ : ∃ g, g = w1.heap.size := ⟨_, rfl⟩; rw [← hg2] at hl2 ⊢; have HB2 := Lib.hid (bt HB1.out hb2); have HQ2 := Lib.hid hl2; have HM2 := Lib.hid (HM1.out.below hb2 HM1.out.lt); have HP2 := Lib.hid (HP1.out.below hb2 HP1.out.lt); clear hb2 hl2 hg2; (try simp only [Act.put, List.setIfInBounds_toArray, List.set_cons_zero, List.set_cons_succ])) | (refine wl_bsN (e := 51) (d := 6) rfl rfl (([⟨.slice none 0 0, [], .slice none 0 0, []⟩, ⟨.slice (some ⟨g1, 0, none⟩) 1 1, [126], .slice none 0 0, []⟩, ⟨.slice (some ⟨g2, 0, none⟩) 1 1, [127], .slice none 0 0, []⟩] : List Ft).flatMap Ft.cs) rfl (fun w => by kernel_rfl) (fun w3 hb3 hl3 => ?_); obtain ⟨g3, hg3⟩ : ∃ g, g = w2.heap.size := ⟨_, rfl⟩; rw [← hg3] at hl3 ⊢; have HB3 := Lib.hid (bt HB2.out hb3); have HT3 := Lib.hid hl3; have HM3 := Lib.hid (HM2.out.below hb3 HM2.out.lt); have HP3 := Lib.hid (HP2.out.below hb3 HP2.out.lt); have HQ3 := Lib.hid (HQ2.out.below hb3 HQ2.out.lt); clear hb3 hl3 hg3; (try simp only [Act.put, List.setIfInBounds_toArray, List.set_cons_zero, List.set_cons_succ])) | (refine wl_bsN (e := 28) (d := 7) rfl rfl (u32c 0) rfl (fun w => by kernel_rfl) (fun w4 hb4 hl4 => ?_); obtain ⟨g4, hg4⟩ : ∃ g, g = w3.heap.size := ⟨_, rfl⟩; rw [← hg4] at hl4 ⊢; have HB4 := Lib.hid (bt HB3.out hb4); have HF4 := Lib.hid hl4; have HM4 := Lib.hid (HM3.out.below hb4 HM3.out.lt); have HP4 := Lib.hid (HP3.out.below hb4 HP3.out.lt); have HQ4 := Lib.hid (HQ3.out.below hb4 HQ3.out.lt); have HT4 := Lib.hid (HT3.out.below hb4 HT3.out.lt); clear hb4 hl4 hg4; (try simp only [Act.put, List.setIfInBounds_toArray, List.set_cons_zero, List.set_cons_succ])) | (refine wl_bsN (e := 48) (d := 9) rfl rfl (Cod.cs ⟨.slice none 0 0, [], .slice none 0 0, []⟩) rfl (fun w => by kernel_rfl) (fun w5 hb5 hl5 => ?_); obtain ⟨g5, hg5⟩ : ∃ g, g = w4.heap.size := ⟨_, rfl⟩; rw [← hg5] at hl5 ⊢; have HB5 := Lib.hid (bt HB4.out hb5); have HC5 := Lib.hid hl5; have HM5 := Lib.hid (HM4.out.below hb5 HM4.out.lt); have HP5 := Lib.hid (HP4.out.below hb5 HP4.out.lt); have HQ5 := Lib.hid (HQ4.out.below hb5 HQ4.out.lt); have HT5 := Lib.hid (HT4.out.below hb5 HT4.out.lt); have HF5 := Lib.hid (HF4.out.below hb5 HF4.out.lt); clear hb5 hl5 hg5; (try simp only [Act.put, List.setIfInBounds_toArray, List.set_cons_zero, List.set_cons_succ])) | (refine wl_bsN (e := 61) (d := 11) rfl rfl (Exp.cs ⟨mainB, 0, 0⟩) rfl (fun w => by kernel_rfl) (fun w6 hb6 hl6 => ?_); obtain ⟨g6, hg6⟩ : ∃ g, g = w5.heap.size := ⟨_, rfl⟩; rw [← hg6] at hl6 ⊢; have HB6 := Lib.hid (bt HB5.out hb6); have HE6 := Lib.hid hl6; have HM6 := Lib.hid (HM5.out.below hb6 HM5.out.lt); have HP6 := Lib.hid (HP5.out.below hb6 HP5.out.lt); have HQ6 := Lib.hid (HQ5.out.below hb6 HQ5.out.lt); have HT6 := Lib.hid (HT5.out.below hb6 HT5.out.lt); have HF6 := Lib.hid (HF5.out.below hb6 HF5.out.lt); have HC6 := Lib.hid (HC5.out.below hb6 HC5.out.lt); clear hb6 hl6 hg6; (try simp only [Act.put, List.setIfInBounds_toArray, List.set_cons_zero, List.set_cons_succ])) | (refine wl_put HM6.out (modR (.slice (some ⟨g3, 0, none⟩) 3 3) (.slice (some ⟨g1, 0, none⟩) 1 1) (.slice (some ⟨g2, 0, none⟩) 1 1) (.slice none 0 0) [] (.slice (some ⟨g4, 0, none⟩) 1 1) (.slice none 0 0) [] (.slice (some ⟨g6, 0, none⟩) 1 1) 0 (.slice (some ⟨g5, 0, none⟩) 1 1)).cs _ _ rfl rfl rfl rfl rfl sizeMod (by simp [modR, Mod.cs, Value.oneCell']) (fun w7 hl7 hf7 => ?_); have HB7 := Lib.hid (HB6.out.trans (hf7.below HB6.out.size (fun k hk => by rw [hk]; exact HMB.out))); have HP7 := Lib.hid (lies_frT HP6.out (FrT.field HM6.out hf7) (by decide)); have HQ7 := Lib.hid (lies_frT HQ6.out (FrT.field HM6.out hf7) (by decide)); have HT7 := Lib.hid (lies_frT HT6.out (FrT.field HM6.out hf7) (by decide)); have HF7 := Lib.hid (lies_frT HF6.out (FrT.field HM6.out hf7) (by decide)); have HC7 := Lib.hid (lies_frT HC6.out (FrT.field HM6.out hf7) (by decide)); have HE7 := Lib.hid (lies_frT HE6.out (FrT.field HM6.out hf7) (by decide)); have HM7 := Lib.hid hl7; clear hl7 hf7; (try simp only [Act.put])))
  (try simp only [Exit.inBlock, Exit.then])
  refine bodyPost_ret_by (results_c rfl _ _ W.heap.size (modR (.slice (some ⟨g3, 0, none⟩) 3 3) (.slice (some ⟨g1, 0, none⟩) 1 1) (.slice (some ⟨g2, 0, none⟩) 1 1) (.slice none 0 0) [] (.slice (some ⟨g4, 0, none⟩) 1 1) (.slice none 0 0) [] (.slice (some ⟨g6, 0, none⟩) 1 1) 0 (.slice (some ⟨g5, 0, none⟩) 1 1)).cs _ rfl HM7.out Tryz.underlying33 rfl sizeMod) rfl ⟨⟨_, _, _, _, _, _, rfl, ?_⟩, HB7.out⟩
  refine ⟨⟨sl_many (L := ([⟨.slice none 0 0, [], .slice none 0 0, []⟩, ⟨.slice (some ⟨g1, 0, none⟩) 1 1, [126], .slice none 0 0, []⟩, ⟨.slice (some ⟨g2, 0, none⟩) 1 1, [127], .slice none 0 0, []⟩] : List Ft)) Ft.len HT7.out, fun y hy => ?_, (by show (3 : Nat) ≤ 1048576; decide)⟩, nil_ok, ⟨sl_one (x := (0 : Nat)) (en := u32c) HF7.out, fun y hy => ?_, (by show (1 : Nat) ≤ 1048576; decide)⟩, nil_ok, nil_ok, nil_ok, ⟨sl_one (x := (⟨mainB, 0, 0⟩ : Exp)) (en := Exp.cs) HE7.out, fun y hy => ?_, (by show (1 : Nat) ≤ 1048576; decide)⟩, (by show (0 : Nat) < 4294967296; decide), nil_ok, ⟨sl_one (x := (⟨.slice none 0 0, [], .slice none 0 0, []⟩ : Cod)) (en := Cod.cs) HC7.out, fun y hy => ?_, (by show (1 : Nat) ≤ 1048576; decide)⟩, nil_ok⟩
  · rcases List.mem_cons.1 hy with rfl | hy
    · exact ⟨nil_ok, nil_ok⟩
    · rcases List.mem_cons.1 hy with rfl | hy
      · exact ⟨⟨sl_one (x := (126 : UInt8)) (en := u8c) HP7.out, fun _ _ => trivial, (by show (1 : Nat) ≤ 1048576; decide)⟩, nil_ok⟩
      · obtain rfl := List.mem_singleton.1 hy
        exact ⟨⟨sl_one (x := (127 : UInt8)) (en := u8c) HQ7.out, fun _ _ => trivial, (by show (1 : Nat) ≤ 1048576; decide)⟩, nil_ok⟩
  · obtain rfl := List.mem_singleton.1 hy
    show (0 : Nat) < 4294967296
    decide
  · obtain rfl := List.mem_singleton.1 hy
    exact ⟨by show (0 : Nat) < 4294967296; decide, by show (4 : Nat) ≤ 1048576; decide⟩
  · obtain rfl := List.mem_singleton.1 hy
    exact ⟨nil_ok, nil_ok⟩
theorem rk0 : rchk modZ = 121 := by kernel_rfl
theorem rk1 (tv p1 p2 iv fv mv ev cv : Value) : rchk (modR tv p1 p2 iv [] fv mv [] ev 0 cv) = 0 := by kernel_rfl
theorem rk2 (tv p1 p2 iv fv mv ev cv : Value) : rchk (modR tv p1 p2 iv [impR ⟨#[99, 97, 108, 108, 101, 114]⟩ 0 1 0] fv mv [] ev 1 cv) = 120 := by kernel_rfl
theorem rk3 (tv p1 p2 iv fv mv ev cv : Value) : rchk (modR tv p1 p2 iv [impR ⟨#[115, 101, 110, 100, 101, 114]⟩ 0 2 0] fv mv [] ev 1 cv) = 120 := by kernel_rfl
theorem rk4 (tv p1 p2 iv fv mv ev cv : Value) : rchk (modR tv p1 p2 iv [impR ⟨#[99, 97, 108, 108, 101, 114]⟩ 2 0 (-1)] fv mv [] ev 0 cv) = 120 := by kernel_rfl
theorem rk5 (tv p1 p2 iv fv mv ev cv : Value) : rchk (modR tv p1 p2 iv [] fv mv [⟨17, -1⟩] ev 0 cv) = 122 := by kernel_rfl
theorem fk1 : hfind [103, 97, 115, 95, 108, 101, 102, 116] = some 15 := by decide +kernel
theorem fk2 : hfind [109, 101, 116, 101, 114] = none := by decide +kernel
theorem modR_ok {w : World} {tv p1 p2 iv fv mv ev cv e0 : Value} {imps : List Imp} {mems : List Lim} {ix : Nat} (h : ModOk w (modR tv p1 p2 (.slice none 0 0) [] fv (.slice none 0 0) [] e0 0 cv)) (hi : Sl w 8 Imp.cs iv imps ∧ (∀ y ∈ imps, ImpOk w y) ∧ imps.length ≤ Bd) (hm : Sl w 2 Lim.cs mv mems ∧ (∀ y ∈ mems, LimOk w y) ∧ mems.length ≤ Bd) (he : Sl w 3 Exp.cs ev [⟨mainB, 0, ix⟩]) (hx : ix < 4294967296) : ModOk w (modR tv p1 p2 iv imps fv mv mems ev ix cv) :=
  ⟨h.1, hi, h.2.2.1, h.2.2.2.1, hm, h.2.2.2.2.2.1, ⟨he, fun y hy => (by obtain rfl := List.mem_singleton.1 hy; exact ⟨hx, (by show (4 : Nat) ≤ 1048576; decide)⟩), (by show (1 : Nat) ≤ 1048576; decide)⟩, h.2.2.2.2.2.2.2.1, h.2.2.2.2.2.2.2.2.1, h.2.2.2.2.2.2.2.2.2.1, h.2.2.2.2.2.2.2.2.2.2⟩
theorem imp1_ok {w : World} {g : Nat} {x : Imp} (h : Lies w g 88 x.cs.toArray) (hx : x.ty < 4294967296 ∧ x.lim.mn < 4294967296 ∧ x.mod.size ≤ Bd ∧ x.nm.size ≤ Bd) : Sl w 8 Imp.cs (.slice (some ⟨g, 0, none⟩) 1 1) [x] ∧ (∀ y ∈ [x], ImpOk w y) ∧ [x].length ≤ Bd :=
  ⟨sl_one h, fun y hy => (by obtain rfl := List.mem_singleton.1 hy; exact ⟨hx.1, hx.2.1, trivial, hx.2.2⟩), (by show (1 : Nat) ≤ 1048576; decide)⟩
set_option maxRecDepth 100000 in
set_option maxHeartbeats 16000000 in
theorem known_any (W : World) : Calls Tryz.prog 19 #[] W fun e w' => e = .returned (.bool true) ∧ Below W.heap.size W w' := by
  go_enter Tryz.func19, Tryz.ntmps19
  have HB0 := Lib.hid (Below.refl W.heap.size W)
  go_wp2_with fail
  refine (least_any _).mono ?_
  rintro en w1 ⟨⟨t1, p1, q1, f1, e1, c1, rfl, hm1⟩, hb1⟩
  have HB1 := Lib.hid (bt HB0.out hb1)
  have HM1 := Lib.hid hm1
  clear hm1 hb1
  go_wp2_with fail
  refine (least_any _).mono ?_
  rintro en w2 ⟨⟨t2, p2, q2, f2, e2, c2, rfl, hm2⟩, hb2⟩
  have HB2 := Lib.hid (bt HB1.out hb2)
  replace HM1 := Lib.hid (HM1.out.later hb2)
  have HM2 := Lib.hid hm2
  clear hm2 hb2
  go_wp2_with fail
  refine (least_any _).mono ?_
  rintro en w3 ⟨⟨t3, p3, q3, f3, e3, c3, rfl, hm3⟩, hb3⟩
  have HB3 := Lib.hid (bt HB2.out hb3)
  replace HM1 := Lib.hid (HM1.out.later hb3)
  replace HM2 := Lib.hid (HM2.out.later hb3)
  have HM3 := Lib.hid hm3
  clear hm3 hb3
  go_wp2_with fail
  refine (least_any _).mono ?_
  rintro en w4 ⟨⟨t4, p4, q4, f4, e4, c4, rfl, hm4⟩, hb4⟩
  have HB4 := Lib.hid (bt HB3.out hb4)
  replace HM1 := Lib.hid (HM1.out.later hb4)
  replace HM2 := Lib.hid (HM2.out.later hb4)
  replace HM3 := Lib.hid (HM3.out.later hb4)
  have HM4 := Lib.hid hm4
  clear hm4 hb4
  have HBU := Lib.hid (Nat.le_refl w4.heap.size)
  have HBB := Lib.hid HB4.out.size
  have hz1 : Lies (World.alloc (World.alloc (World.alloc (World.alloc w4 (Obj.cells modZ.cs.toArray 33)) (Obj.cells modZ.cs.toArray 33)) (Obj.cells modZ.cs.toArray 33)) (Obj.cells modZ.cs.toArray 33)) (w4.heap.size) 33 modZ.cs.toArray := by
    have h := (Lies.new w4 33 modZ.cs.toArray)
    exact (((h.alloc _).alloc _).alloc _)
  have hz2 : Lies (World.alloc (World.alloc (World.alloc (World.alloc w4 (Obj.cells modZ.cs.toArray 33)) (Obj.cells modZ.cs.toArray 33)) (Obj.cells modZ.cs.toArray 33)) (Obj.cells modZ.cs.toArray 33)) (w4.heap.size + 1) 33 modZ.cs.toArray := by
    have h := (Lies.new (World.alloc w4 (Obj.cells modZ.cs.toArray 33)) 33 modZ.cs.toArray)
    simp only [World.size_alloc] at h
    exact ((h.alloc _).alloc _)
  have hz3 : Lies (World.alloc (World.alloc (World.alloc (World.alloc w4 (Obj.cells modZ.cs.toArray 33)) (Obj.cells modZ.cs.toArray 33)) (Obj.cells modZ.cs.toArray 33)) (Obj.cells modZ.cs.toArray 33)) (w4.heap.size + 1 + 1) 33 modZ.cs.toArray := by
    have h := (Lies.new (World.alloc (World.alloc w4 (Obj.cells modZ.cs.toArray 33)) (Obj.cells modZ.cs.toArray 33)) 33 modZ.cs.toArray)
    simp only [World.size_alloc] at h
    exact (h.alloc _)
  have hz4 : Lies (World.alloc (World.alloc (World.alloc (World.alloc w4 (Obj.cells modZ.cs.toArray 33)) (Obj.cells modZ.cs.toArray 33)) (Obj.cells modZ.cs.toArray 33)) (Obj.cells modZ.cs.toArray 33)) (w4.heap.size + 1 + 1 + 1) 33 modZ.cs.toArray := by
    have h := (Lies.new (World.alloc (World.alloc (World.alloc w4 (Obj.cells modZ.cs.toArray 33)) (Obj.cells modZ.cs.toArray 33)) (Obj.cells modZ.cs.toArray 33)) 33 modZ.cs.toArray)
    simp only [World.size_alloc] at h
    exact h
  have hbz : Below w4.heap.size w4 (World.alloc (World.alloc (World.alloc (World.alloc w4 (Obj.cells modZ.cs.toArray 33)) (Obj.cells modZ.cs.toArray 33)) (Obj.cells modZ.cs.toArray 33)) (Obj.cells modZ.cs.toArray 33)) := ((((Below.refl _ _).alloc (Nat.le_refl _) _).alloc (by simp) _).alloc (by simp; omega) _).alloc (by simp; omega) _
  have HZB := Lib.hid hbz
  have HZ1 := Lib.hid hz1
  have HZ2 := Lib.hid hz2
  have HZ3 := Lib.hid hz3
  have HZ4 := Lib.hid hz4
  clear hz1 hz2 hz3 hz4 hbz
  obtain ⟨B, hB⟩ : ∃ B, B = w4.heap.size := ⟨_, rfl⟩
  rw [← hB] at HBU HBB
  have HBE := Lib.hid hB
  clear hB
  go_upto_region 3 with (first | (refine wl_put HZ1.out (modR t1 p1 q1 (.slice none 0 0) [] f1 (.slice none 0 0) [] (e1) 0 c1).cs _ _ rfl rfl rfl rfl rfl sizeMod (oneModR HM1.out) (fun w5 hl5 hf5 => ?_); have HB5 := Lib.hid (bt HB4.out (HZB.out.trans (hf5.below HZB.out.size (fun k hk => by omega)))); have HU5 := Lib.hid (HZB.out.trans (hf5.below HZB.out.size (fun k hk => by omega))); have X2_5 := Lib.hid (lies_fr HZ2.out hf5 (fun e => by omega)); have X3_5 := Lib.hid (lies_fr HZ3.out hf5 (fun e => by omega)); have X4_5 := Lib.hid (lies_fr HZ4.out hf5 (fun e => by omega)); have X1_5 := Lib.hid hl5; rw [← HBE.out] at X1_5 X2_5 X3_5 X4_5 ⊢; clear hl5 hf5; (try simp only [Act.put])) | (refine wl_put X2_5.out (modR t2 p2 q2 (.slice none 0 0) [] f2 (.slice none 0 0) [] (e2) 0 c2).cs _ _ rfl rfl rfl rfl rfl sizeMod (oneModR HM2.out) (fun w6 hl6 hf6 => ?_); have HB6 := Lib.hid (HB5.out.trans (hf6.below HB5.out.size (fun k hk => by have := HBB.out; omega))); have HU6 := Lib.hid (HU5.out.trans (hf6.below HU5.out.size (fun k hk => by have := HBE.out; omega))); have X1_6 := Lib.hid (lies_fr X1_5.out hf6 (fun e => by omega)); have X3_6 := Lib.hid (lies_fr X3_5.out hf6 (fun e => by omega)); have X4_6 := Lib.hid (lies_fr X4_5.out hf6 (fun e => by omega)); have X2_6 := Lib.hid hl6; clear hl6 hf6; (try simp only [Act.put])) | (refine wl_put X3_6.out (modR t3 p3 q3 (.slice none 0 0) [] f3 (.slice none 0 0) [] (e3) 0 c3).cs _ _ rfl rfl rfl rfl rfl sizeMod (oneModR HM3.out) (fun w7 hl7 hf7 => ?_); have HB7 := Lib.hid (HB6.out.trans (hf7.below HB6.out.size (fun k hk => by have := HBB.out; omega))); have HU7 := Lib.hid (HU6.out.trans (hf7.below HU6.out.size (fun k hk => by have := HBE.out; omega))); have X1_7 := Lib.hid (lies_fr X1_6.out hf7 (fun e => by omega)); have X2_7 := Lib.hid (lies_fr X2_6.out hf7 (fun e => by omega)); have X4_7 := Lib.hid (lies_fr X4_6.out hf7 (fun e => by omega)); have X3_7 := Lib.hid hl7; clear hl7 hf7; (try simp only [Act.put])) | (refine wl_put X4_7.out (modR t4 p4 q4 (.slice none 0 0) [] f4 (.slice none 0 0) [] (e4) 0 c4).cs _ _ rfl rfl rfl rfl rfl sizeMod (oneModR HM4.out) (fun w8 hl8 hf8 => ?_); have HB8 := Lib.hid (HB7.out.trans (hf8.below HB7.out.size (fun k hk => by have := HBB.out; omega))); have HU8 := Lib.hid (HU7.out.trans (hf8.below HU7.out.size (fun k hk => by have := HBE.out; omega))); have X1_8 := Lib.hid (lies_fr X1_7.out hf8 (fun e => by omega)); have X2_8 := Lib.hid (lies_fr X2_7.out hf8 (fun e => by omega)); have X3_8 := Lib.hid (lies_fr X3_7.out hf8 (fun e => by omega)); have X4_8 := Lib.hid hl8; clear hl8 hf8; (try simp only [Act.put])) | (refine wl_bsN (e := 88) (d := 14) rfl rfl (impR ⟨#[99, 97, 108, 108, 101, 114]⟩ 0 1 0).cs rfl (fun w => by kernel_rfl) (fun w9 hb9 hl9 => ?_); obtain ⟨ga, hg9⟩ : ∃ g, g = w8.heap.size := ⟨_, rfl⟩; rw [← hg9] at hl9 ⊢; have HB9 := Lib.hid (bt HB8.out hb9); have HU9 := Lib.hid (bt HU8.out hb9); have RI_9 := Lib.hid hl9; have X1_9 := Lib.hid (X1_8.out.below hb9 X1_8.out.lt); have X2_9 := Lib.hid (X2_8.out.below hb9 X2_8.out.lt); have X3_9 := Lib.hid (X3_8.out.below hb9 X3_8.out.lt); have X4_9 := Lib.hid (X4_8.out.below hb9 X4_8.out.lt); clear hb9 hl9 hg9; (try simp only [Act.put, List.setIfInBounds_toArray, List.set_cons_zero, List.set_cons_succ])) | (refine wl_bsN (e := 61) (d := 16) rfl rfl (Exp.cs ⟨mainB, 0, 1⟩) rfl (fun w => by kernel_rfl) (fun w10 hb10 hl10 => ?_); obtain ⟨gx, hg10⟩ : ∃ g, g = w9.heap.size := ⟨_, rfl⟩; rw [← hg10] at hl10 ⊢; have HB10 := Lib.hid (bt HB9.out hb10); have HU10 := Lib.hid (bt HU9.out hb10); have RX_10 := Lib.hid hl10; have X1_10 := Lib.hid (X1_9.out.below hb10 X1_9.out.lt); have X2_10 := Lib.hid (X2_9.out.below hb10 X2_9.out.lt); have X3_10 := Lib.hid (X3_9.out.below hb10 X3_9.out.lt); have X4_10 := Lib.hid (X4_9.out.below hb10 X4_9.out.lt); have RI_10 := Lib.hid (RI_9.out.below hb10 RI_9.out.lt); clear hb10 hl10 hg10; (try simp only [Act.put, List.setIfInBounds_toArray, List.set_cons_zero, List.set_cons_succ])) | (refine wl_fld (c0 := (modR t1 p1 q1 (.slice none 0 0) [] f1 (.slice none 0 0) [] (e1) 0 c1).cs) X1_10.out _ _ rfl rfl rfl rfl [.slice (some ⟨ga, 0, none⟩) 1 1] (modR t1 p1 q1 (.slice (some ⟨ga, 0, none⟩) 1 1) [(impR ⟨#[99, 97, 108, 108, 101, 114]⟩ 0 1 0)] f1 (.slice none 0 0) [] (e1) 0 c1).cs rfl (by kernel_rfl) (by intro u hu; obtain rfl := List.mem_singleton.1 hu; rfl) (by simp [modR, Mod.cs]) rfl (fun w11 hl11 hf11 => ?_); have HB11 := Lib.hid (HB10.out.trans (hf11.below HB10.out.size (fun k hk => by have := HBB.out; omega))); have HU11 := Lib.hid (HU10.out.trans (hf11.below HU10.out.size (fun k hk => by have := HBE.out; omega))); have X2_11 := Lib.hid (lies_fr X2_10.out hf11 (fun e => by omega)); have X3_11 := Lib.hid (lies_fr X3_10.out hf11 (fun e => by omega)); have X4_11 := Lib.hid (lies_fr X4_10.out hf11 (fun e => by omega)); have RI_11 := Lib.hid (lies_frT RI_10.out (FrT.field X1_10.out hf11) (by decide)); have RX_11 := Lib.hid (lies_frT RX_10.out (FrT.field X1_10.out hf11) (by decide)); have X1_11 := Lib.hid hl11; clear hl11 hf11; (try simp only [Act.put])) | (refine wl_fld (c0 := (modR t1 p1 q1 (.slice (some ⟨ga, 0, none⟩) 1 1) [(impR ⟨#[99, 97, 108, 108, 101, 114]⟩ 0 1 0)] f1 (.slice none 0 0) [] (e1) 0 c1).cs) X1_11.out _ _ rfl rfl rfl rfl [.slice (some ⟨gx, 0, none⟩) 1 1] (modR t1 p1 q1 (.slice (some ⟨ga, 0, none⟩) 1 1) [(impR ⟨#[99, 97, 108, 108, 101, 114]⟩ 0 1 0)] f1 (.slice none 0 0) [] (.slice (some ⟨gx, 0, none⟩) 1 1) 1 c1).cs rfl (by kernel_rfl) (by intro u hu; obtain rfl := List.mem_singleton.1 hu; rfl) (by simp [modR, Mod.cs]) rfl (fun w12 hl12 hf12 => ?_); have HB12 := Lib.hid (HB11.out.trans (hf12.below HB11.out.size (fun k hk => by have := HBB.out; omega))); have HU12 := Lib.hid (HU11.out.trans (hf12.below HU11.out.size (fun k hk => by have := HBE.out; omega))); have X2_12 := Lib.hid (lies_fr X2_11.out hf12 (fun e => by omega)); have X3_12 := Lib.hid (lies_fr X3_11.out hf12 (fun e => by omega)); have X4_12 := Lib.hid (lies_fr X4_11.out hf12 (fun e => by omega)); have RI_12 := Lib.hid (lies_frT RI_11.out (FrT.field X1_11.out hf12) (by decide)); have RX_12 := Lib.hid (lies_frT RX_11.out (FrT.field X1_11.out hf12) (by decide)); have X1_12 := Lib.hid hl12; clear hl12 hf12; (try simp only [Act.put])))
  have hd := below_drew w12
  have X1_13 := Lib.hid (X1_12.out.below hd X1_12.out.lt)
  have X2_13 := Lib.hid (X2_12.out.below hd X2_12.out.lt)
  have X3_13 := Lib.hid (X3_12.out.below hd X3_12.out.lt)
  have X4_13 := Lib.hid (X4_12.out.below hd X4_12.out.lt)
  have RI_13 := Lib.hid (RI_12.out.below hd RI_12.out.lt)
  have RX_13 := Lib.hid (RX_12.out.below hd RX_12.out.lt)
  have HB13 := Lib.hid (bt HB12.out hd)
  have HU13 := Lib.hid (bt HU12.out hd)
  refine wp_region_t [(0, 1), (2, 1), (3, 1), (1, 0), (4, 1), (5, 0), (6, 1), (7, 0)] (fun w' => w'.cell? ⟨B, 6, none⟩ = some (.slice (some ⟨gx, 0, none⟩) 1 1)) [] [] rfl (by kernel_rfl) (by kernel_rfl) (fun _ _ d _ _ h => by cases d <;> exact h) (X1_13.out.cell 6) (fun p hp => by cases hp) ?_
  clear hd
  generalize w12.drew = w13 at X1_13 X2_13 X3_13 X4_13 RI_13 RX_13 HB13 HU13 ⊢
  repeat (refine ts_take (v := ?_) rfl rfl (fun w' hw' => ?_) ?_; rotate_left; (focus (have q0 := hw'; (try simp only [Act.put, List.setIfInBounds_toArray, List.set_cons_zero, List.set_cons_succ]); go_simp; (try go_bits); (try (with_reducible rfl)))); (try simp only [Act.put, List.setIfInBounds_toArray, List.set_cons_zero, List.set_cons_succ]))
  refine ts_run1 rfl rfl (fun K hK => ?_)
  refine wp_bs1 (e := 88) (.agg (impR ⟨#[115, 101, 110, 100, 101, 114]⟩ 0 2 0).cs.toArray) (impR ⟨#[115, 101, 110, 100, 101, 114]⟩ 0 2 0).cs (fun w => by kernel_rfl) _ rfl rfl (fun w14 hb14 hl14 => ?_)
  obtain ⟨gb, hg14⟩ : ∃ g, g = w13.heap.size := ⟨_, rfl⟩
  rw [← hg14] at hl14 ⊢
  have RJ_14 := Lib.hid hl14
  have X1_14 := Lib.hid (X1_13.out.below hb14 X1_13.out.lt)
  have X2_14 := Lib.hid (X2_13.out.below hb14 X2_13.out.lt)
  have X3_14 := Lib.hid (X3_13.out.below hb14 X3_13.out.lt)
  have X4_14 := Lib.hid (X4_13.out.below hb14 X4_13.out.lt)
  have RI_14 := Lib.hid (RI_13.out.below hb14 RI_13.out.lt)
  have RX_14 := Lib.hid (RX_13.out.below hb14 RX_13.out.lt)
  have HB14 := Lib.hid (bt HB13.out hb14)
  have HU14 := Lib.hid (bt HU13.out hb14)
  refine hK.out _ _ (X1_14.out.cell 6) (still_none _ _) ?_
  clear hK K hb14 hl14 hg14
  (try simp only [Act.put, List.setIfInBounds_toArray, List.set_cons_zero, List.set_cons_succ])
  repeat (refine ts_take (v := ?_) rfl rfl (fun w' hw' => ?_) ?_; rotate_left; (focus (have q0 := hw'; (try simp only [Act.put, List.setIfInBounds_toArray, List.set_cons_zero, List.set_cons_succ]); go_simp; (try go_bits); (try (with_reducible rfl)))); (try simp only [Act.put, List.setIfInBounds_toArray, List.set_cons_zero, List.set_cons_succ]))
  refine ts_run1 rfl rfl (fun K hK => ?_)
  refine wp_fld (c0 := (modR t2 p2 q2 (.slice none 0 0) [] f2 (.slice none 0 0) [] (e2) 0 c2).cs) X2_14.out _ _ rfl rfl rfl [.slice (some ⟨gb, 0, none⟩) 1 1] (modR t2 p2 q2 (.slice (some ⟨gb, 0, none⟩) 1 1) [(impR ⟨#[115, 101, 110, 100, 101, 114]⟩ 0 2 0)] f2 (.slice none 0 0) [] (e2) 0 c2).cs rfl (by kernel_rfl) (by intro u hu; obtain rfl := List.mem_singleton.1 hu; rfl) (by simp [modR, Mod.cs]) rfl (fun w15 hl15 hf15 => ?_)
  have HB15 := Lib.hid (HB14.out.trans (hf15.below HB14.out.size (fun k hk => by have := HBB.out; omega))); have HU15 := Lib.hid (HU14.out.trans (hf15.below HU14.out.size (fun k hk => by have := HBE.out; omega))); have X1_15 := Lib.hid (lies_fr X1_14.out hf15 (fun e => by omega)); have X3_15 := Lib.hid (lies_fr X3_14.out hf15 (fun e => by omega)); have X4_15 := Lib.hid (lies_fr X4_14.out hf15 (fun e => by omega)); have RI_15 := Lib.hid (lies_frT RI_14.out (FrT.field X2_14.out hf15) (by decide)); have RX_15 := Lib.hid (lies_frT RX_14.out (FrT.field X2_14.out hf15) (by decide)); have RJ_15 := Lib.hid (lies_frT RJ_14.out (FrT.field X2_14.out hf15) (by decide)); have X2_15 := Lib.hid hl15
  refine hK.out _ _ (X1_15.out.cell 6) (still_none _ _) ?_
  clear hK K hl15 hf15
  (try simp only [Act.put])
  repeat (refine ts_take (v := ?_) rfl rfl (fun w' hw' => ?_) ?_; rotate_left; (focus (have q0 := hw'; (try simp only [Act.put, List.setIfInBounds_toArray, List.set_cons_zero, List.set_cons_succ]); go_simp; (try go_bits); (try (with_reducible rfl)))); (try simp only [Act.put, List.setIfInBounds_toArray, List.set_cons_zero, List.set_cons_succ]))
  refine ts_run1 rfl rfl (fun K hK => ?_)
  refine wp_fld (c0 := (modR t2 p2 q2 (.slice (some ⟨gb, 0, none⟩) 1 1) [(impR ⟨#[115, 101, 110, 100, 101, 114]⟩ 0 2 0)] f2 (.slice none 0 0) [] (e2) 0 c2).cs) X2_15.out _ _ rfl rfl rfl [.slice (some ⟨gx, 0, none⟩) 1 1] (modR t2 p2 q2 (.slice (some ⟨gb, 0, none⟩) 1 1) [(impR ⟨#[115, 101, 110, 100, 101, 114]⟩ 0 2 0)] f2 (.slice none 0 0) [] (.slice (some ⟨gx, 0, none⟩) 1 1) 1 c2).cs rfl (by kernel_rfl) (by intro u hu; obtain rfl := List.mem_singleton.1 hu; rfl) (by simp [modR, Mod.cs]) rfl (fun w16 hl16 hf16 => ?_)
  have HB16 := Lib.hid (HB15.out.trans (hf16.below HB15.out.size (fun k hk => by have := HBB.out; omega))); have HU16 := Lib.hid (HU15.out.trans (hf16.below HU15.out.size (fun k hk => by have := HBE.out; omega))); have X1_16 := Lib.hid (lies_fr X1_15.out hf16 (fun e => by omega)); have X3_16 := Lib.hid (lies_fr X3_15.out hf16 (fun e => by omega)); have X4_16 := Lib.hid (lies_fr X4_15.out hf16 (fun e => by omega)); have RI_16 := Lib.hid (lies_frT RI_15.out (FrT.field X2_15.out hf16) (by decide)); have RX_16 := Lib.hid (lies_frT RX_15.out (FrT.field X2_15.out hf16) (by decide)); have RJ_16 := Lib.hid (lies_frT RJ_15.out (FrT.field X2_15.out hf16) (by decide)); have X2_16 := Lib.hid hl16
  refine hK.out _ _ (X1_16.out.cell 6) (still_none _ _) ?_
  clear hK K hl16 hf16
  (try simp only [Act.put])
  refine ts_done ?_
  go_wp2_with (first | (refine wl_bsN (e := 88) (d := 27) rfl rfl (impR ⟨#[99, 97, 108, 108, 101, 114]⟩ 2 0 (-1)).cs rfl (fun w => by kernel_rfl) (fun w17 hb17 hl17 => ?_); obtain ⟨gc, hg17⟩ : ∃ g, g = w16.heap.size := ⟨_, rfl⟩; rw [← hg17] at hl17 ⊢; have HB17 := Lib.hid (bt HB16.out hb17); have HU17 := Lib.hid (bt HU16.out hb17); have RK_17 := Lib.hid hl17; have X1_17 := Lib.hid (X1_16.out.below hb17 X1_16.out.lt); have X2_17 := Lib.hid (X2_16.out.below hb17 X2_16.out.lt); have X3_17 := Lib.hid (X3_16.out.below hb17 X3_16.out.lt); have X4_17 := Lib.hid (X4_16.out.below hb17 X4_16.out.lt); have RI_17 := Lib.hid (RI_16.out.below hb17 RI_16.out.lt); have RX_17 := Lib.hid (RX_16.out.below hb17 RX_16.out.lt); have RJ_17 := Lib.hid (RJ_16.out.below hb17 RJ_16.out.lt); clear hb17 hl17 hg17; (try simp only [Act.put, List.setIfInBounds_toArray, List.set_cons_zero, List.set_cons_succ])) | (refine wl_fld (c0 := (modR t3 p3 q3 (.slice none 0 0) [] f3 (.slice none 0 0) [] (e3) 0 c3).cs) X3_17.out _ _ rfl rfl rfl rfl [.slice (some ⟨gc, 0, none⟩) 1 1] (modR t3 p3 q3 (.slice (some ⟨gc, 0, none⟩) 1 1) [(impR ⟨#[99, 97, 108, 108, 101, 114]⟩ 2 0 (-1))] f3 (.slice none 0 0) [] (e3) 0 c3).cs rfl (by kernel_rfl) (by intro u hu; obtain rfl := List.mem_singleton.1 hu; rfl) (by simp [modR, Mod.cs]) rfl (fun w18 hl18 hf18 => ?_); have HB18 := Lib.hid (HB17.out.trans (hf18.below HB17.out.size (fun k hk => by have := HBB.out; omega))); have HU18 := Lib.hid (HU17.out.trans (hf18.below HU17.out.size (fun k hk => by have := HBE.out; omega))); have X1_18 := Lib.hid (lies_fr X1_17.out hf18 (fun e => by omega)); have X2_18 := Lib.hid (lies_fr X2_17.out hf18 (fun e => by omega)); have X4_18 := Lib.hid (lies_fr X4_17.out hf18 (fun e => by omega)); have RI_18 := Lib.hid (lies_frT RI_17.out (FrT.field X3_17.out hf18) (by decide)); have RX_18 := Lib.hid (lies_frT RX_17.out (FrT.field X3_17.out hf18) (by decide)); have RJ_18 := Lib.hid (lies_frT RJ_17.out (FrT.field X3_17.out hf18) (by decide)); have RK_18 := Lib.hid (lies_frT RK_17.out (FrT.field X3_17.out hf18) (by decide)); have X3_18 := Lib.hid hl18; clear hl18 hf18; (try simp only [Act.put])) | (refine wl_bsN (e := 84) (d := 30) rfl rfl (Lim.cs ⟨17, -1⟩) rfl (fun w => by kernel_rfl) (fun w19 hb19 hl19 => ?_); obtain ⟨gl, hg19⟩ : ∃ g, g = w18.heap.size := ⟨_, rfl⟩; rw [← hg19] at hl19 ⊢; have HB19 := Lib.hid (bt HB18.out hb19); have HU19 := Lib.hid (bt HU18.out hb19); have RL_19 := Lib.hid hl19; have X1_19 := Lib.hid (X1_18.out.below hb19 X1_18.out.lt); have X2_19 := Lib.hid (X2_18.out.below hb19 X2_18.out.lt); have X3_19 := Lib.hid (X3_18.out.below hb19 X3_18.out.lt); have X4_19 := Lib.hid (X4_18.out.below hb19 X4_18.out.lt); have RI_19 := Lib.hid (RI_18.out.below hb19 RI_18.out.lt); have RX_19 := Lib.hid (RX_18.out.below hb19 RX_18.out.lt); have RJ_19 := Lib.hid (RJ_18.out.below hb19 RJ_18.out.lt); have RK_19 := Lib.hid (RK_18.out.below hb19 RK_18.out.lt); clear hb19 hl19 hg19; (try simp only [Act.put, List.setIfInBounds_toArray, List.set_cons_zero, List.set_cons_succ])) | (refine wl_fld (c0 := (modR t4 p4 q4 (.slice none 0 0) [] f4 (.slice none 0 0) [] (e4) 0 c4).cs) X4_19.out _ _ rfl rfl rfl rfl [.slice (some ⟨gl, 0, none⟩) 1 1] (modR t4 p4 q4 (.slice none 0 0) [] f4 (.slice (some ⟨gl, 0, none⟩) 1 1) [⟨17, -1⟩] (e4) 0 c4).cs rfl (by kernel_rfl) (by intro u hu; obtain rfl := List.mem_singleton.1 hu; rfl) (by simp [modR, Mod.cs]) rfl (fun w20 hl20 hf20 => ?_); have HB20 := Lib.hid (HB19.out.trans (hf20.below HB19.out.size (fun k hk => by have := HBB.out; omega))); have HU20 := Lib.hid (HU19.out.trans (hf20.below HU19.out.size (fun k hk => by have := HBE.out; omega))); have X1_20 := Lib.hid (lies_fr X1_19.out hf20 (fun e => by omega)); have X2_20 := Lib.hid (lies_fr X2_19.out hf20 (fun e => by omega)); have X3_20 := Lib.hid (lies_fr X3_19.out hf20 (fun e => by omega)); have RI_20 := Lib.hid (lies_frT RI_19.out (FrT.field X4_19.out hf20) (by decide)); have RX_20 := Lib.hid (lies_frT RX_19.out (FrT.field X4_19.out hf20) (by decide)); have RJ_20 := Lib.hid (lies_frT RJ_19.out (FrT.field X4_19.out hf20) (by decide)); have RK_20 := Lib.hid (lies_frT RK_19.out (FrT.field X4_19.out hf20) (by decide)); have RL_20 := Lib.hid (lies_frT RL_19.out (FrT.field X4_19.out hf20) (by decide)); have X4_20 := Lib.hid hl20; clear hl20 hf20; (try simp only [Act.put])))
  refine (find_any _ _).mono ?_
  rintro en w21 ⟨rfl, hb⟩
  have X1_21 := Lib.hid (X1_20.out.below hb X1_20.out.lt)
  have X2_21 := Lib.hid (X2_20.out.below hb X2_20.out.lt)
  have X3_21 := Lib.hid (X3_20.out.below hb X3_20.out.lt)
  have X4_21 := Lib.hid (X4_20.out.below hb X4_20.out.lt)
  have RI_21 := Lib.hid (RI_20.out.below hb RI_20.out.lt)
  have RX_21 := Lib.hid (RX_20.out.below hb RX_20.out.lt)
  have RJ_21 := Lib.hid (RJ_20.out.below hb RJ_20.out.lt)
  have RK_21 := Lib.hid (RK_20.out.below hb RK_20.out.lt)
  have RL_21 := Lib.hid (RL_20.out.below hb RL_20.out.lt)
  have HB21 := Lib.hid (bt HB20.out hb)
  have HU21 := Lib.hid (bt HU20.out hb)
  clear hb
  rw [show nmL ⟨#[103, 97, 115, 95, 108, 101, 102, 116]⟩ = [103, 97, 115, 95, 108, 101, 102, 116] from rfl, fk1]
  go_wp2_with fail
  refine (find_any _ _).mono ?_
  rintro en w22 ⟨rfl, hb⟩
  have X1_22 := Lib.hid (X1_21.out.below hb X1_21.out.lt)
  have X2_22 := Lib.hid (X2_21.out.below hb X2_21.out.lt)
  have X3_22 := Lib.hid (X3_21.out.below hb X3_21.out.lt)
  have X4_22 := Lib.hid (X4_21.out.below hb X4_21.out.lt)
  have RI_22 := Lib.hid (RI_21.out.below hb RI_21.out.lt)
  have RX_22 := Lib.hid (RX_21.out.below hb RX_21.out.lt)
  have RJ_22 := Lib.hid (RJ_21.out.below hb RJ_21.out.lt)
  have RK_22 := Lib.hid (RK_21.out.below hb RK_21.out.lt)
  have RL_22 := Lib.hid (RL_21.out.below hb RL_21.out.lt)
  have HB22 := Lib.hid (bt HB21.out hb)
  have HU22 := Lib.hid (bt HU21.out hb)
  clear hb
  rw [show nmL ⟨#[109, 101, 116, 101, 114]⟩ = [109, 101, 116, 101, 114] from rfl, fk2]
  go_wp2_with fail
  refine (rcheck_any (m := modZ) (modZ_ok _)).mono ?_
  rintro en w23 ⟨rfl, hb⟩
  have X1_23 := Lib.hid (X1_22.out.below hb X1_22.out.lt)
  have X2_23 := Lib.hid (X2_22.out.below hb X2_22.out.lt)
  have X3_23 := Lib.hid (X3_22.out.below hb X3_22.out.lt)
  have X4_23 := Lib.hid (X4_22.out.below hb X4_22.out.lt)
  have RI_23 := Lib.hid (RI_22.out.below hb RI_22.out.lt)
  have RX_23 := Lib.hid (RX_22.out.below hb RX_22.out.lt)
  have RJ_23 := Lib.hid (RJ_22.out.below hb RJ_22.out.lt)
  have RK_23 := Lib.hid (RK_22.out.below hb RK_22.out.lt)
  have RL_23 := Lib.hid (RL_22.out.below hb RL_22.out.lt)
  have HB23 := Lib.hid (bt HB22.out hb)
  have HU23 := Lib.hid (bt HU22.out hb)
  clear hb
  rw [rk0]
  go_wp2_with fail
  refine (least_any _).mono ?_
  rintro en w24 ⟨⟨t9, p9, q9, f9, e9, c9, rfl, hm9⟩, hb⟩
  have X1_24 := Lib.hid (X1_23.out.below hb X1_23.out.lt)
  have X2_24 := Lib.hid (X2_23.out.below hb X2_23.out.lt)
  have X3_24 := Lib.hid (X3_23.out.below hb X3_23.out.lt)
  have X4_24 := Lib.hid (X4_23.out.below hb X4_23.out.lt)
  have RI_24 := Lib.hid (RI_23.out.below hb RI_23.out.lt)
  have RX_24 := Lib.hid (RX_23.out.below hb RX_23.out.lt)
  have RJ_24 := Lib.hid (RJ_23.out.below hb RJ_23.out.lt)
  have RK_24 := Lib.hid (RK_23.out.below hb RK_23.out.lt)
  have RL_24 := Lib.hid (RL_23.out.below hb RL_23.out.lt)
  have HB24 := Lib.hid (bt HB23.out hb)
  have HU24 := Lib.hid (bt HU23.out hb)
  clear hb
  go_wp2_with fail
  refine (rcheck_any hm9).mono ?_
  rintro en w25 ⟨rfl, hb⟩
  have X1_25 := Lib.hid (X1_24.out.below hb X1_24.out.lt)
  have X2_25 := Lib.hid (X2_24.out.below hb X2_24.out.lt)
  have X3_25 := Lib.hid (X3_24.out.below hb X3_24.out.lt)
  have X4_25 := Lib.hid (X4_24.out.below hb X4_24.out.lt)
  have RI_25 := Lib.hid (RI_24.out.below hb RI_24.out.lt)
  have RX_25 := Lib.hid (RX_24.out.below hb RX_24.out.lt)
  have RJ_25 := Lib.hid (RJ_24.out.below hb RJ_24.out.lt)
  have RK_25 := Lib.hid (RK_24.out.below hb RK_24.out.lt)
  have RL_25 := Lib.hid (RL_24.out.below hb RL_24.out.lt)
  have HB25 := Lib.hid (bt HB24.out hb)
  have HU25 := Lib.hid (bt HU24.out hb)
  clear hb
  rw [rk1]
  go_wp2_with (refine wl_loadw (lies_range X1_25.out) _ rfl rfl rfl Tryz.underlying33 rfl sizeMod ?_; (try simp only [Act.put, List.setIfInBounds_toArray, List.set_cons_zero, List.set_cons_succ]))
  refine (rcheck_any (modR_ok (HM1.out.later HU25.out) (imp1_ok RI_25.out ⟨(by decide), (by decide), (by show (3 : Nat) ≤ 1048576; decide), (by show (6 : Nat) ≤ 1048576; decide)⟩) nil_ok (sl_one (x := (⟨mainB, 0, 1⟩ : Exp)) (en := Exp.cs) RX_25.out) (by decide))).mono ?_
  rintro en w26 ⟨rfl, hb⟩
  have X1_26 := Lib.hid (X1_25.out.below hb X1_25.out.lt)
  have X2_26 := Lib.hid (X2_25.out.below hb X2_25.out.lt)
  have X3_26 := Lib.hid (X3_25.out.below hb X3_25.out.lt)
  have X4_26 := Lib.hid (X4_25.out.below hb X4_25.out.lt)
  have RI_26 := Lib.hid (RI_25.out.below hb RI_25.out.lt)
  have RX_26 := Lib.hid (RX_25.out.below hb RX_25.out.lt)
  have RJ_26 := Lib.hid (RJ_25.out.below hb RJ_25.out.lt)
  have RK_26 := Lib.hid (RK_25.out.below hb RK_25.out.lt)
  have RL_26 := Lib.hid (RL_25.out.below hb RL_25.out.lt)
  have HB26 := Lib.hid (bt HB25.out hb)
  have HU26 := Lib.hid (bt HU25.out hb)
  clear hb
  rw [rk2]
  go_wp2_with (refine wl_loadw (lies_range X2_26.out) _ rfl rfl rfl Tryz.underlying33 rfl sizeMod ?_; (try simp only [Act.put, List.setIfInBounds_toArray, List.set_cons_zero, List.set_cons_succ]))
  refine (rcheck_any (modR_ok (HM2.out.later HU26.out) (imp1_ok RJ_26.out ⟨(by decide), (by decide), (by show (3 : Nat) ≤ 1048576; decide), (by show (6 : Nat) ≤ 1048576; decide)⟩) nil_ok (sl_one (x := (⟨mainB, 0, 1⟩ : Exp)) (en := Exp.cs) RX_26.out) (by decide))).mono ?_
  rintro en w27 ⟨rfl, hb⟩
  have X1_27 := Lib.hid (X1_26.out.below hb X1_26.out.lt)
  have X2_27 := Lib.hid (X2_26.out.below hb X2_26.out.lt)
  have X3_27 := Lib.hid (X3_26.out.below hb X3_26.out.lt)
  have X4_27 := Lib.hid (X4_26.out.below hb X4_26.out.lt)
  have RI_27 := Lib.hid (RI_26.out.below hb RI_26.out.lt)
  have RX_27 := Lib.hid (RX_26.out.below hb RX_26.out.lt)
  have RJ_27 := Lib.hid (RJ_26.out.below hb RJ_26.out.lt)
  have RK_27 := Lib.hid (RK_26.out.below hb RK_26.out.lt)
  have RL_27 := Lib.hid (RL_26.out.below hb RL_26.out.lt)
  have HB27 := Lib.hid (bt HB26.out hb)
  have HU27 := Lib.hid (bt HU26.out hb)
  clear hb
  rw [rk3]
  go_wp2_with (refine wl_loadw (lies_range X3_27.out) _ rfl rfl rfl Tryz.underlying33 rfl sizeMod ?_; (try simp only [Act.put, List.setIfInBounds_toArray, List.set_cons_zero, List.set_cons_succ]))
  refine (rcheck_any (modR_ok (HM3.out.later HU27.out) (imp1_ok RK_27.out ⟨(by decide), (by decide), (by show (3 : Nat) ≤ 1048576; decide), (by show (6 : Nat) ≤ 1048576; decide)⟩) nil_ok (HM3.out.later HU27.out).2.2.2.2.2.2.1.1 (by decide))).mono ?_
  rintro en w28 ⟨rfl, hb⟩
  have X1_28 := Lib.hid (X1_27.out.below hb X1_27.out.lt)
  have X2_28 := Lib.hid (X2_27.out.below hb X2_27.out.lt)
  have X3_28 := Lib.hid (X3_27.out.below hb X3_27.out.lt)
  have X4_28 := Lib.hid (X4_27.out.below hb X4_27.out.lt)
  have RI_28 := Lib.hid (RI_27.out.below hb RI_27.out.lt)
  have RX_28 := Lib.hid (RX_27.out.below hb RX_27.out.lt)
  have RJ_28 := Lib.hid (RJ_27.out.below hb RJ_27.out.lt)
  have RK_28 := Lib.hid (RK_27.out.below hb RK_27.out.lt)
  have RL_28 := Lib.hid (RL_27.out.below hb RL_27.out.lt)
  have HB28 := Lib.hid (bt HB27.out hb)
  have HU28 := Lib.hid (bt HU27.out hb)
  clear hb
  rw [rk4]
  go_wp2_with (refine wl_loadw (lies_range X4_28.out) _ rfl rfl rfl Tryz.underlying33 rfl sizeMod ?_; (try simp only [Act.put, List.setIfInBounds_toArray, List.set_cons_zero, List.set_cons_succ]))
  refine (rcheck_any (modR_ok (HM4.out.later HU28.out) nil_ok ⟨sl_one RL_28.out, fun y hy => (by obtain rfl := List.mem_singleton.1 hy; show (17 : Nat) < 4294967296; decide), (by show (1 : Nat) ≤ 1048576; decide)⟩ (HM4.out.later HU28.out).2.2.2.2.2.2.1.1 (by decide))).mono ?_
  rintro en w29 ⟨rfl, hb⟩
  have X1_29 := Lib.hid (X1_28.out.below hb X1_28.out.lt)
  have X2_29 := Lib.hid (X2_28.out.below hb X2_28.out.lt)
  have X3_29 := Lib.hid (X3_28.out.below hb X3_28.out.lt)
  have X4_29 := Lib.hid (X4_28.out.below hb X4_28.out.lt)
  have RI_29 := Lib.hid (RI_28.out.below hb RI_28.out.lt)
  have RX_29 := Lib.hid (RX_28.out.below hb RX_28.out.lt)
  have RJ_29 := Lib.hid (RJ_28.out.below hb RJ_28.out.lt)
  have RK_29 := Lib.hid (RK_28.out.below hb RK_28.out.lt)
  have RL_29 := Lib.hid (RL_28.out.below hb RL_28.out.lt)
  have HB29 := Lib.hid (bt HB28.out hb)
  have HU29 := Lib.hid (bt HU28.out hb)
  clear hb
  rw [rk5]
  go_wp2_with fail
  go_ret
  exact ⟨rfl, HB29.out⟩
end Go.Proofs.YtmgjcaikldeioaaGreat.Ru
/- gabellelaw12.RuleOffers answers true. -/
namespace Go.Proofs.YtmgjcaikldeioaaGreat.Ru
open Go Go.RowKit Go.Lib Kt Fm Gr Ty Va

theorem hfind_own : ∀ k : Fin 16, hfind ((hostsT.getD k.1 ([], [], [])).1) = some k.1 := by decide +kernel
theorem tri_at {L : List Hst} (h : L.map Hst.tri = hostsT) {k : Nat} {x : Hst} (hx : L[k]? = some x) : hostsT.getD k ([], [], []) = x.tri := by
  rw [← h, List.getD_eq_getElem?_getD, List.getElem?_map, hx]
  rfl
set_option maxRecDepth 100000 in
set_option maxHeartbeats 16000000 in
theorem law_offers (b : ByteArray) (W : World) : Calls Tryz.prog 5 #[.string b] W fun e w' => e = .returned (.bool true) ∧ Below W.heap.size W w' := by
  go_enter Tryz.func5, Tryz.ntmps5
  go_wp2_with fail
  refine (known_any W).mono ?_
  rintro en w1 ⟨rfl, hb1⟩
  have HB1 := Lib.hid hb1
  clear hb1
  go_wp2_with fail
  refine (hosts_any w1).mono ?_
  rintro en w2 ⟨v, L, rfl, hs, ht, ho, hb⟩
  have hlen : L.length = 16 := by rw [← List.length_map (f := Hst.tri), ht, hostsT_len]
  obtain ⟨s, c, rfl, hf⟩ := hs.form
  obtain ⟨g, off, rfl, _⟩ := hf (by intro e; rw [e] at hlen; cases hlen)
  rw [hlen]
  have HS := Lib.hid hs
  have HT := Lib.hid ht
  have HO := Lib.hid ho
  have HB2 := Lib.hid (bt HB1.out hb)
  clear hs ht ho hb hf
  go_wp2_with fail
  refine (rhosts_any w2).mono ?_
  rintro en w3 ⟨v, L', rfl, hs, ht, ho, hb⟩
  have hlen' : L'.length = 16 := by rw [← List.length_map (f := Hst.tri), ht, hostsT_len]
  obtain ⟨s, c', rfl, hf⟩ := hs.form
  obtain ⟨g', off', rfl, _⟩ := hf (by intro e; rw [e] at hlen'; cases hlen')
  rw [hlen']
  have HSR := Lib.hid hs
  have HTR := Lib.hid ht
  have HOR := Lib.hid ho
  have HB3 := Lib.hid (bt HB2.out hb)
  have HC := Lib.hid hb
  clear hs ht ho hb hf
  go_wp2_with fail
  go_loopw [23] (fun iv wr => ∃ k : Nat, k ≤ 16 ∧ iv = .int .i64 k ∧ Below w3.heap.size w3 wr) (fun iv _ => 16 - (RowKit.intOf iv).toNat)
  case atStart => exact ⟨0, Nat.zero_le _, rfl, Below.refl _ _⟩
  case round =>
    obtain ⟨k, hk, rfl, hw⟩ := hrel
    have HW := Lib.hid hw
    clear hw
    by_cases hlt : k < 16
    · have hlt2 : (k : Int) < 16 := by omega
      obtain ⟨x, hx⟩ : ∃ x, L[k]? = some x := ⟨_, List.getElem?_eq_getElem (by omega)⟩
      obtain ⟨y, hy⟩ : ∃ y, L'[k]? = some y := ⟨_, List.getElem?_eq_getElem (by omega)⟩
      have hone : ∀ u ∈ x.cs, u.oneCell' = true := ft_one (HO.out x (List.mem_of_getElem? hx))
      have HXX := Lib.hid hx
      have HYY := Lib.hid hy
      clear hx hy
      have htr : x.tri = y.tri := (tri_at HT.out HXX.out).symm.trans (tri_at HTR.out HYY.out)
      have HNM := Lib.hid (show x.nm = y.nm from congrArg (fun t => t.1) htr)
      have HSM := Lib.hid (show same x.ft y.ft = true from by
        have h1 : x.ft.p = y.ft.p := congrArg (fun t => t.2.1) htr
        have h2 : x.ft.r = y.ft.r := congrArg (fun t => t.2.2) htr
        unfold same
        rw [h1, h2]
        simp)
      have HFD := Lib.hid (show hfind x.nm = some k from by have h := hfind_own ⟨k, hlt⟩; rw [show hostsT.getD (⟨k, hlt⟩ : Fin 16).1 ([], [], []) = x.tri from tri_at HT.out HXX.out] at h; exact h)
      clear htr
      go_upto_region 9 with (first | (refine wpList_load_mid rfl 69 _ rfl g (off + k * 3) rfl x.cs _ (Gr.sl_range (HS.out.later (bt HC.out HW.out)) HXX.out) Tryz.underlying69 rfl siz_h ?_; (try simp only [Act.put, List.setIfInBounds_toArray, List.set_cons_zero, List.set_cons_succ])) | (refine wl_put (Lies.new _ _ _) x.cs _ _ rfl rfl rfl rfl rfl siz_h (by have := hone; simpa using this) (fun w4 hl4 hf4 => ?_); have hb4 : Below wr.heap.size wr w4 := below_put ((Below.refl wr.heap.size wr).alloc (Nat.le_refl _) _) hf4 (Nat.le_refl _); have HW4 := Lib.hid (bt HW.out hb4); obtain ⟨Bx, hBx⟩ : ∃ Bx, Bx = wr.heap.size := ⟨_, rfl⟩; rw [← hBx] at hl4 ⊢; have HX4 := Lib.hid hl4; clear hl4 hf4 hb4 hBx; (try simp only [Act.put])))
      have z0 : w4.cell? ⟨Bx, 0, none⟩ = some (.string ⟨x.nm.toArray⟩) := HX4.out.cell 0
      have z1 : w4.cell? ⟨Bx, 1, none⟩ = some x.ft.pv := HX4.out.cell 1
      have z2 : w4.cell? ⟨Bx, 2, none⟩ = some x.ft.rv := HX4.out.cell 2
      have y0 : w4.cell? ⟨g', off' + k * 3, none⟩ = some (.string ⟨x.nm.toArray⟩) := by rw [HNM.out]; exact (HSR.out.later HW4.out).cell HYY.out (j := 0) rfl
      have y1 : w4.cell? ⟨g', off' + k * 3 + 1, none⟩ = some y.ft.pv := (HSR.out.later HW4.out).cell HYY.out (j := 1) rfl
      have y2 : w4.cell? ⟨g', off' + k * 3 + 2, none⟩ = some y.ft.rv := (HSR.out.later HW4.out).cell HYY.out (j := 2) rfl
      refine wp_region_b [(0, true), (1, true), (2, true), (3, true), (4, true), (5, true), (6, true), (7, true), (8, true), (9, true), (10, true), (11, true), (12, true), (13, true), (14, true), (15, true), (16, false), (17, true), (18, true)] (by kernel_rfl) (by kernel_rfl) (fun _ _ d _ _ h => by cases d <;> exact h) ?_
      intro V0 hbV0
      replace z0 := keepc hbV0 z0
      replace z1 := keepc hbV0 z1
      replace z2 := keepc hbV0 z2
      replace y0 := keepc hbV0 y0
      replace y1 := keepc hbV0 y1
      replace y2 := keepc hbV0 y2
      have hS0 : Below V0.heap.size V0 V0 := Below.refl _ _
      repeat (first | (refine hs_take (v := ?_) rfl rfl (fun w' hw' => ?_) ?_; rotate_left; (focus (have q0 := keepc hw' z0; have q1 := keepc hw' z1; have q2 := keepc hw' z2; have q3 := keepc hw' y0; have q4 := keepc hw' y1; have q5 := keepc hw' y2; clear hw'; (try simp only [Act.put, List.setIfInBounds_toArray, List.set_cons_zero, List.set_cons_succ]); go_simp; (try go_bits); (try (with_reducible rfl)))); (try simp only [Act.put, List.setIfInBounds_toArray, List.set_cons_zero, List.set_cons_succ])) | (refine hs_skip rfl rfl ?_; (try simp only [Act.put, List.setIfInBounds_toArray, List.set_cons_zero, List.set_cons_succ])))
      refine hs_run rfl (fun K hK => ?_)
      go_simp
      refine (rsame_any (x := x.ft) (y := y.ft) ((FtOwn.ok (HO.out x (List.mem_of_getElem? HXX.out)) (host_len HT.out (List.mem_of_getElem? HXX.out)).1 (host_len HT.out (List.mem_of_getElem? HXX.out)).2).later (bt (bt (bt HC.out HW4.out) hbV0) hS0)) ((HOR.out y (List.mem_of_getElem? HYY.out)).later (bt (bt HW4.out hbV0) hS0))).mono ?_
      rintro en V01 ⟨rfl, hB1⟩
      have hS1 := bt hS0 hB1
      clear hB1 hS0
      refine hK.out _ _ hS1 ?_
      clear hK K
      (try simp only [Act.put, List.setIfInBounds_toArray, List.set_cons_zero, List.set_cons_succ])
      repeat (first | (refine hs_take (v := ?_) rfl rfl (fun w' hw' => ?_) ?_; rotate_left; (focus (have q0 := keepc hw' z0; have q1 := keepc hw' z1; have q2 := keepc hw' z2; have q3 := keepc hw' y0; have q4 := keepc hw' y1; have q5 := keepc hw' y2; clear hw'; (try simp only [Act.put, List.setIfInBounds_toArray, List.set_cons_zero, List.set_cons_succ]); go_simp; (try go_bits); (try (with_reducible rfl)))); (try simp only [Act.put, List.setIfInBounds_toArray, List.set_cons_zero, List.set_cons_succ])) | (refine hs_skip rfl rfl ?_; (try simp only [Act.put, List.setIfInBounds_toArray, List.set_cons_zero, List.set_cons_succ])))
      refine hs_done ?_
      rw [HSM.out]
      have HW5 := Lib.hid (bt HW4.out (bt hbV0 hS1))
      have z0 := keepc hS1 z0
      clear z1 z2 y0 y1 y2
      go_wp2_with fail
      refine (find_any _ _).mono ?_
      rintro en w6 ⟨rfl, hb⟩
      have HW6 := Lib.hid (bt HW5.out hb)
      rw [show nmL ⟨x.nm.toArray⟩ = x.nm from rfl, HFD.out]
      clear hb
      go_wp2_with fail
      go_roundw
      case rel => exact ⟨k + 1, hlt, by go_num, HW6.out⟩
      case measure => simp [RowKit.intOf]; omega
    · obtain rfl : k = 16 := by omega
      have HB4 := Lib.hid (bt HB3.out HW.out)
      go_wp2_with fail
      refine (find_any b wr).mono ?_
      rintro en w5 ⟨rfl, hb⟩
      have HB5 := Lib.hid (bt HB4.out hb)
      clear hb
      go_wp2_with fail
      refine (rfind_any b w5).mono ?_
      rintro en w6 ⟨rfl, hb⟩
      have HB6 := Lib.hid (bt HB5.out hb)
      clear hb
      cases hfind (nmL b) with
      | none =>
        rw [show refI none = -1 from rfl]
        go_wp2_with fail
        go_ret
        exact ⟨rfl, HB6.out⟩
      | some k =>
        rw [show refI (some k) = (k : Int) from rfl]
        have h1 : (0 : Int) ≤ k := by omega
        have h2 : max (k : Int) 0 = k := by omega
        go_wp2_with fail
        go_ret
        exact ⟨rfl, HB6.out⟩
end Go.Proofs.YtmgjcaikldeioaaGreat.Ru
/- The statement RuleOffers: for every input the call returns true (what is offered is the document's, by numbers and by names) and each argument reads behind it as it did: the row. Conditions: none beyond the row's own. -/
namespace Go.Proofs.YtmgjcaikldeioaaGreat.lwOffers
open Go Go.ChangeShapes Go.WideShapes Go.ChangeAt Go.RowKit Ru
theorem laidOut : laidOutB Tryz.prog = true := by kernel_rfl
theorem readable : (Tryz.f5.params.toList.all fun t => Tryz.prog.readableRec t && decide (t < Tryz.prog.types.size)) = true := by kernel_rfl
set_option maxRecDepth 100000 in
theorem contract (H : Type) (enc : TypeId × Value → H) (W : World) (base : Nat) (args : Array Value) (ds gs : List (DataW H)) (before : List MemPlace)
    (hval : ∀ (j : Nat) t v, Tryz.f5.params[j]? = some t → args[j]? = some v → Value.okWide Tryz.prog W .any base t v)
    (hW : DataW.Whole enc Tryz.prog Tryz.f5.params.toList Rows.ruleOffersSpec.vars false W args.toList ds gs before) :
    Calls Tryz.prog 5 args W fun e W' => ∃ v, e = .returned v ∧ Rows.ruleOffersSpec.post enc Tryz.prog Tryz.f5 false true false false W args v W' := by
  have hW' := hW
  obtain ⟨p, q, hA0, hV, rfl, hfz, hnd⟩ := hW
  have hA : DataW.TrodAll enc Tryz.prog W 0 (fun _ => true) true Tryz.f5.params.toList args.toList ds p := hA0
  rw [Tryz.params5] at hA hval
  obtain ⟨v0, vs0, d0, ds0, p0, q0, hargs0, rfl, rfl, h0, r0⟩ := trodAll_cons hA
  obtain ⟨rfl, rfl, rfl⟩ := trodAll_nil r0
  obtain rfl : args = #[v0] := by cases args; simp_all
  obtain ⟨rfl, rfl⟩ := trodVars_none hV
  have hv0 := hval 0 _ v0 rfl rfl
  obtain ⟨b, rfl, _⟩ := Go.ChangeMaps.open_string Tryz.underlying9 hv0 h0
  refine (law_offers b W).mono fun e W' ⟨he, hb⟩ => ?_
  subst he
  exact ⟨_, rfl, Rw.law_post laidOut readable rfl Tryz.underlying4 rfl (fun _ => rfl) (fun _ => rfl) (fun _ => rfl) hW' hb⟩
set_option maxRecDepth 100000 in
theorem reads (os : Os) {H : Type} (enc : TypeId × Value → H) : ∃ places, DataW.whole enc Tryz.prog ((Rw.plainWorld os).forCall (fun _ _ => 0) ⟨#[], #[.string ⟨#[]⟩], []⟩).memory Tryz.f5.params.toList Rows.ruleOffersSpec.vars false (#[.string ⟨#[]⟩] : Array Value).toList 8 = some ([.lit (.string [])], [], places) :=
  ⟨[], by kernel_rfl⟩
set_option maxRecDepth 100000 in
theorem lifted (os : Os) (started : os.Started) (H : Type) (enc : TypeId × Value → H) (F : Stop.Interp) :
    ReturnsInHanded {} Tryz.checked os 5 .any ((OpenSpec.ofChange Rows.ruleOffersSpec).preRow enc Tryz.prog Tryz.f5 Rows.ruleOffersRow.domain false Rows.ruleOffersRow.laid) (((OpenSpec.ofChange Rows.ruleOffersSpec).at F).post enc Tryz.prog Tryz.f5 false true false false) := by
  obtain ⟨places, hx⟩ := reads os enc
  refine returnsInHanded_of_row (C := Tryz.checked) (s := OpenSpec.ofChange Rows.ruleOffersSpec) Rw.own started (by kernel_rfl) Tryz.func5
    (witness_row_at (enc := enc) (C := Tryz.checked) false (Rw.plainWorld os) #[.string ⟨#[]⟩] rfl (by kernel_rfl) (by kernel_rfl) (by kernel_rfl)
      (OpenSpec.preRow_of_cond 8 hx (by kernel_rfl) (fun k hk => by cases hk) (by kernel_rfl) (Rw.met_nil _))) ?_
  intro W base args ds gs before hval hW _ _ _ _ _ _
  exact contract H enc W base args ds gs before hval hW
theorem said : Rows.RuleOffersSaid :=
  OpenClaim.holds_of_cond 5 Tryz.f5 rfl rfl rfl rfl rfl rfl rfl ⟨rfl, rfl, rfl, rfl, rfl⟩ rfl rfl rfl rfl rfl (by kernel_rfl) Tryz.func5 (by kernel_rfl)
    (of_decide_eq_true (by kernel_rfl)) (by unfold Func.isWrapper; first | (rw [if_pos (by decide +kernel)]; kernel_rfl) | (rw [if_neg (by decide +kernel)]; exact ⟨rfl, rfl⟩))
    (fun os started H enc _ F => by rw [OpenClaim.pre_eq_preRow]; exact lifted os started H enc F)
#print axioms said
end Go.Proofs.YtmgjcaikldeioaaGreat.lwOffers
