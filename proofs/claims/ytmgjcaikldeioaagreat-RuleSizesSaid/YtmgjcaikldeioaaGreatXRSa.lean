/- The least module, with the rows that it is made of. -/
import Derived.Test.YtmgjcaikldeioaaGreatXNj
import Derived.Test.YtmgjcaikldeioaaGreatXRm
import Derived.Test.YtmgjcaikldeioaaGreatXFt
import Derived.Test.YtmgjcaikldeioaaGreatXPs
namespace Go.Proofs.YtmgjcaikldeioaaGreat.Va
open Gr Ty

/-- Names that are not yet there, each once. -/
def Once : List Exp → List (List UInt8) → Prop
 | [], _ => True
 | x :: r, ns => nmL x.nm ∉ ns ∧ Once r (ns ++ [nmL x.nm])
section
variable {m m' : Mod}
theorem expE_iff : ∀ {l : List Exp} {ns : List (List UInt8)}, expE m l ns 0 = 0 ↔ (∀ x ∈ l, thereB m x.kind x.ix = true) ∧ Once l ns
 | [], ns => by simp [expE, Once]
 | x :: r, ns => by
  rw [expE, if_pos rfl]
  constructor
  ·intro h
   have h1 := expE_back h
   have h2 := (mst_zero (by decide)).1 h1
   have h3 := (mst_zero (by decide)).1 h2.1
   rw [h1] at h
   obtain ⟨h4, h5⟩ := expE_iff.1 h
   refine ⟨fun y hy => ?_, ?_, h5⟩
   ·rcases List.mem_cons.1 hy with rfl | hy
    ·exact h3.2
    ·exact h4 y hy
   ·have := h2.2
    simpa using this
  ·rintro ⟨h1, h2, h3⟩
   rw [h1 x (.head _), mst_true, show (!decide (nmL x.nm ∈ ns)) = true from by simpa using h2, mst_true]
   exact expE_iff.2 ⟨fun y hy => h1 y (.tail _ hy), h3⟩
/-- What a check of its parts asks is the same. -/
structure Like (m m' : Mod) : Prop where
 types : m'.types = m.types
 imps : m'.imps = m.imps
 funcs : m'.funcs = m.funcs
 tabs : m'.tabs = m.tabs
 mems : m'.mems = m.mems
 globs : m'.globs = m.globs
 codes : m'.codes = m.codes
theorem Like.ft (h : Like m m') : ftype m' = ftype m := by
 funext i
 unfold ftype ftyps fimps
 rw [h.imps, h.funcs, h.types]
theorem Like.fk (h : Like m m') (k : UInt8) : Gr.fk m' k = Gr.fk m k := by unfold Gr.fk; rw [h.imps]
theorem Like.bs (h : Like m m') : bsOf m' = bsOf m := by unfold bsOf; rw [h.fk, h.tabs]
theorem Like.ms (h : Like m m') : msOf m' = msOf m := by unfold msOf; rw [h.fk, h.mems]
theorem Like.gs (h : Like m m') : gsOf m' = gsOf m := by unfold gsOf; rw [h.fk, h.globs]
theorem Like.cnt (h : Like m m') : Gr.cnt m' = Gr.cnt m := by unfold Gr.cnt fimps; rw [h.imps, h.funcs]
theorem Like.there (h : Like m m') : thereB m' = thereB m := by
 funext k i
 unfold thereB cntK
 rw [h.cnt, h.bs, h.ms, h.gs]
theorem Like.cons (h : Like m m') : constE m' = constE m := by
 funext l t e
 unfold constE gl
 rw [h.fk, h.gs]
theorem Like.glb (h : Like m m') : glbE m' = glbE m := by funext g e; unfold glbE; rw [h.cons]
theorem Like.elm (h : Like m m') : elmE m' = elmE m := by funext g e; unfold elmE; rw [h.cons, h.there]
theorem Like.imp (h : Like m m') : impE m' = impE m := by funext g e; unfold impE; rw [h.types]
theorem Like.sto (h : Like m m') : storesE m' = storesE m := by funext e; unfold storesE; rw [h.bs, h.ms]
theorem Like.cod (h : Like m m') : codC m' = codC m := by
 funext i c
 unfold codC spX spcOf fnA
 rw [h.ft, h.types, h.gs, h.bs, h.ms, h.fk]
theorem Like.codE (h : Like m m') : ∀ (l : List Cod) (H : List Nat) (e : Nat), Va.codE m' l H e = Va.codE m l H e
 | [], _, _ => rfl
 | x :: r, H, e => by rw [Va.codE, Va.codE, h.cod, Like.codE h r]
theorem Like.expE (h : Like m m') : ∀ (l : List Exp) (ns : List (List UInt8)) (e : Nat), Va.expE m' l ns e = Va.expE m l ns e
 | [], _, _ => rfl
 | x :: r, ns, e => by rw [Va.expE, Va.expE, h.there, Like.expE h r]
/-- The errors ahead of the exports but those of the exports' kinds. -/
def mid (m : Mod) (e : Nat) : Nat := eachE (glbE m) m.globs (storesE m (eachE (fun t e => mst e (m.types[t]?).isSome 80) m.funcs (eachE (impE m) m.imps (eachE typE m.types e))))
theorem Like.mid (h : Like m m') : Va.mid m' = Va.mid m := by
 funext e
 unfold Va.mid
 rw [h.glb, h.globs, h.sto, h.types, h.funcs, h.imp, h.imps]
theorem fore9_eq (m : Mod) : fore9 m = expE m m.exps [] (mid m (eachE (fun x e => mst e (decide (x.kind ≤ 3)) 2) m.exps (eachE (fun x e => mst e (decide (x.kind ≤ 3)) 2) m.imps (mst 0 (m.codes.length == m.funcs.length) 2)))) := rfl
end
end Go.Proofs.YtmgjcaikldeioaaGreat.Va
namespace Go.Proofs.YtmgjcaikldeioaaGreat.Ru
open Go Go.RowKit Go.Lib Kt Fm Gr Ty Va

theorem oneModR {w : World} {m : Mod} (h : ModOk w m) : (m.cs.toArray.all (·.oneCell')) = true := by
 obtain ⟨s0, c0, e0, _⟩ := h.1.1.form
 obtain ⟨s1, c1, e1, _⟩ := h.2.1.1.form
 obtain ⟨s2, c2, e2, _⟩ := h.2.2.1.1.form
 obtain ⟨s3, c3, e3, _⟩ := h.2.2.2.1.1.form
 obtain ⟨s4, c4, e4, _⟩ := h.2.2.2.2.1.1.form
 obtain ⟨s5, c5, e5, _⟩ := h.2.2.2.2.2.1.1.form
 obtain ⟨s6, c6, e6, _⟩ := h.2.2.2.2.2.2.1.1.form
 obtain ⟨s9, c9, e9, _⟩ := h.2.2.2.2.2.2.2.2.1.1.form
 obtain ⟨s10, c10, e10, _⟩ := h.2.2.2.2.2.2.2.2.2.1.1.form
 obtain ⟨s11, c11, e11, _⟩ := h.2.2.2.2.2.2.2.2.2.2.1.form
 simp [Mod.cs, e0, e1, e2, e3, e4, e5, e6, e9, e10, e11, Value.oneCell']
def mainB : ByteArray := ⟨#[109, 97, 105, 110]⟩
/-- A module as the chapter's rows have it. -/
def modR (tv p1 p2 iv : Value) (imps : List Imp) (fv mv : Value) (mems : List Lim) (ev : Value) (ix : Nat) (cv : Value) : Mod := ⟨tv, [⟨.slice none 0 0, [], .slice none 0 0, []⟩, ⟨p1, [126], .slice none 0 0, []⟩, ⟨p2, [127], .slice none 0 0, []⟩], iv, imps, fv, [0], .slice none 0 0, [], mv, mems, .slice none 0 0, [], ev, [⟨mainB, 0, ix⟩], false, 0, .slice none 0 0, [], cv, [⟨.slice none 0 0, [], .slice none 0 0, []⟩], .slice none 0 0, []⟩
def modZ : Mod := ⟨.slice none 0 0, [], .slice none 0 0, [], .slice none 0 0, [], .slice none 0 0, [], .slice none 0 0, [], .slice none 0 0, [], .slice none 0 0, [], false, 0, .slice none 0 0, [], .slice none 0 0, [], .slice none 0 0, []⟩
def impR (nm : ByteArray) (kind : UInt8) (ty : Nat) (mx : Int) : Imp := ⟨⟨#[101, 110, 118]⟩, nm, kind, ty, ⟨0, mx⟩, ⟨0, false⟩⟩
theorem modZ_ok (w : World) : ModOk w modZ := ⟨nil_ok, nil_ok, nil_ok, nil_ok, nil_ok, nil_ok, nil_ok, (by show (0 : Nat) < 4294967296; decide), nil_ok, nil_ok, nil_ok⟩
set_option maxRecDepth 100000 in
set_option maxHeartbeats 16000000 in
theorem least_any (W : World) : Calls Tryz.prog 25 #[] W fun e w' => (∃ tv p1 p2 fv ev cv, e = .returned (.agg (modR tv p1 p2 (.slice none 0 0) [] fv (.slice none 0 0) [] ev 0 cv).cs.toArray) ∧ ModOk w' (modR tv p1 p2 (.slice none 0 0) [] fv (.slice none 0 0) [] ev 0 cv)) ∧ Below W.heap.size W w' := by
 go_enter Tryz.func25, Tryz.ntmps25
 go_upto_region 1 with fail
 obtain ⟨w0, hw0⟩ : ∃ w0, w0 = W.alloc (.cells modZ.cs.toArray 33) := ⟨_, rfl⟩
 have HM0 := zh (show Lies w0 W.heap.size 33 modZ.cs.toArray from by rw [hw0]; exact Lies.new _ _ _)
 have HB0 := zh (show Below W.heap.size W w0 from by rw [hw0]; exact (Below.refl _ _).alloc (Nat.le_refl _) _)
 have HMB := zh (Nat.le_refl W.heap.size)
 rw [show (W.alloc (.cells #[.slice none 0 0, .slice none 0 0, .slice none 0 0, .slice none 0 0, .slice none 0 0, .slice none 0 0, .slice none 0 0, .bool false, .int .u32 0, .slice none 0 0, .slice none 0 0, .slice none 0 0] 33)) = w0 from hw0.symm]
 clear hw0
 go_wp2_with (first | (refine wl_bsN (e := 5) (d := 2) rfl rfl (u8c 126) rfl (fun w => by kernel_rfl) (fun w1 hb1 hl1 => ?_); obtain ⟨g1, hg1⟩ : ∃ g, g = w0.heap.size := ⟨_, rfl⟩; rw [← hg1] at hl1 ⊢; have HB1 := zh (bt HB0.out hb1); have HP1 := zh hl1; have HM1 := zh (HM0.out.below hb1 HM0.out.lt); clear hb1 hl1 hg1; (try simp only [Act.put, sA, sB, sC])) | (refine wl_bsN (e := 5) (d := 4) rfl rfl (u8c 127) rfl (fun w => by kernel_rfl) (fun w2 hb2 hl2 => ?_); obtain ⟨g2, hg2⟩ : ∃ g, g = w1.heap.size := ⟨_, rfl⟩; rw [← hg2] at hl2 ⊢; have HB2 := zh (bt HB1.out hb2); have HQ2 := zh hl2; have HM2 := zh (HM1.out.below hb2 HM1.out.lt); have HP2 := zh (HP1.out.below hb2 HP1.out.lt); clear hb2 hl2 hg2; (try simp only [Act.put, sA, sB, sC])) | (refine wl_bsN (e := 51) (d := 6) rfl rfl (([⟨.slice none 0 0, [], .slice none 0 0, []⟩, ⟨.slice (some ⟨g1, 0, none⟩) 1 1, [126], .slice none 0 0, []⟩, ⟨.slice (some ⟨g2, 0, none⟩) 1 1, [127], .slice none 0 0, []⟩] : List Ft).flatMap Ft.cs) rfl (fun w => by kernel_rfl) (fun w3 hb3 hl3 => ?_); obtain ⟨g3, hg3⟩ : ∃ g, g = w2.heap.size := ⟨_, rfl⟩; rw [← hg3] at hl3 ⊢; have HB3 := zh (bt HB2.out hb3); have HT3 := zh hl3; have HM3 := zh (HM2.out.below hb3 HM2.out.lt); have HP3 := zh (HP2.out.below hb3 HP2.out.lt); have HQ3 := zh (HQ2.out.below hb3 HQ2.out.lt); clear hb3 hl3 hg3; (try simp only [Act.put, sA, sB, sC])) | (refine wl_bsN (e := 28) (d := 7) rfl rfl (u32c 0) rfl (fun w => by kernel_rfl) (fun w4 hb4 hl4 => ?_); obtain ⟨g4, hg4⟩ : ∃ g, g = w3.heap.size := ⟨_, rfl⟩; rw [← hg4] at hl4 ⊢; have HB4 := zh (bt HB3.out hb4); have HF4 := zh hl4; have HM4 := zh (HM3.out.below hb4 HM3.out.lt); have HP4 := zh (HP3.out.below hb4 HP3.out.lt); have HQ4 := zh (HQ3.out.below hb4 HQ3.out.lt); have HT4 := zh (HT3.out.below hb4 HT3.out.lt); clear hb4 hl4 hg4; (try simp only [Act.put, sA, sB, sC])) | (refine wl_bsN (e := 48) (d := 9) rfl rfl (Cod.cs ⟨.slice none 0 0, [], .slice none 0 0, []⟩) rfl (fun w => by kernel_rfl) (fun w5 hb5 hl5 => ?_); obtain ⟨g5, hg5⟩ : ∃ g, g = w4.heap.size := ⟨_, rfl⟩; rw [← hg5] at hl5 ⊢; have HB5 := zh (bt HB4.out hb5); have HC5 := zh hl5; have HM5 := zh (HM4.out.below hb5 HM4.out.lt); have HP5 := zh (HP4.out.below hb5 HP4.out.lt); have HQ5 := zh (HQ4.out.below hb5 HQ4.out.lt); have HT5 := zh (HT4.out.below hb5 HT4.out.lt); have HF5 := zh (HF4.out.below hb5 HF4.out.lt); clear hb5 hl5 hg5; (try simp only [Act.put, sA, sB, sC])) | (refine wl_bsN (e := 61) (d := 11) rfl rfl (Exp.cs ⟨mainB, 0, 0⟩) rfl (fun w => by kernel_rfl) (fun w6 hb6 hl6 => ?_); obtain ⟨g6, hg6⟩ : ∃ g, g = w5.heap.size := ⟨_, rfl⟩; rw [← hg6] at hl6 ⊢; have HB6 := zh (bt HB5.out hb6); have HE6 := zh hl6; have HM6 := zh (HM5.out.below hb6 HM5.out.lt); have HP6 := zh (HP5.out.below hb6 HP5.out.lt); have HQ6 := zh (HQ5.out.below hb6 HQ5.out.lt); have HT6 := zh (HT5.out.below hb6 HT5.out.lt); have HF6 := zh (HF5.out.below hb6 HF5.out.lt); have HC6 := zh (HC5.out.below hb6 HC5.out.lt); clear hb6 hl6 hg6; (try simp only [Act.put, sA, sB, sC])) | (refine wl_put HM6.out (modR (.slice (some ⟨g3, 0, none⟩) 3 3) (.slice (some ⟨g1, 0, none⟩) 1 1) (.slice (some ⟨g2, 0, none⟩) 1 1) (.slice none 0 0) [] (.slice (some ⟨g4, 0, none⟩) 1 1) (.slice none 0 0) [] (.slice (some ⟨g6, 0, none⟩) 1 1) 0 (.slice (some ⟨g5, 0, none⟩) 1 1)).cs _ _ rfl rfl rfl rfl rfl sizeMod (by simp [modR, Mod.cs, Value.oneCell']) (fun w7 hl7 hf7 => ?_); have HB7 := zh (HB6.out.trans (hf7.below HB6.out.size (fun k hk => by rw [hk]; exact HMB.out))); have HP7 := zh (lies_frT HP6.out (FrT.field HM6.out hf7) (by decide)); have HQ7 := zh (lies_frT HQ6.out (FrT.field HM6.out hf7) (by decide)); have HT7 := zh (lies_frT HT6.out (FrT.field HM6.out hf7) (by decide)); have HF7 := zh (lies_frT HF6.out (FrT.field HM6.out hf7) (by decide)); have HC7 := zh (lies_frT HC6.out (FrT.field HM6.out hf7) (by decide)); have HE7 := zh (lies_frT HE6.out (FrT.field HM6.out hf7) (by decide)); have HM7 := zh hl7; clear hl7 hf7; (try simp only [Act.put])))
 (try simp only [Exit.inBlock, Exit.then])
 refine bodyPost_ret_by (results_c rfl _ _ W.heap.size (modR (.slice (some ⟨g3, 0, none⟩) 3 3) (.slice (some ⟨g1, 0, none⟩) 1 1) (.slice (some ⟨g2, 0, none⟩) 1 1) (.slice none 0 0) [] (.slice (some ⟨g4, 0, none⟩) 1 1) (.slice none 0 0) [] (.slice (some ⟨g6, 0, none⟩) 1 1) 0 (.slice (some ⟨g5, 0, none⟩) 1 1)).cs _ rfl HM7.out Tryz.underlying33 rfl sizeMod) rfl ⟨⟨_, _, _, _, _, _, rfl, ?_⟩, HB7.out⟩
 refine ⟨⟨sl_many (L := ([⟨.slice none 0 0, [], .slice none 0 0, []⟩, ⟨.slice (some ⟨g1, 0, none⟩) 1 1, [126], .slice none 0 0, []⟩, ⟨.slice (some ⟨g2, 0, none⟩) 1 1, [127], .slice none 0 0, []⟩] : List Ft)) Ft.len HT7.out, fun y hy => ?_, (by show (3 : Nat) ≤ 1048576; decide)⟩, nil_ok, ⟨sl_one (x := (0 : Nat)) (en := u32c) HF7.out, fun y hy => ?_, (by show (1 : Nat) ≤ 1048576; decide)⟩, nil_ok, nil_ok, nil_ok, ⟨sl_one (x := (⟨mainB, 0, 0⟩ : Exp)) (en := Exp.cs) HE7.out, fun y hy => ?_, (by show (1 : Nat) ≤ 1048576; decide)⟩, (by show (0 : Nat) < 4294967296; decide), nil_ok, ⟨sl_one (x := (⟨.slice none 0 0, [], .slice none 0 0, []⟩ : Cod)) (en := Cod.cs) HC7.out, fun y hy => ?_, (by show (1 : Nat) ≤ 1048576; decide)⟩, nil_ok⟩
 ·rcases List.mem_cons.1 hy with rfl | hy
  ·exact ⟨nil_ok, nil_ok⟩
  ·rcases List.mem_cons.1 hy with rfl | hy
   ·exact ⟨⟨sl_one (x := (126 : UInt8)) (en := u8c) HP7.out, fun _ _ => trivial, (by show (1 : Nat) ≤ 1048576; decide)⟩, nil_ok⟩
   ·obtain rfl := List.mem_singleton.1 hy
    exact ⟨⟨sl_one (x := (127 : UInt8)) (en := u8c) HQ7.out, fun _ _ => trivial, (by show (1 : Nat) ≤ 1048576; decide)⟩, nil_ok⟩
 ·obtain rfl := List.mem_singleton.1 hy
  show (0 : Nat) < 4294967296
  decide
 ·obtain rfl := List.mem_singleton.1 hy
  exact ⟨by show (0 : Nat) < 4294967296; decide, by show (4 : Nat) ≤ 1048576; decide⟩
 ·obtain rfl := List.mem_singleton.1 hy
  exact ⟨nil_ok, nil_ok⟩
theorem rk0 : rchk modZ = 121 := by kernel_rfl
theorem rk1 (tv p1 p2 iv fv mv ev cv : Value) : rchk (modR tv p1 p2 iv [] fv mv [] ev 0 cv) = 0 := by kernel_rfl
theorem rk2 (tv p1 p2 iv fv mv ev cv : Value) : rchk (modR tv p1 p2 iv [impR ⟨#[99, 97, 108, 108, 101, 114]⟩ 0 1 0] fv mv [] ev 1 cv) = 120 := by kernel_rfl
theorem rk3 (tv p1 p2 iv fv mv ev cv : Value) : rchk (modR tv p1 p2 iv [impR ⟨#[115, 101, 110, 100, 101, 114]⟩ 0 2 0] fv mv [] ev 1 cv) = 120 := by kernel_rfl
theorem rk4 (tv p1 p2 iv fv mv ev cv : Value) : rchk (modR tv p1 p2 iv [impR ⟨#[99, 97, 108, 108, 101, 114]⟩ 2 0 (-1)] fv mv [] ev 0 cv) = 120 := by kernel_rfl
theorem rk5 (tv p1 p2 iv fv mv ev cv : Value) : rchk (modR tv p1 p2 iv [] fv mv [⟨17, -1⟩] ev 0 cv) = 122 := by kernel_rfl
theorem fk1 : hfind [103, 97, 115, 95, 108, 101, 102, 116] = some 15 := by decide +kernel
theorem fk2 : hfind [109, 101, 116, 101, 114] = none := by decide +kernel
theorem modR_ok {w : World} {tv p1 p2 iv fv mv ev cv e0 : Value} {imps : List Imp} {mems : List Lim} {ix : Nat} (h : ModOk w (modR tv p1 p2 (.slice none 0 0) [] fv (.slice none 0 0) [] e0 0 cv)) (hi : Sl w 8 Imp.cs iv imps ∧ (∀ y ∈ imps, ImpOk w y) ∧ imps.length ≤ Bd) (hm : Sl w 2 Lim.cs mv mems ∧ (∀ y ∈ mems, LimOk w y) ∧ mems.length ≤ Bd) (he : Sl w 3 Exp.cs ev [⟨mainB, 0, ix⟩]) (hx : ix < 4294967296) : ModOk w (modR tv p1 p2 iv imps fv mv mems ev ix cv) :=
 ⟨h.1, hi, h.2.2.1, h.2.2.2.1, hm, h.2.2.2.2.2.1, ⟨he, fun y hy => (by obtain rfl := List.mem_singleton.1 hy; exact ⟨hx, (by show (4 : Nat) ≤ 1048576; decide)⟩), (by show (1 : Nat) ≤ 1048576; decide)⟩, h.2.2.2.2.2.2.2.1, h.2.2.2.2.2.2.2.2.1, h.2.2.2.2.2.2.2.2.2.1, h.2.2.2.2.2.2.2.2.2.2⟩
theorem imp1_ok {w : World} {g : Nat} {x : Imp} (h : Lies w g 88 x.cs.toArray) (hx : x.ty < 4294967296 ∧ x.lim.mn < 4294967296 ∧ x.mod.size ≤ Bd ∧ x.nm.size ≤ Bd) : Sl w 8 Imp.cs (.slice (some ⟨g, 0, none⟩) 1 1) [x] ∧ (∀ y ∈ [x], ImpOk w y) ∧ [x].length ≤ Bd :=
 ⟨sl_one h, fun y hy => (by obtain rfl := List.mem_singleton.1 hy; exact ⟨hx.1, hx.2.1, trivial, hx.2.2⟩), (by show (1 : Nat) ≤ 1048576; decide)⟩
set_option maxRecDepth 100000 in
set_option maxHeartbeats 16000000 in
theorem known_any (W : World) : Calls Tryz.prog 19 #[] W fun e w' => e = .returned (.bool true) ∧ Below W.heap.size W w' := by
 go_enter Tryz.func19, Tryz.ntmps19
 have HB0 := zh (Below.refl W.heap.size W)
 go_wp2_with fail
 refine (least_any _).mono ?_
 rintro en w1 ⟨⟨t1, p1, q1, f1, e1, c1, rfl, hm1⟩, hb1⟩
 have HB1 := zh (bt HB0.out hb1)
 have HM1 := zh hm1
 clear hm1 hb1
 go_wp2_with fail
 refine (least_any _).mono ?_
 rintro en w2 ⟨⟨t2, p2, q2, f2, e2, c2, rfl, hm2⟩, hb2⟩
 have HB2 := zh (bt HB1.out hb2)
 replace HM1 := zh (HM1.out.later hb2)
 have HM2 := zh hm2
 clear hm2 hb2
 go_wp2_with fail
 refine (least_any _).mono ?_
 rintro en w3 ⟨⟨t3, p3, q3, f3, e3, c3, rfl, hm3⟩, hb3⟩
 have HB3 := zh (bt HB2.out hb3)
 replace HM1 := zh (HM1.out.later hb3)
 replace HM2 := zh (HM2.out.later hb3)
 have HM3 := zh hm3
 clear hm3 hb3
 go_wp2_with fail
 refine (least_any _).mono ?_
 rintro en w4 ⟨⟨t4, p4, q4, f4, e4, c4, rfl, hm4⟩, hb4⟩
 have HB4 := zh (bt HB3.out hb4)
 replace HM1 := zh (HM1.out.later hb4)
 replace HM2 := zh (HM2.out.later hb4)
 replace HM3 := zh (HM3.out.later hb4)
 have HM4 := zh hm4
 clear hm4 hb4
 have HBU := zh (Nat.le_refl w4.heap.size)
 have HBB := zh HB4.out.size
 have hz1 : Lies (World.alloc (World.alloc (World.alloc (World.alloc w4 (Obj.cells modZ.cs.toArray 33)) (Obj.cells modZ.cs.toArray 33)) (Obj.cells modZ.cs.toArray 33)) (Obj.cells modZ.cs.toArray 33)) (w4.heap.size) 33 modZ.cs.toArray := by
  have h := (Lies.new w4 33 modZ.cs.toArray)
  exact (((h.alloc _).alloc _).alloc _)
 have hz2 : Lies (World.alloc (World.alloc (World.alloc (World.alloc w4 (Obj.cells modZ.cs.toArray 33)) (Obj.cells modZ.cs.toArray 33)) (Obj.cells modZ.cs.toArray 33)) (Obj.cells modZ.cs.toArray 33)) (w4.heap.size + 1) 33 modZ.cs.toArray := by
  have h := (Lies.new (World.alloc w4 (Obj.cells modZ.cs.toArray 33)) 33 modZ.cs.toArray)
  simp only [World.size_alloc] at h
  exact ((h.alloc _).alloc _)
 have hz3 : Lies (World.alloc (World.alloc (World.alloc (World.alloc w4 (Obj.cells modZ.cs.toArray 33)) (Obj.cells modZ.cs.toArray 33)) (Obj.cells modZ.cs.toArray 33)) (Obj.cells modZ.cs.toArray 33)) (w4.heap.size + 1 + 1) 33 modZ.cs.toArray := by
  have h := (Lies.new (World.alloc (World.alloc w4 (Obj.cells modZ.cs.toArray 33)) (Obj.cells modZ.cs.toArray 33)) 33 modZ.cs.toArray)
  simp only [World.size_alloc] at h
  exact (h.alloc _)
 have hz4 : Lies (World.alloc (World.alloc (World.alloc (World.alloc w4 (Obj.cells modZ.cs.toArray 33)) (Obj.cells modZ.cs.toArray 33)) (Obj.cells modZ.cs.toArray 33)) (Obj.cells modZ.cs.toArray 33)) (w4.heap.size + 1 + 1 + 1) 33 modZ.cs.toArray := by
  have h := (Lies.new (World.alloc (World.alloc (World.alloc w4 (Obj.cells modZ.cs.toArray 33)) (Obj.cells modZ.cs.toArray 33)) (Obj.cells modZ.cs.toArray 33)) 33 modZ.cs.toArray)
  simp only [World.size_alloc] at h
  exact h
 have hbz : Below w4.heap.size w4 (World.alloc (World.alloc (World.alloc (World.alloc w4 (Obj.cells modZ.cs.toArray 33)) (Obj.cells modZ.cs.toArray 33)) (Obj.cells modZ.cs.toArray 33)) (Obj.cells modZ.cs.toArray 33)) := ((((Below.refl _ _).alloc (Nat.le_refl _) _).alloc (by simp) _).alloc (by simp; omega) _).alloc (by simp; omega) _
 have HZB := zh hbz
 have HZ1 := zh hz1
 have HZ2 := zh hz2
 have HZ3 := zh hz3
 have HZ4 := zh hz4
 clear hz1 hz2 hz3 hz4 hbz
 obtain ⟨B, hB⟩ : ∃ B, B = w4.heap.size := ⟨_, rfl⟩
 rw [← hB] at HBU HBB
 have HBE := zh hB
 clear hB
 go_upto_region 3 with (first | (refine wl_put HZ1.out (modR t1 p1 q1 (.slice none 0 0) [] f1 (.slice none 0 0) [] (e1) 0 c1).cs _ _ rfl rfl rfl rfl rfl sizeMod (oneModR HM1.out) (fun w5 hl5 hf5 => ?_); have HB5 := zh (bt HB4.out (HZB.out.trans (hf5.below HZB.out.size (fun k hk => by omega)))); have HU5 := zh (HZB.out.trans (hf5.below HZB.out.size (fun k hk => by omega))); have X2_5 := zh (lies_fr HZ2.out hf5 (fun e => by omega)); have X3_5 := zh (lies_fr HZ3.out hf5 (fun e => by omega)); have X4_5 := zh (lies_fr HZ4.out hf5 (fun e => by omega)); have X1_5 := zh hl5; rw [← HBE.out] at X1_5 X2_5 X3_5 X4_5 ⊢; clear hl5 hf5; (try simp only [Act.put])) | (refine wl_put X2_5.out (modR t2 p2 q2 (.slice none 0 0) [] f2 (.slice none 0 0) [] (e2) 0 c2).cs _ _ rfl rfl rfl rfl rfl sizeMod (oneModR HM2.out) (fun w6 hl6 hf6 => ?_); have HB6 := zh (HB5.out.trans (hf6.below HB5.out.size (fun k hk => by have := HBB.out; omega))); have HU6 := zh (HU5.out.trans (hf6.below HU5.out.size (fun k hk => by have := HBE.out; omega))); have X1_6 := zh (lies_fr X1_5.out hf6 (fun e => by omega)); have X3_6 := zh (lies_fr X3_5.out hf6 (fun e => by omega)); have X4_6 := zh (lies_fr X4_5.out hf6 (fun e => by omega)); have X2_6 := zh hl6; clear hl6 hf6; (try simp only [Act.put])) | (refine wl_put X3_6.out (modR t3 p3 q3 (.slice none 0 0) [] f3 (.slice none 0 0) [] (e3) 0 c3).cs _ _ rfl rfl rfl rfl rfl sizeMod (oneModR HM3.out) (fun w7 hl7 hf7 => ?_); have HB7 := zh (HB6.out.trans (hf7.below HB6.out.size (fun k hk => by have := HBB.out; omega))); have HU7 := zh (HU6.out.trans (hf7.below HU6.out.size (fun k hk => by have := HBE.out; omega))); have X1_7 := zh (lies_fr X1_6.out hf7 (fun e => by omega)); have X2_7 := zh (lies_fr X2_6.out hf7 (fun e => by omega)); have X4_7 := zh (lies_fr X4_6.out hf7 (fun e => by omega)); have X3_7 := zh hl7; clear hl7 hf7; (try simp only [Act.put])) | (refine wl_put X4_7.out (modR t4 p4 q4 (.slice none 0 0) [] f4 (.slice none 0 0) [] (e4) 0 c4).cs _ _ rfl rfl rfl rfl rfl sizeMod (oneModR HM4.out) (fun w8 hl8 hf8 => ?_); have HB8 := zh (HB7.out.trans (hf8.below HB7.out.size (fun k hk => by have := HBB.out; omega))); have HU8 := zh (HU7.out.trans (hf8.below HU7.out.size (fun k hk => by have := HBE.out; omega))); have X1_8 := zh (lies_fr X1_7.out hf8 (fun e => by omega)); have X2_8 := zh (lies_fr X2_7.out hf8 (fun e => by omega)); have X3_8 := zh (lies_fr X3_7.out hf8 (fun e => by omega)); have X4_8 := zh hl8; clear hl8 hf8; (try simp only [Act.put])) | (refine wl_bsN (e := 88) (d := 14) rfl rfl (impR ⟨#[99, 97, 108, 108, 101, 114]⟩ 0 1 0).cs rfl (fun w => by kernel_rfl) (fun w9 hb9 hl9 => ?_); obtain ⟨ga, hg9⟩ : ∃ g, g = w8.heap.size := ⟨_, rfl⟩; rw [← hg9] at hl9 ⊢; have HB9 := zh (bt HB8.out hb9); have HU9 := zh (bt HU8.out hb9); have RI_9 := zh hl9; have X1_9 := zh (X1_8.out.below hb9 X1_8.out.lt); have X2_9 := zh (X2_8.out.below hb9 X2_8.out.lt); have X3_9 := zh (X3_8.out.below hb9 X3_8.out.lt); have X4_9 := zh (X4_8.out.below hb9 X4_8.out.lt); clear hb9 hl9 hg9; (try simp only [Act.put, sA, sB, sC])) | (refine wl_bsN (e := 61) (d := 16) rfl rfl (Exp.cs ⟨mainB, 0, 1⟩) rfl (fun w => by kernel_rfl) (fun w10 hb10 hl10 => ?_); obtain ⟨gx, hg10⟩ : ∃ g, g = w9.heap.size := ⟨_, rfl⟩; rw [← hg10] at hl10 ⊢; have HB10 := zh (bt HB9.out hb10); have HU10 := zh (bt HU9.out hb10); have RX_10 := zh hl10; have X1_10 := zh (X1_9.out.below hb10 X1_9.out.lt); have X2_10 := zh (X2_9.out.below hb10 X2_9.out.lt); have X3_10 := zh (X3_9.out.below hb10 X3_9.out.lt); have X4_10 := zh (X4_9.out.below hb10 X4_9.out.lt); have RI_10 := zh (RI_9.out.below hb10 RI_9.out.lt); clear hb10 hl10 hg10; (try simp only [Act.put, sA, sB, sC])) | (refine wl_fld (c0 := (modR t1 p1 q1 (.slice none 0 0) [] f1 (.slice none 0 0) [] (e1) 0 c1).cs) X1_10.out _ _ rfl rfl rfl rfl [.slice (some ⟨ga, 0, none⟩) 1 1] (modR t1 p1 q1 (.slice (some ⟨ga, 0, none⟩) 1 1) [(impR ⟨#[99, 97, 108, 108, 101, 114]⟩ 0 1 0)] f1 (.slice none 0 0) [] (e1) 0 c1).cs rfl (by kernel_rfl) (by intro u hu; obtain rfl := List.mem_singleton.1 hu; rfl) (by simp [modR, Mod.cs]) rfl (fun w11 hl11 hf11 => ?_); have HB11 := zh (HB10.out.trans (hf11.below HB10.out.size (fun k hk => by have := HBB.out; omega))); have HU11 := zh (HU10.out.trans (hf11.below HU10.out.size (fun k hk => by have := HBE.out; omega))); have X2_11 := zh (lies_fr X2_10.out hf11 (fun e => by omega)); have X3_11 := zh (lies_fr X3_10.out hf11 (fun e => by omega)); have X4_11 := zh (lies_fr X4_10.out hf11 (fun e => by omega)); have RI_11 := zh (lies_frT RI_10.out (FrT.field X1_10.out hf11) (by decide)); have RX_11 := zh (lies_frT RX_10.out (FrT.field X1_10.out hf11) (by decide)); have X1_11 := zh hl11; clear hl11 hf11; (try simp only [Act.put])) | (refine wl_fld (c0 := (modR t1 p1 q1 (.slice (some ⟨ga, 0, none⟩) 1 1) [(impR ⟨#[99, 97, 108, 108, 101, 114]⟩ 0 1 0)] f1 (.slice none 0 0) [] (e1) 0 c1).cs) X1_11.out _ _ rfl rfl rfl rfl [.slice (some ⟨gx, 0, none⟩) 1 1] (modR t1 p1 q1 (.slice (some ⟨ga, 0, none⟩) 1 1) [(impR ⟨#[99, 97, 108, 108, 101, 114]⟩ 0 1 0)] f1 (.slice none 0 0) [] (.slice (some ⟨gx, 0, none⟩) 1 1) 1 c1).cs rfl (by kernel_rfl) (by intro u hu; obtain rfl := List.mem_singleton.1 hu; rfl) (by simp [modR, Mod.cs]) rfl (fun w12 hl12 hf12 => ?_); have HB12 := zh (HB11.out.trans (hf12.below HB11.out.size (fun k hk => by have := HBB.out; omega))); have HU12 := zh (HU11.out.trans (hf12.below HU11.out.size (fun k hk => by have := HBE.out; omega))); have X2_12 := zh (lies_fr X2_11.out hf12 (fun e => by omega)); have X3_12 := zh (lies_fr X3_11.out hf12 (fun e => by omega)); have X4_12 := zh (lies_fr X4_11.out hf12 (fun e => by omega)); have RI_12 := zh (lies_frT RI_11.out (FrT.field X1_11.out hf12) (by decide)); have RX_12 := zh (lies_frT RX_11.out (FrT.field X1_11.out hf12) (by decide)); have X1_12 := zh hl12; clear hl12 hf12; (try simp only [Act.put])))
 have hd := below_drew w12
 have X1_13 := zh (X1_12.out.below hd X1_12.out.lt)
 have X2_13 := zh (X2_12.out.below hd X2_12.out.lt)
 have X3_13 := zh (X3_12.out.below hd X3_12.out.lt)
 have X4_13 := zh (X4_12.out.below hd X4_12.out.lt)
 have RI_13 := zh (RI_12.out.below hd RI_12.out.lt)
 have RX_13 := zh (RX_12.out.below hd RX_12.out.lt)
 have HB13 := zh (bt HB12.out hd)
 have HU13 := zh (bt HU12.out hd)
 refine wp_region_t [(0, 1), (2, 1), (3, 1), (1, 0), (4, 1), (5, 0), (6, 1), (7, 0)] (fun w' => w'.cell? ⟨B, 6, none⟩ = some (.slice (some ⟨gx, 0, none⟩) 1 1)) [] [] rfl (by kernel_rfl) (by kernel_rfl) (fun _ _ d _ _ h => by cases d <;> exact h) (X1_13.out.cell 6) (fun p hp => by cases hp) ?_
 clear hd
 generalize w12.drew = w13 at X1_13 X2_13 X3_13 X4_13 RI_13 RX_13 HB13 HU13 ⊢
 repeat (refine ts_take (v := ?_) rfl rfl (fun w' hw' => ?_) ?_; rotate_left; (focus (have q0 := hw'; (try simp only [Act.put, sA, sB, sC]); go_simp; (try go_bits); (try (with_reducible rfl)))); (try simp only [Act.put, sA, sB, sC]))
 refine ts_run1 rfl rfl (fun K hK => ?_)
 refine wp_bs1 (e := 88) (.agg (impR ⟨#[115, 101, 110, 100, 101, 114]⟩ 0 2 0).cs.toArray) (impR ⟨#[115, 101, 110, 100, 101, 114]⟩ 0 2 0).cs (fun w => by kernel_rfl) _ rfl rfl (fun w14 hb14 hl14 => ?_)
 obtain ⟨gb, hg14⟩ : ∃ g, g = w13.heap.size := ⟨_, rfl⟩
 rw [← hg14] at hl14 ⊢
 have RJ_14 := zh hl14
 have X1_14 := zh (X1_13.out.below hb14 X1_13.out.lt)
 have X2_14 := zh (X2_13.out.below hb14 X2_13.out.lt)
 have X3_14 := zh (X3_13.out.below hb14 X3_13.out.lt)
 have X4_14 := zh (X4_13.out.below hb14 X4_13.out.lt)
 have RI_14 := zh (RI_13.out.below hb14 RI_13.out.lt)
 have RX_14 := zh (RX_13.out.below hb14 RX_13.out.lt)
 have HB14 := zh (bt HB13.out hb14)
 have HU14 := zh (bt HU13.out hb14)
 refine hK.out _ _ (X1_14.out.cell 6) (still_none _ _) ?_
 clear hK K hb14 hl14 hg14
 (try simp only [Act.put, sA, sB, sC])
 repeat (refine ts_take (v := ?_) rfl rfl (fun w' hw' => ?_) ?_; rotate_left; (focus (have q0 := hw'; (try simp only [Act.put, sA, sB, sC]); go_simp; (try go_bits); (try (with_reducible rfl)))); (try simp only [Act.put, sA, sB, sC]))
 refine ts_run1 rfl rfl (fun K hK => ?_)
 refine wp_fld (c0 := (modR t2 p2 q2 (.slice none 0 0) [] f2 (.slice none 0 0) [] (e2) 0 c2).cs) X2_14.out _ _ rfl rfl rfl [.slice (some ⟨gb, 0, none⟩) 1 1] (modR t2 p2 q2 (.slice (some ⟨gb, 0, none⟩) 1 1) [(impR ⟨#[115, 101, 110, 100, 101, 114]⟩ 0 2 0)] f2 (.slice none 0 0) [] (e2) 0 c2).cs rfl (by kernel_rfl) (by intro u hu; obtain rfl := List.mem_singleton.1 hu; rfl) (by simp [modR, Mod.cs]) rfl (fun w15 hl15 hf15 => ?_)
 have HB15 := zh (HB14.out.trans (hf15.below HB14.out.size (fun k hk => by have := HBB.out; omega))); have HU15 := zh (HU14.out.trans (hf15.below HU14.out.size (fun k hk => by have := HBE.out; omega))); have X1_15 := zh (lies_fr X1_14.out hf15 (fun e => by omega)); have X3_15 := zh (lies_fr X3_14.out hf15 (fun e => by omega)); have X4_15 := zh (lies_fr X4_14.out hf15 (fun e => by omega)); have RI_15 := zh (lies_frT RI_14.out (FrT.field X2_14.out hf15) (by decide)); have RX_15 := zh (lies_frT RX_14.out (FrT.field X2_14.out hf15) (by decide)); have RJ_15 := zh (lies_frT RJ_14.out (FrT.field X2_14.out hf15) (by decide)); have X2_15 := zh hl15
 refine hK.out _ _ (X1_15.out.cell 6) (still_none _ _) ?_
 clear hK K hl15 hf15
 (try simp only [Act.put])
 repeat (refine ts_take (v := ?_) rfl rfl (fun w' hw' => ?_) ?_; rotate_left; (focus (have q0 := hw'; (try simp only [Act.put, sA, sB, sC]); go_simp; (try go_bits); (try (with_reducible rfl)))); (try simp only [Act.put, sA, sB, sC]))
 refine ts_run1 rfl rfl (fun K hK => ?_)
 refine wp_fld (c0 := (modR t2 p2 q2 (.slice (some ⟨gb, 0, none⟩) 1 1) [(impR ⟨#[115, 101, 110, 100, 101, 114]⟩ 0 2 0)] f2 (.slice none 0 0) [] (e2) 0 c2).cs) X2_15.out _ _ rfl rfl rfl [.slice (some ⟨gx, 0, none⟩) 1 1] (modR t2 p2 q2 (.slice (some ⟨gb, 0, none⟩) 1 1) [(impR ⟨#[115, 101, 110, 100, 101, 114]⟩ 0 2 0)] f2 (.slice none 0 0) [] (.slice (some ⟨gx, 0, none⟩) 1 1) 1 c2).cs rfl (by kernel_rfl) (by intro u hu; obtain rfl := List.mem_singleton.1 hu; rfl) (by simp [modR, Mod.cs]) rfl (fun w16 hl16 hf16 => ?_)
 have HB16 := zh (HB15.out.trans (hf16.below HB15.out.size (fun k hk => by have := HBB.out; omega))); have HU16 := zh (HU15.out.trans (hf16.below HU15.out.size (fun k hk => by have := HBE.out; omega))); have X1_16 := zh (lies_fr X1_15.out hf16 (fun e => by omega)); have X3_16 := zh (lies_fr X3_15.out hf16 (fun e => by omega)); have X4_16 := zh (lies_fr X4_15.out hf16 (fun e => by omega)); have RI_16 := zh (lies_frT RI_15.out (FrT.field X2_15.out hf16) (by decide)); have RX_16 := zh (lies_frT RX_15.out (FrT.field X2_15.out hf16) (by decide)); have RJ_16 := zh (lies_frT RJ_15.out (FrT.field X2_15.out hf16) (by decide)); have X2_16 := zh hl16
 refine hK.out _ _ (X1_16.out.cell 6) (still_none _ _) ?_
 clear hK K hl16 hf16
 (try simp only [Act.put])
 refine ts_done ?_
 go_wp2_with (first | (refine wl_bsN (e := 88) (d := 27) rfl rfl (impR ⟨#[99, 97, 108, 108, 101, 114]⟩ 2 0 (-1)).cs rfl (fun w => by kernel_rfl) (fun w17 hb17 hl17 => ?_); obtain ⟨gc, hg17⟩ : ∃ g, g = w16.heap.size := ⟨_, rfl⟩; rw [← hg17] at hl17 ⊢; have HB17 := zh (bt HB16.out hb17); have HU17 := zh (bt HU16.out hb17); have RK_17 := zh hl17; have X1_17 := zh (X1_16.out.below hb17 X1_16.out.lt); have X2_17 := zh (X2_16.out.below hb17 X2_16.out.lt); have X3_17 := zh (X3_16.out.below hb17 X3_16.out.lt); have X4_17 := zh (X4_16.out.below hb17 X4_16.out.lt); have RI_17 := zh (RI_16.out.below hb17 RI_16.out.lt); have RX_17 := zh (RX_16.out.below hb17 RX_16.out.lt); have RJ_17 := zh (RJ_16.out.below hb17 RJ_16.out.lt); clear hb17 hl17 hg17; (try simp only [Act.put, sA, sB, sC])) | (refine wl_fld (c0 := (modR t3 p3 q3 (.slice none 0 0) [] f3 (.slice none 0 0) [] (e3) 0 c3).cs) X3_17.out _ _ rfl rfl rfl rfl [.slice (some ⟨gc, 0, none⟩) 1 1] (modR t3 p3 q3 (.slice (some ⟨gc, 0, none⟩) 1 1) [(impR ⟨#[99, 97, 108, 108, 101, 114]⟩ 2 0 (-1))] f3 (.slice none 0 0) [] (e3) 0 c3).cs rfl (by kernel_rfl) (by intro u hu; obtain rfl := List.mem_singleton.1 hu; rfl) (by simp [modR, Mod.cs]) rfl (fun w18 hl18 hf18 => ?_); have HB18 := zh (HB17.out.trans (hf18.below HB17.out.size (fun k hk => by have := HBB.out; omega))); have HU18 := zh (HU17.out.trans (hf18.below HU17.out.size (fun k hk => by have := HBE.out; omega))); have X1_18 := zh (lies_fr X1_17.out hf18 (fun e => by omega)); have X2_18 := zh (lies_fr X2_17.out hf18 (fun e => by omega)); have X4_18 := zh (lies_fr X4_17.out hf18 (fun e => by omega)); have RI_18 := zh (lies_frT RI_17.out (FrT.field X3_17.out hf18) (by decide)); have RX_18 := zh (lies_frT RX_17.out (FrT.field X3_17.out hf18) (by decide)); have RJ_18 := zh (lies_frT RJ_17.out (FrT.field X3_17.out hf18) (by decide)); have RK_18 := zh (lies_frT RK_17.out (FrT.field X3_17.out hf18) (by decide)); have X3_18 := zh hl18; clear hl18 hf18; (try simp only [Act.put])) | (refine wl_bsN (e := 84) (d := 30) rfl rfl (Lim.cs ⟨17, -1⟩) rfl (fun w => by kernel_rfl) (fun w19 hb19 hl19 => ?_); obtain ⟨gl, hg19⟩ : ∃ g, g = w18.heap.size := ⟨_, rfl⟩; rw [← hg19] at hl19 ⊢; have HB19 := zh (bt HB18.out hb19); have HU19 := zh (bt HU18.out hb19); have RL_19 := zh hl19; have X1_19 := zh (X1_18.out.below hb19 X1_18.out.lt); have X2_19 := zh (X2_18.out.below hb19 X2_18.out.lt); have X3_19 := zh (X3_18.out.below hb19 X3_18.out.lt); have X4_19 := zh (X4_18.out.below hb19 X4_18.out.lt); have RI_19 := zh (RI_18.out.below hb19 RI_18.out.lt); have RX_19 := zh (RX_18.out.below hb19 RX_18.out.lt); have RJ_19 := zh (RJ_18.out.below hb19 RJ_18.out.lt); have RK_19 := zh (RK_18.out.below hb19 RK_18.out.lt); clear hb19 hl19 hg19; (try simp only [Act.put, sA, sB, sC])) | (refine wl_fld (c0 := (modR t4 p4 q4 (.slice none 0 0) [] f4 (.slice none 0 0) [] (e4) 0 c4).cs) X4_19.out _ _ rfl rfl rfl rfl [.slice (some ⟨gl, 0, none⟩) 1 1] (modR t4 p4 q4 (.slice none 0 0) [] f4 (.slice (some ⟨gl, 0, none⟩) 1 1) [⟨17, -1⟩] (e4) 0 c4).cs rfl (by kernel_rfl) (by intro u hu; obtain rfl := List.mem_singleton.1 hu; rfl) (by simp [modR, Mod.cs]) rfl (fun w20 hl20 hf20 => ?_); have HB20 := zh (HB19.out.trans (hf20.below HB19.out.size (fun k hk => by have := HBB.out; omega))); have HU20 := zh (HU19.out.trans (hf20.below HU19.out.size (fun k hk => by have := HBE.out; omega))); have X1_20 := zh (lies_fr X1_19.out hf20 (fun e => by omega)); have X2_20 := zh (lies_fr X2_19.out hf20 (fun e => by omega)); have X3_20 := zh (lies_fr X3_19.out hf20 (fun e => by omega)); have RI_20 := zh (lies_frT RI_19.out (FrT.field X4_19.out hf20) (by decide)); have RX_20 := zh (lies_frT RX_19.out (FrT.field X4_19.out hf20) (by decide)); have RJ_20 := zh (lies_frT RJ_19.out (FrT.field X4_19.out hf20) (by decide)); have RK_20 := zh (lies_frT RK_19.out (FrT.field X4_19.out hf20) (by decide)); have RL_20 := zh (lies_frT RL_19.out (FrT.field X4_19.out hf20) (by decide)); have X4_20 := zh hl20; clear hl20 hf20; (try simp only [Act.put])))
 refine (find_any _ _).mono ?_
 rintro en w21 ⟨rfl, hb⟩
 have X1_21 := zh (X1_20.out.below hb X1_20.out.lt)
 have X2_21 := zh (X2_20.out.below hb X2_20.out.lt)
 have X3_21 := zh (X3_20.out.below hb X3_20.out.lt)
 have X4_21 := zh (X4_20.out.below hb X4_20.out.lt)
 have RI_21 := zh (RI_20.out.below hb RI_20.out.lt)
 have RX_21 := zh (RX_20.out.below hb RX_20.out.lt)
 have RJ_21 := zh (RJ_20.out.below hb RJ_20.out.lt)
 have RK_21 := zh (RK_20.out.below hb RK_20.out.lt)
 have RL_21 := zh (RL_20.out.below hb RL_20.out.lt)
 have HB21 := zh (bt HB20.out hb)
 have HU21 := zh (bt HU20.out hb)
 clear hb
 rw [show nmL ⟨#[103, 97, 115, 95, 108, 101, 102, 116]⟩ = [103, 97, 115, 95, 108, 101, 102, 116] from rfl, fk1]
 go_wp2_with fail
 refine (find_any _ _).mono ?_
 rintro en w22 ⟨rfl, hb⟩
 have X1_22 := zh (X1_21.out.below hb X1_21.out.lt)
 have X2_22 := zh (X2_21.out.below hb X2_21.out.lt)
 have X3_22 := zh (X3_21.out.below hb X3_21.out.lt)
 have X4_22 := zh (X4_21.out.below hb X4_21.out.lt)
 have RI_22 := zh (RI_21.out.below hb RI_21.out.lt)
 have RX_22 := zh (RX_21.out.below hb RX_21.out.lt)
 have RJ_22 := zh (RJ_21.out.below hb RJ_21.out.lt)
 have RK_22 := zh (RK_21.out.below hb RK_21.out.lt)
 have RL_22 := zh (RL_21.out.below hb RL_21.out.lt)
 have HB22 := zh (bt HB21.out hb)
 have HU22 := zh (bt HU21.out hb)
 clear hb
 rw [show nmL ⟨#[109, 101, 116, 101, 114]⟩ = [109, 101, 116, 101, 114] from rfl, fk2]
 go_wp2_with fail
 refine (rcheck_any (m := modZ) (modZ_ok _)).mono ?_
 rintro en w23 ⟨rfl, hb⟩
 have X1_23 := zh (X1_22.out.below hb X1_22.out.lt)
 have X2_23 := zh (X2_22.out.below hb X2_22.out.lt)
 have X3_23 := zh (X3_22.out.below hb X3_22.out.lt)
 have X4_23 := zh (X4_22.out.below hb X4_22.out.lt)
 have RI_23 := zh (RI_22.out.below hb RI_22.out.lt)
 have RX_23 := zh (RX_22.out.below hb RX_22.out.lt)
 have RJ_23 := zh (RJ_22.out.below hb RJ_22.out.lt)
 have RK_23 := zh (RK_22.out.below hb RK_22.out.lt)
 have RL_23 := zh (RL_22.out.below hb RL_22.out.lt)
 have HB23 := zh (bt HB22.out hb)
 have HU23 := zh (bt HU22.out hb)
 clear hb
 rw [rk0]
 go_wp2_with fail
 refine (least_any _).mono ?_
 rintro en w24 ⟨⟨t9, p9, q9, f9, e9, c9, rfl, hm9⟩, hb⟩
 have X1_24 := zh (X1_23.out.below hb X1_23.out.lt)
 have X2_24 := zh (X2_23.out.below hb X2_23.out.lt)
 have X3_24 := zh (X3_23.out.below hb X3_23.out.lt)
 have X4_24 := zh (X4_23.out.below hb X4_23.out.lt)
 have RI_24 := zh (RI_23.out.below hb RI_23.out.lt)
 have RX_24 := zh (RX_23.out.below hb RX_23.out.lt)
 have RJ_24 := zh (RJ_23.out.below hb RJ_23.out.lt)
 have RK_24 := zh (RK_23.out.below hb RK_23.out.lt)
 have RL_24 := zh (RL_23.out.below hb RL_23.out.lt)
 have HB24 := zh (bt HB23.out hb)
 have HU24 := zh (bt HU23.out hb)
 clear hb
 go_wp2_with fail
 refine (rcheck_any hm9).mono ?_
 rintro en w25 ⟨rfl, hb⟩
 have X1_25 := zh (X1_24.out.below hb X1_24.out.lt)
 have X2_25 := zh (X2_24.out.below hb X2_24.out.lt)
 have X3_25 := zh (X3_24.out.below hb X3_24.out.lt)
 have X4_25 := zh (X4_24.out.below hb X4_24.out.lt)
 have RI_25 := zh (RI_24.out.below hb RI_24.out.lt)
 have RX_25 := zh (RX_24.out.below hb RX_24.out.lt)
 have RJ_25 := zh (RJ_24.out.below hb RJ_24.out.lt)
 have RK_25 := zh (RK_24.out.below hb RK_24.out.lt)
 have RL_25 := zh (RL_24.out.below hb RL_24.out.lt)
 have HB25 := zh (bt HB24.out hb)
 have HU25 := zh (bt HU24.out hb)
 clear hb
 rw [rk1]
 go_wp2_with (refine wl_loadw (lies_range X1_25.out) _ rfl rfl rfl Tryz.underlying33 rfl sizeMod ?_; (try simp only [Act.put, sA, sB, sC]))
 refine (rcheck_any (modR_ok (HM1.out.later HU25.out) (imp1_ok RI_25.out ⟨(by decide), (by decide), (by show (3 : Nat) ≤ 1048576; decide), (by show (6 : Nat) ≤ 1048576; decide)⟩) nil_ok (sl_one (x := (⟨mainB, 0, 1⟩ : Exp)) (en := Exp.cs) RX_25.out) (by decide))).mono ?_
 rintro en w26 ⟨rfl, hb⟩
 have X1_26 := zh (X1_25.out.below hb X1_25.out.lt)
 have X2_26 := zh (X2_25.out.below hb X2_25.out.lt)
 have X3_26 := zh (X3_25.out.below hb X3_25.out.lt)
 have X4_26 := zh (X4_25.out.below hb X4_25.out.lt)
 have RI_26 := zh (RI_25.out.below hb RI_25.out.lt)
 have RX_26 := zh (RX_25.out.below hb RX_25.out.lt)
 have RJ_26 := zh (RJ_25.out.below hb RJ_25.out.lt)
 have RK_26 := zh (RK_25.out.below hb RK_25.out.lt)
 have RL_26 := zh (RL_25.out.below hb RL_25.out.lt)
 have HB26 := zh (bt HB25.out hb)
 have HU26 := zh (bt HU25.out hb)
 clear hb
 rw [rk2]
 go_wp2_with (refine wl_loadw (lies_range X2_26.out) _ rfl rfl rfl Tryz.underlying33 rfl sizeMod ?_; (try simp only [Act.put, sA, sB, sC]))
 refine (rcheck_any (modR_ok (HM2.out.later HU26.out) (imp1_ok RJ_26.out ⟨(by decide), (by decide), (by show (3 : Nat) ≤ 1048576; decide), (by show (6 : Nat) ≤ 1048576; decide)⟩) nil_ok (sl_one (x := (⟨mainB, 0, 1⟩ : Exp)) (en := Exp.cs) RX_26.out) (by decide))).mono ?_
 rintro en w27 ⟨rfl, hb⟩
 have X1_27 := zh (X1_26.out.below hb X1_26.out.lt)
 have X2_27 := zh (X2_26.out.below hb X2_26.out.lt)
 have X3_27 := zh (X3_26.out.below hb X3_26.out.lt)
 have X4_27 := zh (X4_26.out.below hb X4_26.out.lt)
 have RI_27 := zh (RI_26.out.below hb RI_26.out.lt)
 have RX_27 := zh (RX_26.out.below hb RX_26.out.lt)
 have RJ_27 := zh (RJ_26.out.below hb RJ_26.out.lt)
 have RK_27 := zh (RK_26.out.below hb RK_26.out.lt)
 have RL_27 := zh (RL_26.out.below hb RL_26.out.lt)
 have HB27 := zh (bt HB26.out hb)
 have HU27 := zh (bt HU26.out hb)
 clear hb
 rw [rk3]
 go_wp2_with (refine wl_loadw (lies_range X3_27.out) _ rfl rfl rfl Tryz.underlying33 rfl sizeMod ?_; (try simp only [Act.put, sA, sB, sC]))
 refine (rcheck_any (modR_ok (HM3.out.later HU27.out) (imp1_ok RK_27.out ⟨(by decide), (by decide), (by show (3 : Nat) ≤ 1048576; decide), (by show (6 : Nat) ≤ 1048576; decide)⟩) nil_ok (HM3.out.later HU27.out).2.2.2.2.2.2.1.1 (by decide))).mono ?_
 rintro en w28 ⟨rfl, hb⟩
 have X1_28 := zh (X1_27.out.below hb X1_27.out.lt)
 have X2_28 := zh (X2_27.out.below hb X2_27.out.lt)
 have X3_28 := zh (X3_27.out.below hb X3_27.out.lt)
 have X4_28 := zh (X4_27.out.below hb X4_27.out.lt)
 have RI_28 := zh (RI_27.out.below hb RI_27.out.lt)
 have RX_28 := zh (RX_27.out.below hb RX_27.out.lt)
 have RJ_28 := zh (RJ_27.out.below hb RJ_27.out.lt)
 have RK_28 := zh (RK_27.out.below hb RK_27.out.lt)
 have RL_28 := zh (RL_27.out.below hb RL_27.out.lt)
 have HB28 := zh (bt HB27.out hb)
 have HU28 := zh (bt HU27.out hb)
 clear hb
 rw [rk4]
 go_wp2_with (refine wl_loadw (lies_range X4_28.out) _ rfl rfl rfl Tryz.underlying33 rfl sizeMod ?_; (try simp only [Act.put, sA, sB, sC]))
 refine (rcheck_any (modR_ok (HM4.out.later HU28.out) nil_ok ⟨sl_one RL_28.out, fun y hy => (by obtain rfl := List.mem_singleton.1 hy; show (17 : Nat) < 4294967296; decide), (by show (1 : Nat) ≤ 1048576; decide)⟩ (HM4.out.later HU28.out).2.2.2.2.2.2.1.1 (by decide))).mono ?_
 rintro en w29 ⟨rfl, hb⟩
 have X1_29 := zh (X1_28.out.below hb X1_28.out.lt)
 have X2_29 := zh (X2_28.out.below hb X2_28.out.lt)
 have X3_29 := zh (X3_28.out.below hb X3_28.out.lt)
 have X4_29 := zh (X4_28.out.below hb X4_28.out.lt)
 have RI_29 := zh (RI_28.out.below hb RI_28.out.lt)
 have RX_29 := zh (RX_28.out.below hb RX_28.out.lt)
 have RJ_29 := zh (RJ_28.out.below hb RJ_28.out.lt)
 have RK_29 := zh (RK_28.out.below hb RK_28.out.lt)
 have RL_29 := zh (RL_28.out.below hb RL_28.out.lt)
 have HB29 := zh (bt HB28.out hb)
 have HU29 := zh (bt HU28.out hb)
 clear hb
 rw [rk5]
 go_wp2_with fail
 go_ret
 exact ⟨rfl, HB29.out⟩
end Go.Proofs.YtmgjcaikldeioaaGreat.Ru
namespace Go.Proofs.YtmgjcaikldeioaaGreat.Ru
open Gr Ty Va

section
variable {m : Mod}
theorem codE_all {H : Nat → Nat} : ∀ (l : List Cod) (A : List Nat), (∀ (i : Nat) (c : Cod), l[i]? = some c → codC m (A.length + i) c = (H (A.length + i), 0)) → codE m l A 0 = (A ++ (List.range l.length).map (fun i => H (A.length + i)), 0)
 | [], A, _ => by simp [codE]
 | c :: r, A, h => by
  have h0 := h 0 c rfl
  rw [Nat.add_zero] at h0
  rw [codE, if_pos rfl, h0]
  show codE m r (A ++ [H A.length]) (mst 0 true 0) = _
  rw [mst_true, codE_all r (A ++ [H A.length]) (fun i c hi => by
   rw [List.length_append, List.length_singleton, Nat.add_assoc, Nat.add_comm 1 i]
   exact h (i + 1) c hi)]
  rw [List.append_assoc, List.length_cons, List.range_succ_eq_map, List.map_cons, List.map_map, List.length_append, List.length_singleton, Nat.add_zero]
  congr 2
  rw [List.singleton_append]
  congr 1
  refine List.map_congr_left fun i _ => ?_
  show H (A.length + 1 + i) = H (A.length + (i + 1))
  rw [Nat.add_assoc, Nat.add_comm 1 i]
/-- A module of types, functions, tables, memories, globals, exports, codes alone. -/
theorem vchk_of {H : Nat → Nat} (hi : m.imps = []) (he : m.elems = []) (hd : m.datas = []) (hs : m.hs = false) (hl : m.codes.length = m.funcs.length) (ht : ∀ t ∈ m.types, typE t 0 = 0) (hf : ∀ f ∈ m.funcs, (m.types[f]?).isSome = true) (hx : ∀ x ∈ m.exps, x.kind ≤ 3 ∧ thereB m x.kind x.ix = true) (ho : Once m.exps []) (hst : storesE m 0 = 0) (hg : ∀ g ∈ m.globs, glbE m g 0 = 0) (hc : ∀ (i : Nat) (c : Cod), m.codes[i]? = some c → codC m i c = (H i, 0)) : vchk m = ((List.range m.codes.length).map H, 0) := by
 have g1 : eachE (fun (x : Imp) e => mst e (decide (x.kind ≤ 3)) 2) m.imps (mst 0 (m.codes.length == m.funcs.length) 2) = 0 := by
  rw [hi, hl, beq_self_eq_true, mst_true]
  rfl
 have g2 : eachE (fun (x : Exp) e => mst e (decide (x.kind ≤ 3)) 2) m.exps 0 = 0 := (eachE_zero (f := fun (x : Exp) e => mst e (decide (x.kind ≤ 3)) 2) (fun x e => mst_back (by decide))).2 ⟨rfl, fun x hx' => by rw [decide_eq_true (hx x hx').1, mst_true]⟩
 have g3 : mid m 0 = 0 := by
  unfold mid
  rw [(eachE_zero (f := typE) (fun x e => typE_back)).2 ⟨rfl, ht⟩, hi]
  show eachE (glbE m) m.globs (storesE m (eachE (fun t e => mst e (m.types[t]?).isSome 80) m.funcs 0)) = 0
  rw [(eachE_zero (f := fun t e => mst e (m.types[t]?).isSome 80) (fun x e => mst_back (by decide))).2 ⟨rfl, fun f hf' => by rw [hf f hf', mst_true]⟩, hst]
  exact (eachE_zero (f := glbE m) (fun x e => glbE_back)).2 ⟨rfl, hg⟩
 have g9 : fore9 m = 0 := by
  rw [fore9_eq, g1, g2, g3]
  exact expE_iff.2 ⟨fun x hx' => (hx x hx').2, ho⟩
 have gf : fore m = 0 := by
  unfold fore
  rw [hs, g9, he]
  rfl
 have hcod := codE_all (m := m) (H := H) m.codes [] (fun i c h => by rw [List.length_nil, Nat.zero_add]; exact hc i c h)
 have hcod2 : codE m m.codes [] 0 = ((List.range m.codes.length).map H, 0) := by
  rw [hcod]
  simp
 unfold vchk
 simp only [gf, hcod2, hd]
 rfl
theorem rchk_of {H : Nat → Nat} (hi : m.imps = []) (he : m.elems = []) (hd : m.datas = []) (hs : m.hs = false) (hl : m.codes.length = m.funcs.length) (ht : ∀ t ∈ m.types, typE t 0 = 0) (hf : ∀ f ∈ m.funcs, (m.types[f]?).isSome = true) (hx : ∀ x ∈ m.exps, x.kind ≤ 3 ∧ thereB m x.kind x.ix = true) (ho : Once m.exps []) (hst : storesE m 0 = 0) (hg : ∀ g ∈ m.globs, glbE m g 0 = 0) (hc : ∀ (i : Nat) (c : Cod), m.codes[i]? = some c → codC m i c = (H i, 0)) (hex : expR m m.exps false = true) {z : Bool} (hz : sizeS m ((List.range m.codes.length).map H) = z) : rchk m = if z = true then 0 else 122 := by
 have hv := vchk_of hi he hd hs hl ht hf hx ho hst hg hc
 unfold rchk
 rw [hv, hi, hex]
 show (if (0 : Nat) ≠ 0 then 0 else if sizeS m ((List.range m.codes.length).map H) = false then 122 else if true = false then 120 else if true = false then 121 else 0) = _
 rw [hz]
 cases z <;> rfl
end
/-- A module of the kinds that the statement builds. -/
def modQ (tv : Value) (types : List Ft) (fv : Value) (funcs : List Nat) (bv : Value) (tabs : List Lim) (mv : Value) (mems : List Lim) (gv : Value) (globs : List Glb) (ev : Value) (exps : List Exp) (cv : Value) (codes : List Cod) : Mod := ⟨tv, types, .slice none 0 0, [], fv, funcs, bv, tabs, mv, mems, gv, globs, ev, exps, false, 0, .slice none 0 0, [], cv, codes, .slice none 0 0, []⟩
def ftE : Ft := ⟨.slice none 0 0, [], .slice none 0 0, []⟩
def typ0 (p1 p2 : Value) : List Ft := [ftE, ⟨p1, [126], .slice none 0 0, []⟩, ⟨p2, [127], .slice none 0 0, []⟩]
def exp0 : Exp := ⟨mainB, 0, 0⟩
def cod0 : Cod := ⟨.slice none 0 0, [], .slice none 0 0, []⟩
abbrev nilV : Value := .slice none 0 0
theorem typ0_ok (p1 p2 : Value) : ∀ t ∈ typ0 p1 p2, typE t 0 = 0 := by
 intro t ht
 simp only [typ0, List.mem_cons, List.not_mem_nil, or_false] at ht
 rcases ht with rfl | rfl | rfl <;> rfl
theorem one_at {α : Type} {x c : α} {i : Nat} (h : ([x] : List α)[i]? = some c) : i = 0 ∧ c = x := by
 cases i with
 | zero => exact ⟨rfl, (Option.some.inj h).symm⟩
 | succ i => cases h
theorem lim_iff {a b : Nat} : (if decide (a ≤ b) = true then 0 else 122) = if a ≤ b then 0 else 122 := by simp
/-- Types. -/
theorem rs0 (tv p1 p2 fv ev cv : Value) (n : Nat) : rchk (modQ tv (typ0 p1 p2 ++ List.replicate n ftE) fv [0] nilV [] nilV [] nilV [] ev [exp0] cv [cod0]) = if n + 3 ≤ 256 then 0 else 122 := by
 rw [← lim_iff]
 refine rchk_of (H := fun _ => 0) rfl rfl rfl rfl rfl ?_ ?_ ?_ ?_ rfl (fun _ h => by cases h) ?_ rfl ?_
 ·intro t ht
  rcases List.mem_append.1 ht with ht | ht
  ·exact typ0_ok p1 p2 t ht
  ·rw [List.eq_of_mem_replicate ht]; rfl
 ·intro f hf
  obtain rfl := List.mem_singleton.1 hf
  rfl
 ·intro x hx
  obtain rfl := List.mem_singleton.1 hx
  exact ⟨by decide, rfl⟩
 ·exact ⟨by simp, trivial⟩
 ·intro i c h
  obtain ⟨rfl, rfl⟩ := one_at h
  rfl
 ·unfold sizeS listS
  have h1 : codsP (modQ tv (typ0 p1 p2 ++ List.replicate n ftE) fv [0] nilV [] nilV [] nilV [] ev [exp0] cv [cod0]) [0] 1 = true := rfl
  have h2 : (typ0 p1 p2 ++ List.replicate n ftE).all (fun t => decide (t.p.length ≤ 16)) = true := by
   rw [List.all_append, Bool.and_eq_true]
   exact ⟨rfl, by simp [ftE]⟩
  show (((decide ((typ0 p1 p2 ++ List.replicate n ftE).length ≤ 256) && true) && ((typ0 p1 p2 ++ List.replicate n ftE).all (fun t => decide (t.p.length ≤ 16)) && true)) && codsP _ [0] 1) = _
  rw [h1, h2]
  simp [typ0]
/-- A table's, a memory's least size. -/
theorem rs10 (tv p1 p2 fv bv ev cv : Value) (n : Nat) (hn : n ≤ 9000) : rchk (modQ tv (typ0 p1 p2) fv [0] bv [⟨n, -1⟩] nilV [] nilV [] ev [exp0] cv [cod0]) = if n ≤ 1024 then 0 else 122 := by
 rw [← lim_iff]
 refine rchk_of (H := fun _ => 0) rfl rfl rfl rfl rfl (typ0_ok p1 p2) ?_ ?_ ?_ ?_ (fun _ h => by cases h) ?_ rfl ?_
 ·intro f hf
  obtain rfl := List.mem_singleton.1 hf
  rfl
 ·intro x hx
  obtain rfl := List.mem_singleton.1 hx
  exact ⟨by decide, rfl⟩
 ·exact ⟨by simp, trivial⟩
 ·show limO (some ⟨n, -1⟩) 4294967295 0 = 0
  unfold limO limE
  simp [mst]
  omega
 ·intro i c h
  obtain ⟨rfl, rfl⟩ := one_at h
  rfl
 ·show (decide (n ≤ 1024) && true && true) = _
  simp
theorem rs11 (tv p1 p2 fv mv ev cv : Value) (n : Nat) (hn : n ≤ 9000) : rchk (modQ tv (typ0 p1 p2) fv [0] nilV [] mv [⟨n, -1⟩] nilV [] ev [exp0] cv [cod0]) = if n ≤ 16 then 0 else 122 := by
 rw [← lim_iff]
 refine rchk_of (H := fun _ => 0) rfl rfl rfl rfl rfl (typ0_ok p1 p2) ?_ ?_ ?_ ?_ (fun _ h => by cases h) ?_ rfl ?_
 ·intro f hf
  obtain rfl := List.mem_singleton.1 hf
  rfl
 ·intro x hx
  obtain rfl := List.mem_singleton.1 hx
  exact ⟨by decide, rfl⟩
 ·exact ⟨by simp, trivial⟩
 ·show limO (some ⟨n, -1⟩) 65536 0 = 0
  unfold limO limE
  simp [mst]
  omega
 ·intro i c h
  obtain ⟨rfl, rfl⟩ := one_at h
  rfl
 ·show (decide (n ≤ 16) && true) = _
  simp
/-- Functions. -/
theorem rs2 (tv p1 p2 fv ev cv : Value) (n : Nat) : rchk (modQ tv (typ0 p1 p2) fv (0 :: List.replicate n 0) nilV [] nilV [] nilV [] ev [exp0] cv (cod0 :: List.replicate n cod0)) = if n + 1 ≤ 512 then 0 else 122 := by
 rw [← lim_iff]
 have hmem : ∀ z ∈ (0 :: List.replicate n 0 : List Nat), z = 0 := by
  intro z hz
  rcases List.mem_cons.1 hz with rfl | hz
  ·rfl
  ·exact List.eq_of_mem_replicate hz
 obtain ⟨fs, hfs⟩ : ∃ fs, fs = (0 :: List.replicate n 0 : List Nat) := ⟨_, rfl⟩
 have hlen : fs.length = n + 1 := by rw [hfs]; simp
 have hmc : ∀ z ∈ (cod0 :: List.replicate n cod0 : List Cod), z = cod0 := by
  intro z hz
  rcases List.mem_cons.1 hz with rfl | hz
  ·rfl
  ·exact List.eq_of_mem_replicate hz
 obtain ⟨cs, hcs⟩ : ∃ cs, cs = (cod0 :: List.replicate n cod0 : List Cod) := ⟨_, rfl⟩
 have hclen : cs.length = n + 1 := by rw [hcs]; simp
 rw [← hfs] at hmem ⊢
 rw [← hcs] at hmc ⊢
 have hft : ∀ i, ftype (modQ tv (typ0 p1 p2) fv fs nilV [] nilV [] nilV [] ev [exp0] cv cs) i = none ∨ ftype (modQ tv (typ0 p1 p2) fv fs nilV [] nilV [] nilV [] ev [exp0] cv cs) i = some ftE := by
  intro i
  show (fs[i]?).bind (fun j => (typ0 p1 p2)[j]?) = none ∨ (fs[i]?).bind (fun j => (typ0 p1 p2)[j]?) = some ftE
  cases h : fs[i]? with
  | none => exact .inl rfl
  | some z => rw [hmem z (List.mem_of_getElem? h)]; exact .inr rfl
 refine rchk_of (H := fun _ => 0) rfl rfl rfl rfl ?_ (typ0_ok p1 p2) ?_ ?_ ?_ rfl (fun _ h => by cases h) ?_ ?_ ?_
 ·show cs.length = fs.length
  rw [hlen, hclen]
 ·intro f hf
  rw [hmem f hf]
  rfl
 ·intro x hx
  obtain rfl := List.mem_singleton.1 hx
  refine ⟨by decide, ?_⟩
  show decide (0 < ([] : List Imp).length + fs.length) = true
  rw [hlen]
  simp
 ·exact ⟨by simp, trivial⟩
 ·intro i c h
  rw [hmc c (List.mem_of_getElem? h)]
  unfold codC fnA
  rcases hft ((Gr.fk (modQ tv (typ0 p1 p2) fv fs nilV [] nilV [] nilV [] ev [exp0] cv cs) 0).length + i) with e | e <;> rw [e] <;> rfl
 ·show expR _ [exp0] false = true
  have hs : fsig (modQ tv (typ0 p1 p2) fv fs nilV [] nilV [] nilV [] ev [exp0] cv cs) exp0.ix = ([], []) := by
   unfold fsig
   rcases hft exp0.ix with e | e <;> rw [e] <;> rfl
  rw [expR_cons, if_pos (.inl rfl), if_pos ⟨rfl, hs⟩]
  rfl
 ·have h1 : codsP (modQ tv (typ0 p1 p2) fv fs nilV [] nilV [] nilV [] ev [exp0] cv cs) ((List.range cs.length).map fun _ => 0) cs.length = true := by
   unfold codsP
   rw [List.all_eq_true]
   intro i _
   show (match cs[i]? with | some c => codS _ _ i c | none => true) = true
   cases h : cs[i]? with
   | none => rfl
   | some c =>
    rw [hmc c (List.mem_of_getElem? h)]
    show codS _ _ i cod0 = true
    have hg : ((List.range cs.length).map fun _ => 0).getD i 0 = 0 := by
     rw [List.getD_eq_getElem?_getD, List.getElem?_map]
     cases (List.range cs.length)[i]? <;> rfl
    unfold codS fpar
    rw [hg]
    rcases hft ((Gr.fk (modQ tv (typ0 p1 p2) fv fs nilV [] nilV [] nilV [] ev [exp0] cv cs) 0).length + i) with e | e <;> rw [e] <;> rfl
  unfold sizeS
  show ((true && (true && (decide (fs.length ≤ 512) && true))) && true && codsP _ ((List.range cs.length).map fun _ => 0) cs.length) = _
  rw [h1, hlen]
  simp
/-- An export with a long name. -/
theorem rs4 (tv p1 p2 fv ev cv : Value) (b : ByteArray) (n : Nat) (hb : nmL b = List.replicate n 0) : rchk (modQ tv (typ0 p1 p2) fv [0] nilV [] nilV [] nilV [] ev [exp0, ⟨b, 0, 0⟩] cv [cod0]) = if n ≤ 64 then 0 else 122 := by
 rw [← lim_iff]
 have hsz : b.size = n := by
  have := congrArg List.length hb
  rw [List.length_replicate] at this
  exact this
 have h0 : ∀ y ∈ List.replicate n (0 : UInt8), y = 0 := fun y hy => List.eq_of_mem_replicate hy
 have hm : nmL b ≠ mainL := by
  rw [hb]
  intro e
  exact absurd (h0 109 (by rw [e]; simp [mainL])) (by decide)
 have hi : nmL b ≠ initL := by
  rw [hb]
  intro e
  exact absurd (h0 105 (by rw [e]; simp [initL])) (by decide)
 refine rchk_of (H := fun _ => 0) rfl rfl rfl rfl rfl (typ0_ok p1 p2) ?_ ?_ ?_ rfl (fun _ h => by cases h) ?_ ?_ ?_
 ·intro f hf
  obtain rfl := List.mem_singleton.1 hf
  rfl
 ·intro x hx
  rcases List.mem_cons.1 hx with rfl | hx
  ·exact ⟨by decide, rfl⟩
  ·obtain rfl := List.mem_singleton.1 hx
   exact ⟨by show (0 : UInt8) ≤ 3; decide, rfl⟩
 ·refine ⟨by simp, ?_, trivial⟩
  show nmL b ∉ [nmL mainB]
  rw [List.mem_singleton]
  exact hm
 ·intro i c h
  obtain ⟨rfl, rfl⟩ := one_at h
  rfl
 ·show expR _ [exp0, ⟨b, 0, 0⟩] false = true
  rw [expR_cons, if_pos (.inl rfl), if_pos ⟨rfl, rfl⟩, expR_cons, if_neg (by rintro (h | h); exact hm h; exact hi h)]
  rfl
 ·show ((true && (true && (true && ((true && (decide (b.size ≤ 64) && true)) && (true && true))))) && true) = _
  rw [hsz]
  simp
/-- Locals. -/
theorem rs5 (tv p1 p2 fv ev cv lv : Value) (n : Nat) : rchk (modQ tv (typ0 p1 p2) fv [0] nilV [] nilV [] nilV [] ev [exp0] cv [⟨lv, [⟨n, 126⟩], nilV, []⟩]) = if n ≤ 256 then 0 else 122 := by
 rw [← lim_iff]
 refine rchk_of (H := fun _ => 0) rfl rfl rfl rfl rfl (typ0_ok p1 p2) ?_ ?_ ?_ rfl (fun _ h => by cases h) ?_ rfl ?_
 ·intro f hf
  obtain rfl := List.mem_singleton.1 hf
  rfl
 ·intro x hx
  obtain rfl := List.mem_singleton.1 hx
  exact ⟨by decide, rfl⟩
 ·exact ⟨by simp, trivial⟩
 ·intro i c h
  obtain ⟨rfl, rfl⟩ := one_at h
  rfl
 ·show (true && ((decide (min (0 + (n + 0)) 1048576 ≤ 256) && true) && true)) = _
  simp
  omega
section
variable {sp : Spc} {fn : Ft} {lv bv : Value}
def nop0 : Ins := ⟨1, 0, 0, 0, nilV, []⟩
def cst0 : Ins := ⟨65, 0, 0, 0, nilV, []⟩
def unr0 : Ins := ⟨0, 0, 0, 0, nilV, []⟩
theorem chk_nops (hf : fn.p = [] ∧ fn.r = []) : ∀ n, chk ⟨sp, fn, ⟨lv, [], bv, List.replicate n nop0⟩⟩ = (0, 0)
 | 0 => by
  unfold chk
  show (match (Except.ok ⟨stk0 fn.r, []⟩ : R) with | .error e => (0, e) | .ok s => match close s.t with | none => (0, 100) | some _ => (s.t.most, 0)) = _
  rw [hf.2]
  rfl
 | n + 1 => by
  rw [← chk_nops hf n]
  exact chk_nop (cx := ⟨sp, fn, ⟨lv, [], bv, List.replicate n nop0⟩⟩) (x := nop0) (a := []) (b := List.replicate n nop0) ⟨rfl, rfl, rfl, rfl, rfl⟩ rfl rfl rfl rfl rfl
theorem opnS_nops : ∀ n, opnS 0 (List.replicate n nop0) = true
 | 0 => rfl
 | n + 1 => by
  show ((true && (decide ((0 : Int) ≤ 64) && opnS 0 (List.replicate n nop0))) : Bool) = true
  rw [opnS_nops n]
  rfl
/-- The stack behind so many constants. -/
def stC (n : Nat) : Ty.St := ⟨⟨List.replicate n 127, [⟨[], [], 0, false⟩], n⟩, []⟩
theorem step_cst (cx : Cx) (n : Nat) : Ty.step cx (stC n) cst0 = .ok (stC (n + 1)) := by
 show takes (stC n) [] [127] = _
 unfold takes stC want left
 show (match (some { l := (List.replicate n (127 : UInt8)).take (List.replicate n (127 : UInt8)).length, fs := [⟨[], [], 0, false⟩], most := n } : Option Stk) with | none => (.error 100 : R) | some t => .ok ⟨push t [127], []⟩) = _
 rw [List.take_length]
 show (Except.ok ⟨⟨List.replicate n 127 ++ [127], [⟨[], [], 0, false⟩], max n ((List.replicate n (127 : UInt8)).length + 1)⟩, []⟩ : R) = _
 rw [List.length_replicate, Nat.max_eq_right (Nat.le_succ n), ← List.replicate_succ']
theorem run_csts (cx : Cx) (r : List Ins) : ∀ (n j : Nat), Ty.run cx (stC j) (List.replicate n cst0 ++ r) = Ty.run cx (stC (j + n)) r
 | 0, j => rfl
 | n + 1, j => by
  rw [List.replicate_succ, List.cons_append, Ty.run, step_cst]
  show Ty.run cx (stC (j + 1)) (List.replicate n cst0 ++ r) = _
  rw [run_csts cx r n (j + 1), Nat.add_assoc, Nat.add_comm 1 n]
theorem marks_csts (r : List Ins) : ∀ n, marks [] (List.replicate n cst0 ++ r) = marks [] r
 | 0 => rfl
 | n + 1 => by
  rw [List.replicate_succ, List.cons_append, marks]
  exact marks_csts r n
theorem chk_csts (hf : fn.p = [] ∧ fn.r = []) (n : Nat) : chk ⟨sp, fn, ⟨lv, [], bv, List.replicate n cst0 ++ [unr0]⟩⟩ = (n, 0) := by
 have he : exprOk (List.replicate n cst0 ++ [unr0]) = true := by
  unfold exprOk
  rw [marks_csts]
  rfl
 unfold chk
 rw [if_neg (by rw [he]; decide), if_neg (by simp)]
 show (match Ty.run _ ⟨stk0 fn.r, []⟩ (List.replicate n cst0 ++ [unr0]) with | .error e => (0, e) | .ok s => match close s.t with | none => (0, 100) | some _ => (s.t.most, 0)) = _
 rw [hf.2]
 have h0 : (⟨stk0 [], []⟩ : Ty.St) = stC 0 := rfl
 rw [h0, run_csts, Nat.zero_add]
 rfl
theorem opnS_csts (r : List Ins) (h : opnS 0 r = true) : ∀ n, opnS 0 (List.replicate n cst0 ++ r) = true
 | 0 => h
 | n + 1 => by
  show ((true && (decide ((0 : Int) ≤ 64) && opnS 0 (List.replicate n cst0 ++ r))) : Bool) = true
  rw [opnS_csts r h n]
  rfl
end
section
variable {sp : Spc} {fn : Ft} {lv bv : Value}
def brt0 (v : Value) (n : Nat) : Ins := ⟨14, 0, 0, 0, v, List.replicate n 0⟩
theorem step_brt (cx : Cx) (v : Value) (n : Nat) : Ty.step cx (stC 1) (brt0 v n) = .ok ⟨kill ⟨[], [⟨[], [], 0, false⟩], 1⟩, []⟩ := by
 show stepTable (stC 1) (brt0 v n) = _
 have hl : label (stC 1).t 0 = some [] := rfl
 have h1 : (brt0 v n).ls.any (fun k => (label (stC 1).t k).isNone) = false := by
  rw [List.any_eq_false]
  intro y hy
  rw [List.eq_of_mem_replicate hy, hl]
  decide
 have h2 : (brt0 v n).ls.all (fun k => decide (label (stC 1).t k = some [])) = true := by
  rw [List.all_eq_true]
  intro y hy
  rw [List.eq_of_mem_replicate hy, hl]
  decide
 unfold stepTable
 rw [show (brt0 v n).a = 0 from rfl, hl]
 simp only [h1, h2, Bool.false_eq_true, if_false, Bool.true_eq_false]
 rfl
theorem chk_brt (hf : fn.p = [] ∧ fn.r = []) (v : Value) (n : Nat) : chk ⟨sp, fn, ⟨lv, [], bv, [cst0, brt0 v n]⟩⟩ = (1, 0) := by
 have he : exprOk [cst0, brt0 v n] = true := rfl
 unfold chk
 rw [if_neg (by rw [he]; decide), if_neg (by simp)]
 show (match Ty.run _ ⟨stk0 fn.r, []⟩ [cst0, brt0 v n] with | .error e => (0, e) | .ok s => match close s.t with | none => (0, 100) | some _ => (s.t.most, 0)) = _
 rw [hf.2]
 have h0 : (⟨stk0 [], []⟩ : Ty.St) = stC 0 := rfl
 rw [h0, Ty.run, step_cst]
 show (match Ty.run _ (stC 1) [brt0 v n] with | .error e => (0, e) | .ok s => match close s.t with | none => (0, 100) | some _ => (s.t.most, 0)) = _
 rw [Ty.run, step_brt]
 rfl
def blk0 : Ins := ⟨2, 64, 0, 0, nilV, []⟩
def end0 : Ins := ⟨11, 0, 0, 0, nilV, []⟩
def frm0 : Frm := ⟨[], [], 0, false⟩
/-- Within so many blocks. -/
def stB (j : Nat) : Ty.St := ⟨⟨[], List.replicate (j + 1) frm0, 0⟩, List.replicate j 2⟩
theorem step_blk (cx : Cx) (j : Nat) : Ty.step cx (stB j) blk0 = .ok (stB (j + 1)) := by
 show (Except.ok ⟨⟨[], List.replicate (j + 1) frm0 ++ [frm0], 0⟩, List.replicate j 2 ++ [2]⟩ : R) = _
 unfold stB
 rw [← List.replicate_succ', ← List.replicate_succ']
theorem step_end (cx : Cx) (j : Nat) : Ty.step cx (stB (j + 1)) end0 = .ok (stB j) := by
 show stepEnd (stB (j + 1)) = _
 have hl : (List.replicate (j + 1 + 1) frm0).getLast? = some frm0 := by rw [List.getLast?_replicate, if_neg (by omega)]
 have hleft : left (stB (j + 1)).t [] = some 0 := by
  unfold left
  show (match (List.replicate (j + 1 + 1) frm0).getLast? with | none => none | some f => leftGo [] f [] 0) = some 0
  rw [hl]
  rfl
 have hc : close (stB (j + 1)).t = some ([], ⟨[], List.replicate (j + 1) frm0, 0⟩) := by
  unfold close
  show (match (List.replicate (j + 1 + 1) frm0).getLast? with | none => none | some f => if left (stB (j + 1)).t f.ends = some f.ht then some (f.ends, ({ l := ([] : Bts).take f.ht, fs := (List.replicate (j + 1 + 1) frm0).dropLast, most := 0 } : Stk)) else none) = _
  rw [hl]
  show (if left (stB (j + 1)).t [] = some 0 then some (([] : Bts), (⟨[], (List.replicate (j + 1 + 1) frm0).dropLast, 0⟩ : Stk)) else none) = _
  rw [hleft, if_pos rfl]
  simp
 unfold stepEnd
 rw [hc]
 show (if (List.replicate (j + 1) (2 : UInt8)).getLast? = some 4 ∧ ([] : Bts) ≠ [] then _ else _) = _
 rw [if_neg (fun h => h.2 rfl)]
 show (Except.ok ⟨⟨[], List.replicate (j + 1) frm0, 0⟩, (List.replicate (j + 1) (2 : UInt8)).dropLast⟩ : R) = _
 unfold stB
 simp
theorem run_blks (cx : Cx) (r : List Ins) : ∀ (n j : Nat), Ty.run cx (stB j) (List.replicate n blk0 ++ r) = Ty.run cx (stB (j + n)) r
 | 0, j => rfl
 | n + 1, j => by
  rw [List.replicate_succ, List.cons_append, Ty.run, step_blk]
  show Ty.run cx (stB (j + 1)) (List.replicate n blk0 ++ r) = _
  rw [run_blks cx r n (j + 1), Nat.add_assoc, Nat.add_comm 1 n]
theorem run_ends (cx : Cx) : ∀ (n : Nat), Ty.run cx (stB n) (List.replicate n end0) = .ok (stB 0)
 | 0 => rfl
 | n + 1 => by
  rw [List.replicate_succ, Ty.run, step_end]
  exact run_ends cx n
theorem marks_blks (r : List Ins) : ∀ (n j : Nat), marks (List.replicate j 2) (List.replicate n blk0 ++ r) = marks (List.replicate (j + n) 2) r
 | 0, j => rfl
 | n + 1, j => by
  rw [List.replicate_succ, List.cons_append, marks]
  show marks (List.replicate j 2 ++ [2]) (List.replicate n blk0 ++ r) = _
  rw [← List.replicate_succ', marks_blks r n (j + 1), Nat.add_assoc, Nat.add_comm 1 n]
theorem marks_ends : ∀ (n : Nat), marks (List.replicate n 2) (List.replicate n end0) = some []
 | 0 => rfl
 | n + 1 => by
  rw [List.replicate_succ (a := end0), marks]
  show (match (if List.replicate (n + 1) (2 : UInt8) = [] then none else some (List.replicate (n + 1) (2 : UInt8)).dropLast) with | some o' => marks o' (List.replicate n end0) | none => none) = _
  rw [if_neg (by simp)]
  show marks (List.replicate (n + 1) (2 : UInt8)).dropLast (List.replicate n end0) = _
  rw [show (List.replicate (n + 1) (2 : UInt8)).dropLast = List.replicate n 2 from by simp]
  exact marks_ends n
theorem chk_blks (hf : fn.p = [] ∧ fn.r = []) (n : Nat) : chk ⟨sp, fn, ⟨lv, [], bv, List.replicate n blk0 ++ List.replicate n end0⟩⟩ = (0, 0) := by
 have he : exprOk (List.replicate n blk0 ++ List.replicate n end0) = true := by
  unfold exprOk
  have := marks_blks (List.replicate n end0) n 0
  rw [Nat.zero_add, marks_ends] at this
  rw [show ([] : Bts) = List.replicate 0 2 from rfl, this]
  rfl
 unfold chk
 rw [if_neg (by rw [he]; decide), if_neg (by simp)]
 show (match Ty.run _ ⟨stk0 fn.r, []⟩ (List.replicate n blk0 ++ List.replicate n end0) with | .error e => (0, e) | .ok s => match close s.t with | none => (0, 100) | some _ => (s.t.most, 0)) = _
 rw [hf.2]
 have h0 : (⟨stk0 [], []⟩ : Ty.St) = stB 0 := rfl
 rw [h0, run_blks, Nat.zero_add, run_ends]
 rfl
theorem opnS_ends : ∀ (n : Nat) (o : Int), o ≤ 65 → opnS o (List.replicate n end0) = true
 | 0, _, _ => rfl
 | n + 1, o, h => by
  show ((true && (decide (o - 1 ≤ 64) && opnS (o - 1) (List.replicate n end0))) : Bool) = true
  rw [opnS_ends n (o - 1) (by omega), decide_eq_true (by omega : o - 1 ≤ 64)]
  rfl
theorem opnS_blks (r : List Ins) : ∀ (n : Nat) (o : Int), opnS o (List.replicate n blk0 ++ r) = (decide (n = 0 ∨ o + n ≤ 64) && opnS (o + n) r)
 | 0, o => by simp
 | n + 1, o => by
  show ((true && (decide (o + 1 ≤ 64) && opnS (o + 1) (List.replicate n blk0 ++ r))) : Bool) = _
  rw [opnS_blks r n (o + 1), show o + 1 + (n : Int) = o + ((n + 1 : Nat) : Int) from by omega, Bool.true_and, ← Bool.and_assoc]
  congr 1
  rw [Bool.eq_iff_iff, Bool.and_eq_true, decide_eq_true_iff, decide_eq_true_iff, decide_eq_true_iff]
  omega
theorem opnS_nest (n : Nat) : opnS 0 (List.replicate n blk0 ++ List.replicate n end0) = decide (n ≤ 64) := by
 rw [opnS_blks, Int.zero_add]
 by_cases h : n ≤ 64
 ·rw [opnS_ends n n (by omega), decide_eq_true h, decide_eq_true (by omega)]
  rfl
 ·rw [decide_eq_false h, decide_eq_false (by omega)]
  rfl
end
/-- A module of one code, gone through. -/
theorem rs_cod (tv p1 p2 fv ev cv : Value) (c : Cod) (h : Nat) (hchk : ∀ (sp : Spc) (fn : Ft), fn.p = [] ∧ fn.r = [] → chk ⟨sp, fn, c⟩ = (h, 0)) {z : Bool} (hz : (decide (min (0 + locN c) 1048576 ≤ 256) && (decide (c.body.length ≤ 8192) && (decide (h ≤ 512) && opnS 0 c.body))) = z) : rchk (modQ tv (typ0 p1 p2) fv [0] nilV [] nilV [] nilV [] ev [exp0] cv [c]) = if z = true then 0 else 122 := by
 refine rchk_of (H := fun _ => h) rfl rfl rfl rfl rfl (typ0_ok p1 p2) ?_ ?_ ?_ rfl (fun _ h => by cases h) ?_ rfl ?_
 ·intro f hf
  obtain rfl := List.mem_singleton.1 hf
  rfl
 ·intro x hx
  obtain rfl := List.mem_singleton.1 hx
  exact ⟨by decide, rfl⟩
 ·exact ⟨by simp, trivial⟩
 ·intro i d hd
  obtain ⟨rfl, rfl⟩ := one_at hd
  exact hchk _ _ ⟨rfl, rfl⟩
 ·rw [← hz]
  show (true && ((decide (min (0 + locN c) 1048576 ≤ 256) && (decide (c.body.length ≤ 8192) && (decide (h ≤ 512) && opnS 0 c.body))) && true)) = _
  rw [Bool.true_and, Bool.and_true]
theorem rs6 (tv p1 p2 fv ev cv bv : Value) (n : Nat) : rchk (modQ tv (typ0 p1 p2) fv [0] nilV [] nilV [] nilV [] ev [exp0] cv [⟨nilV, [], bv, List.replicate n nop0⟩]) = if n ≤ 8192 then 0 else 122 := by
 rw [← lim_iff]
 refine rs_cod tv p1 p2 fv ev cv _ 0 (fun sp fn hf => chk_nops hf n) ?_
 show (true && (decide ((List.replicate n nop0).length ≤ 8192) && (true && opnS 0 (List.replicate n nop0)))) = _
 rw [opnS_nops, List.length_replicate]
 simp
theorem rs7 (tv p1 p2 fv ev cv bv : Value) (n : Nat) (hn : n ≤ 200) : rchk (modQ tv (typ0 p1 p2) fv [0] nilV [] nilV [] nilV [] ev [exp0] cv [⟨nilV, [], bv, List.replicate n blk0 ++ List.replicate n end0⟩]) = if n ≤ 64 then 0 else 122 := by
 rw [← lim_iff]
 refine rs_cod tv p1 p2 fv ev cv _ 0 (fun sp fn hf => chk_blks hf n) ?_
 show (true && (decide ((List.replicate n blk0 ++ List.replicate n end0).length ≤ 8192) && (true && opnS 0 (List.replicate n blk0 ++ List.replicate n end0)))) = _
 rw [opnS_nest, List.length_append, List.length_replicate, List.length_replicate, decide_eq_true (by omega : n + n ≤ 8192)]
 simp
theorem rs8 (tv p1 p2 fv ev cv bv : Value) (n : Nat) (hn : n ≤ 4000) : rchk (modQ tv (typ0 p1 p2) fv [0] nilV [] nilV [] nilV [] ev [exp0] cv [⟨nilV, [], bv, List.replicate n cst0 ++ [unr0]⟩]) = if n ≤ 512 then 0 else 122 := by
 rw [← lim_iff]
 refine rs_cod tv p1 p2 fv ev cv _ n (fun sp fn hf => chk_csts hf n) ?_
 show (true && (decide ((List.replicate n cst0 ++ [unr0]).length ≤ 8192) && (decide (n ≤ 512) && opnS 0 (List.replicate n cst0 ++ [unr0])))) = _
 rw [opnS_csts _ rfl, List.length_append, List.length_replicate, List.length_singleton, decide_eq_true (by omega : n + 1 ≤ 8192)]
 simp
theorem rs9 (tv p1 p2 fv ev cv bv v : Value) (n : Nat) : rchk (modQ tv (typ0 p1 p2) fv [0] nilV [] nilV [] nilV [] ev [exp0] cv [⟨nilV, [], bv, [cst0, brt0 v n]⟩]) = if n ≤ 256 then 0 else 122 := by
 rw [← lim_iff]
 refine rs_cod tv p1 p2 fv ev cv _ 1 (fun sp fn hf => chk_brt hf v n) ?_
 show (true && (true && (true && (true && (true && ((false || decide ((List.replicate n (0 : Nat)).length ≤ 256)) && true)))))) = _
 rw [List.length_replicate]
 simp
/-- A global as the statement builds them. -/
def IsG (g : Glb) : Prop := g.gt = ⟨127, false⟩ ∧ g.il = [cst0]
theorem rs3 (tv p1 p2 fv gv ev cv : Value) (gs : List Glb) (hg : ∀ g ∈ gs, IsG g) : rchk (modQ tv (typ0 p1 p2) fv [0] nilV [] nilV [] gv gs ev [exp0] cv [cod0]) = if gs.length ≤ 128 then 0 else 122 := by
 rw [← lim_iff]
 refine rchk_of (H := fun _ => 0) rfl rfl rfl rfl rfl (typ0_ok p1 p2) ?_ ?_ ?_ rfl ?_ ?_ rfl ?_
 ·intro f hf
  obtain rfl := List.mem_singleton.1 hf
  rfl
 ·intro x hx
  obtain rfl := List.mem_singleton.1 hx
  exact ⟨by decide, rfl⟩
 ·exact ⟨by simp, trivial⟩
 ·intro g hg'
  obtain ⟨h1, h2⟩ := hg g hg'
  unfold glbE
  rw [h1, h2]
  rfl
 ·intro i c h
  obtain ⟨rfl, rfl⟩ := one_at h
  rfl
 ·show ((true && (true && (true && (decide ((([] : List Gt) ++ gs.map (·.gt)).length ≤ 128) && true)))) && true && true) = _
  rw [List.nil_append, List.length_map]
  simp
/-- The name of an export as the statement builds them. -/
def nmX (i : Nat) : List UInt8 := [120, UInt8.ofNat (97 + i % 26), UInt8.ofNat (97 + i / 26 % 26), UInt8.ofNat (97 + i / 676)]
theorem nmX_inj {i j : Nat} (hi : i < 9000) (hj : j < 9000) (h : nmX i = nmX j) : i = j := by
 unfold nmX at h
 simp only [List.cons.injEq, and_true, true_and] at h
 obtain ⟨h1, h2, h3⟩ := h
 have k1 := congrArg UInt8.toNat h1
 have k2 := congrArg UInt8.toNat h2
 have k3 := congrArg UInt8.toNat h3
 simp only [UInt8.toNat_ofNat'] at k1 k2 k3
 omega
theorem nmX_main (i : Nat) : nmX i ≠ mainL := by
 unfold nmX mainL
 intro h
 exact absurd (List.cons.inj h).1 (by decide)
theorem nmX_init (i : Nat) : nmX i ≠ initL := by
 unfold nmX initL
 intro h
 exact absurd (List.cons.inj h).1 (by decide)
/-- The exports behind the first. -/
def expX (n : Nat) : List Exp := (List.range n).map (fun i => ⟨⟨(nmX i).toArray⟩, 0, 0⟩)
theorem once_app {a b : List Exp} : ∀ {ns : List (List UInt8)}, Once a ns → Once b (ns ++ a.map (fun x => nmL x.nm)) → Once (a ++ b) ns := by
 induction a with
 | nil => intro ns _ h; simpa using h
 | cons x r ih =>
  intro ns h1 h2
  refine ⟨h1.1, ih h1.2 ?_⟩
  rw [List.append_assoc]
  exact h2
theorem once_expX : ∀ n, n ≤ 9000 → Once (exp0 :: expX n) []
 | 0, _ => ⟨by simp, trivial⟩
 | n + 1, h => by
  have h1 : exp0 :: expX (n + 1) = (exp0 :: expX n) ++ [⟨⟨(nmX n).toArray⟩, 0, 0⟩] := by
   unfold expX
   rw [List.range_succ, List.map_append]
   rfl
  rw [h1]
  refine once_app (once_expX n (by omega)) ⟨?_, trivial⟩
  rw [List.nil_append, List.map_cons, List.mem_cons]
  rintro (h2 | h2)
  ·exact nmX_main n h2
  ·unfold expX at h2
   rw [List.map_map, List.mem_map] at h2
   obtain ⟨i, hi, e⟩ := h2
   rw [List.mem_range] at hi
   have := nmX_inj (by omega) (by omega) (show nmX i = nmX n from e)
   omega
theorem expR_X {m : Mod} : ∀ {l : List Exp}, (∀ x ∈ l, nmL x.nm ≠ mainL ∧ nmL x.nm ≠ initL) → expR m l true = true
 | [], _ => rfl
 | x :: r, h => by
  rw [expR_cons, if_neg (by rintro (e | e); exact (h x (.head _)).1 e; exact (h x (.head _)).2 e)]
  exact expR_X (fun y hy => h y (.tail _ hy))
theorem rs1 (tv p1 p2 fv ev cv : Value) (n : Nat) (hn : n ≤ 9000) : rchk (modQ tv (typ0 p1 p2) fv [0] nilV [] nilV [] nilV [] ev (exp0 :: expX n) cv [cod0]) = if n + 1 ≤ 128 then 0 else 122 := by
 rw [← lim_iff]
 have hX : ∀ x ∈ expX n, x.kind = 0 ∧ x.ix = 0 ∧ ∃ i, nmL x.nm = nmX i := by
  intro x hx
  obtain ⟨i, _, rfl⟩ := List.mem_map.1 hx
  exact ⟨rfl, rfl, i, rfl⟩
 refine rchk_of (H := fun _ => 0) rfl rfl rfl rfl rfl (typ0_ok p1 p2) ?_ ?_ (once_expX n hn) rfl (fun _ h => by cases h) ?_ ?_ ?_
 ·intro f hf
  obtain rfl := List.mem_singleton.1 hf
  rfl
 ·intro x hx
  rcases List.mem_cons.1 hx with rfl | hx
  ·exact ⟨by decide, rfl⟩
  ·obtain ⟨h1, h2, _⟩ := hX x hx
   rw [h1, h2]
   exact ⟨by decide, rfl⟩
 ·intro i c h
  obtain ⟨rfl, rfl⟩ := one_at h
  rfl
 ·show expR _ (exp0 :: expX n) false = true
  rw [expR_cons, if_pos (.inl rfl), if_pos ⟨rfl, rfl⟩]
  refine expR_X fun x hx => ?_
  obtain ⟨_, _, i, h⟩ := hX x hx
  rw [h]
  exact ⟨nmX_main i, nmX_init i⟩
 ·have h1 : (expX n).all (fun x => decide (x.nm.size ≤ 64)) = true := by
   rw [List.all_eq_true]
   intro x hx
   obtain ⟨i, _, rfl⟩ := List.mem_map.1 hx
   rfl
  show ((true && (true && (true && (true && (decide ((exp0 :: expX n).length ≤ 128) && true))))) && (true && (true && ((true && (expX n).all (fun x => decide (x.nm.size ≤ 64))) && true))) && true) = _
  rw [h1]
  simp [expX]
end Go.Proofs.YtmgjcaikldeioaaGreat.Ru
namespace Go.Proofs.YtmgjcaikldeioaaGreat.Fm
open Go Go.RowKit Go.Lib Kt

section
variable {P : Program} {w : World}
theorem run_append_zeros {base : Nat} {t ti ty e : TypeId} {i : TypeInfo} {z : Value} {ik : IntKind} (ht : P.underlying t = some (.slice e)) (hti : P.underlying ti = some (.int ik)) (hi : P.info? e = some i) (hz : i.zero = some z) (hzs : z.cells.size = i.size) (hsz : 0 < i.size)
  (v : Value) (n : Nat) (xs : List Value) (hown : w.ownsRow base e i.size v n xs) (m : Nat) (hm0 : 0 < m) (h1 : ∀ u ∈ (Builtin.zeroCells z.cells m).toList, u.oneCell' = true)
  (h63 : n + m ≤ maxLen) (hbytes : (n + m) * i.bytes ≤ 140737488355328) (hbase : base ≤ w.heap.size) :
  ∃ v' w', (Builtin.append_ #[t, ti] ty #[v, .int .i64 m]).run P w = .ok v' w' ∧ w'.ownsRow base e i.size v' (n + m) (xs ++ (Builtin.zeroCells z.cells m).toList) ∧ w.grownBy w' v.ownBlock := by
 have hl : (Builtin.zeroCells z.cells m).toList.length = m * i.size := by rw [Array.length_toList, size_zeroCells, hzs]
 have hsmall : n + m ≤ 9223372036854775807 := by simp only [maxLen] at h63; omega
 have hlen : (xs ++ (Builtin.zeroCells z.cells m).toList).length = (n + m) * i.size := by rw [List.length_append, hown.1, hl, Nat.add_mul]
 have hwr : IntKind.i64.wrap (m : Int) = m := IntWalk.i64_in _ (by omega)
 have hmb : m * i.bytes ≤ 140737488355328 := Nat.le_trans (Nat.mul_le_mul_right _ (Nat.le_add_left m n)) hbytes
 have hmb2 : ¬ (281474976710656 : Int) < (m : Int) * (i.bytes : Int) := by
  have h := Int.ofNat_le.2 hmb
  rw [Int.natCast_mul] at h
  omega
 have hm1 : ¬ (m : Int) < 0 := by omega
 have hms : ¬ m * i.size = 0 := by
  intro e
  rcases Nat.mul_eq_zero.1 e with e | e <;> omega
 have hge : ∀ old, n + m ≤ grownCap w (n + m) old e := fun old => grownCap_ge w (n + m) old e
 have grown : ∀ (old : Nat) (row : Option Nat),
   (w.drew.alloc (.cells (xs.toArray ++ Builtin.zeroCells z.cells m ++ Builtin.zeroCells z.cells (grownCap w (n + m) old e - (n + m))) e)).ownsRow base e i.size
    (.slice (some ⟨w.heap.size, 0, none⟩) (n + m) (grownCap w (n + m) old e)) (n + m) (xs ++ (Builtin.zeroCells z.cells m).toList) ∧
   w.grownBy (w.drew.alloc (.cells (xs.toArray ++ Builtin.zeroCells z.cells m ++ Builtin.zeroCells z.cells (grownCap w (n + m) old e - (n + m))) e)) row := by
  intro old row
  have hcm : grownCap w (n + m) old e ≤ maxLen := grownCap_le_maxLen w (n + m) old e h63
  refine ⟨⟨hlen, .inr ⟨w.heap.size, _, _, rfl, hbase, heap_alloc_new w.drew _, hge old, hcm, ?_, ?_⟩⟩, ⟨rfl, rfl, rfl, by simp, fun k hk _ => by show (w.heap.push _)[k]? = w.heap[k]?; rw [Array.getElem?_push, if_neg (Nat.ne_of_lt hk)]⟩⟩
  ·have := hge old
   simp only [Array.size_append, List.size_toArray, size_zeroCells, hzs, hown.1, ← Nat.add_mul]
   congr 1
   omega
  ·simp only [Array.toList_append, List.append_assoc]
   rw [← List.append_assoc, ← hlen]
   exact List.take_left
 have h63a : ∀ k : Nat, k ≤ n + m → ¬ (9223372036854775807 : Int) < (k : Int) := fun k hk => by omega
 rcases hown.2 with ⟨rfl, rfl⟩ | ⟨g, cap, cur, rfl, hbg, hg, hnc, hcm, hcs, htake⟩
 ·have hx : xs = [] := List.eq_nil_of_length_eq_zero (by simpa using hown.1)
  subst hx
  have hm : ¬ m = 0 := by omega
  have hsz0 : Builtin.nextslicecap m 0 = m := nextslicecap_zero hm0
  have h48 : ¬ 281474976710656 < Builtin.nextslicecap m 0 * i.bytes := by rw [hsz0]; omega
  have h63' : ¬ (9223372036854775807 : Int) < (m : Int) := h63a m (by omega)
  have hgr := grown 0 (Value.ownBlock (.slice none 0 0))
  simp only [Nat.zero_add, List.nil_append, Array.empty_append] at hgr ⊢
  refine ⟨_, _, ?_, hgr.1, hgr.2⟩
  simp [Builtin.append_, run_underlying ht, run_underlying hti, sizeOf, typeInfo, zeroValue, hi, hz, asInt, asIntOf, hwr, hm1, hmb2, hms, hm, h48, h63', Question.forced, run_firstCells_none, newRow, grownCap]
 ·have h1' : ∀ u ∈ (Builtin.zeroCells z.cells m).toList, u.oneCell' = true := h1
  by_cases hroom : n + m ≤ cap
  ·have hfit : n * i.size + (Builtin.zeroCells z.cells m).toList.length ≤ cur.size := by rw [hl, hcs, ← Nat.add_mul]; exact Nat.mul_le_mul_right _ hroom
   have hst := run_storeCells_at P g (n * i.size) e (Builtin.zeroCells z.cells m).toList 0 cur w hg (by simpa using hfit) h1'
   simp only [Nat.add_zero] at hst
   refine ⟨_, w.setRow g (cur.toList.take (n * i.size) ++ (Builtin.zeroCells z.cells m).toList ++ cur.toList.drop (n * i.size + (Builtin.zeroCells z.cells m).toList.length)).toArray, ?_, ⟨hlen, .inr ⟨g, cap, _, rfl, hbg, setRow_heap w g cur _ e _ hg, hroom, hcm, ?_, ?_⟩⟩, ⟨rfl, rfl, rfl, by simp, fun k _ hk => setRow_other w g k _ (fun e => hk (by simp [Value.ownBlock, e]))⟩⟩
   ·simp [Builtin.append_, run_underlying ht, run_underlying hti, sizeOf, typeInfo, zeroValue, hi, hz, asInt, asIntOf, hwr, hm1, hmb2, hms, hroom, Addr.add_lit, hst]
   ·simp only [List.size_toArray, List.length_append, List.length_take, List.length_drop, Array.length_toList] at hfit ⊢
    omega
   ·rw [htake, ← hlen]
    exact List.take_left
  ·have holds : ∀ j u, xs[j]? = some u → w.cell? ((⟨g, 0, none⟩ : Addr).add j) = some u := hown.cells (g := g) rfl
   have hfo := run_firstCells_some (P := P) w.drew i.size n ⟨g, 0, none⟩ n cap xs hown.1 (by simpa using holds)
   have h48 : ¬ 281474976710656 < Builtin.nextslicecap (n + m) cap * i.bytes := by
    have := growslice_fits (old := cap) (need := n + m) (by omega) hbytes
    omega
   have h63' : ¬ (9223372036854775807 : Int) < (n : Int) + (m : Int) := by omega
   have hgr := grown cap (Value.ownBlock (.slice (some ⟨g, 0, none⟩) n cap))
   refine ⟨_, _, ?_, hgr.1, hgr.2⟩
   simp [Builtin.append_, run_underlying ht, run_underlying hti, sizeOf, typeInfo, zeroValue, hi, hz, asInt, asIntOf, hwr, hm1, hmb2, hms, hroom, h48, h63', Question.forced, hfo, newRow, grownCap]
theorem zeroCells_zero (z : Array Value) : Builtin.zeroCells z 0 = #[] := by
 unfold Builtin.zeroCells
 simp
theorem zeroCells_rep (z : Array Value) (hz : 0 < z.size) : ∀ m, (Builtin.zeroCells z m).toList = (List.replicate m z.toList).flatten
 | 0 => by rw [zeroCells_zero]; rfl
 | m + 1 => by
  rw [List.replicate_succ', List.flatten_append, ← zeroCells_rep z hz m]
  refine List.ext_getElem ?_ (fun i h1 h2 => ?_)
  ·simp only [Array.length_toList, size_zeroCells, List.length_append, List.flatten_cons, List.flatten_nil, List.append_nil]
   rw [Nat.succ_mul]
  ·have hs : i < (m + 1) * z.size := by simpa [size_zeroCells] using h1
   have hsm : (Builtin.zeroCells z m).toList.length = m * z.size := by rw [Array.length_toList, size_zeroCells]
   by_cases hi : i < m * z.size
   ·rw [List.getElem_append_left (by rw [hsm]; exact hi)]
    simp [Builtin.zeroCells]
   ·rw [List.getElem_append_right (by rw [hsm]; omega)]
    have hlt : i - m * z.size < z.size := by rw [Nat.succ_mul] at hs; omega
    have hmod : i % z.size = i - m * z.size := by
     have : i = (i - m * z.size) + z.size * m := by rw [Nat.mul_comm z.size m]; omega
     rw [this, Nat.add_mul_mod_self_left, Nat.mod_eq_of_lt (by omega)]
     omega
    simp [Builtin.zeroCells, hmod, hlt]
/-- .. any number of them. -/
theorem run_append_zs {base : Nat} {t ti ty e : TypeId} {by_ : Nat} {ik : IntKind} (ht : P.underlying t = some (.slice e)) (hti : P.underlying ti = some (.int ik)) (zs : List Value) (hi : (P.info? e).map (fun i => (i.zero.map (·.cells), i.size, i.bytes)) = some (some zs.toArray, zs.length, by_)) (hsz : 0 < zs.length) (h1 : ∀ u ∈ zs, u.oneCell' = true)
  {v : Value} {n : Nat} {xs : List Value} (hown : w.ownsRow base e zs.length v n xs) (m : Nat) (h63 : n + m ≤ maxLen) (hbytes : (n + m) * by_ ≤ 140737488355328) (hbase : base ≤ w.heap.size) :
  ∃ v' w', (Builtin.append_ #[t, ti] ty #[v, .int .i64 m]).run P w = .ok v' w' ∧ w'.ownsRow base e zs.length v' (n + m) (xs ++ (List.replicate m zs).flatten) ∧ w.grownBy w' v.ownBlock := by
 cases hinf : P.info? e with
 | none => rw [hinf] at hi; cases hi
 | some i =>
  rw [hinf] at hi
  simp only [Option.map_some, Option.some.injEq, Prod.mk.injEq] at hi
  obtain ⟨hz0, hs, hb⟩ := hi
  cases hz : i.zero with
  | none => rw [hz] at hz0; cases hz0
  | some z =>
   rw [hz] at hz0
   have hzc : z.cells = zs.toArray := Option.some.inj hz0
   have hrep : ∀ m, (Builtin.zeroCells z.cells m).toList = (List.replicate m zs).flatten := fun m => by
    rw [zeroCells_rep _ (by rw [hzc]; simpa using hsz), hzc]
   by_cases hm : m = 0
   ·subst hm
    refine ⟨v, w, ?_, by simpa using hown, ⟨rfl, rfl, rfl, Nat.le_refl _, fun _ _ _ => rfl⟩⟩
    have hst : ∀ ad : Addr, (storeCells ad []).run P w = .ok () w := fun ad => by simp [storeCells]
    have hwr : IntKind.i64.wrap (0 : Int) = 0 := IntWalk.i64_in _ (by omega)
    rcases hown.2 with ⟨rfl, _⟩ | ⟨g, cap, cur, rfl, _, _, hnc, _⟩
    ·simp [Builtin.append_, run_underlying ht, run_underlying hti, sizeOf, typeInfo, zeroValue, hinf, hz, asInt, asIntOf, hwr]
    ·simp [Builtin.append_, run_underlying ht, run_underlying hti, sizeOf, typeInfo, zeroValue, hinf, hz, asInt, asIntOf, hwr, hnc, hst]
   ·subst hb
    have r := run_append_zeros (P := P) (w := w) (ty := ty) ht hti hinf hz (by rw [hzc, hs]; simp) (by rw [hs]; exact hsz) v n xs (by rw [hs]; exact hown) m (by omega) (fun u hu => by
     rw [hrep] at hu
     obtain ⟨l, hl, hu⟩ := List.mem_flatten.1 hu
     rw [List.eq_of_mem_replicate hl] at hu
     exact h1 u hu) h63 hbytes hbase
    rw [hrep, hs] at r
    exact r
theorem wp_appz {base : Nat} {t ti e : TypeId} {by_ : Nat} {ik : IntKind} {op : Oper} {a : Act} {K : Act → World → Prop} {Q : Exit → Act → World → Prop} (p q : Operand) (ho : op.op = .call { callee := .builtin .append, args := #[p, q], argTypes := #[t, ti] }) (ht : P.underlying t = some (.slice e)) (hti : P.underlying ti = some (.int ik)) (zs : List Value) (hi : (P.info? e).map (fun i => (i.zero.map (·.cells), i.size, i.bytes)) = some (some zs.toArray, zs.length, by_)) (hsz : 0 < zs.length) (h1 : ∀ u ∈ zs, u.oneCell' = true)
  {v : Value} {n : Nat} {xs : List Value} (hv : a.eval p = v) (hown : w.ownsRow base e zs.length v n xs) {m : Nat} (hq : a.eval q = .int .i64 m) (h63 : n + m ≤ maxLen) (hbytes : (n + m) * by_ ≤ 140737488355328) (hbase : base ≤ w.heap.size)
  (hK : ∀ v' w', w'.ownsRow base e zs.length v' (n + m) (xs ++ (List.replicate m zs).flatten) → w.grownBy w' v.ownBlock → K (a.put op.dst v') w') : op.wp P a w K Q := by
 obtain ⟨v', w', hr, h2, h3⟩ := run_append_zs (P := P) (ty := op.type) ht hti zs hi hsz h1 hown m h63 hbytes hbase
 unfold Oper.wp execOp
 simp only [ho, resolve, invoke, builtin, Sem.run_bind, Sem.run_pure, Result.andThen_ok, List.map_toArray, List.map_cons, List.map_nil, hv, hq, hr]
 exact hK v' w' h2 h3
theorem wl_appz {base : Nat} {t ti e : TypeId} {by_ : Nat} {ik : IntKind} {ops : Array Oper} {rest : List Oper} {op : Oper} {a : Act} {Q : Exit → Act → World → Prop} (p q : Operand) (hgd : op.guard = none) (ho : op.op = .call { callee := .builtin .append, args := #[p, q], argTypes := #[t, ti] }) (ht : P.underlying t = some (.slice e)) (hti : P.underlying ti = some (.int ik)) (zs : List Value) (hi : (P.info? e).map (fun i => (i.zero.map (·.cells), i.size, i.bytes)) = some (some zs.toArray, zs.length, by_)) (hsz : 0 < zs.length) (h1 : ∀ u ∈ zs, u.oneCell' = true)
  {v : Value} {n : Nat} {xs : List Value} (hv : a.eval p = v) (hown : w.ownsRow base e zs.length v n xs) {m : Nat} (hq : a.eval q = .int .i64 m) (h63 : n + m ≤ maxLen) (hbytes : (n + m) * by_ ≤ 140737488355328) (hbase : base ≤ w.heap.size)
  (hK : ∀ v' w', w'.ownsRow base e zs.length v' (n + m) (xs ++ (List.replicate m zs).flatten) → w.grownBy w' v.ownBlock → wpList P ops Q rest (a.put op.dst v') w') : wpList P ops Q (op :: rest) a w :=
 wpList_plain hgd fun _ hK' => wp_appz p q ho ht hti zs hi hsz h1 hv hown hq h63 hbytes hbase fun v' w' h2 h3 => hK' _ _ (hK v' w' h2 h3)
end
end Go.Proofs.YtmgjcaikldeioaaGreat.Fm
namespace Go.Proofs.YtmgjcaikldeioaaGreat.Kt
open Go Go.RowKit

/-- A plan: an operation is taken (1: for S alone; 2: for what still holds as well) or run (0), or one of two comes first. -/
inductive FP where
 | done
 | step (i k : Nat) (r : FP)
 | fork (i : Nat) (r : FP) (j : Nat) (s : FP)
def FP.len : FP → Nat
 | .done => 0
 | .step _ _ r => r.len + 1
 | .fork _ r _ _ => r.len + 1
section
variable {P : Program} {ops : Array Oper} {Q : Exit → Act → World → Prop} {S : World → Prop} {X : List (Nat × (World → Prop))}
def fStep (P : Program) (ops : Array Oper) (Q : Exit → Act → World → Prop) (S : World → Prop) (X : List (Nat × (World → Prop))) : FP → Array Bool → Act → World → Prop
 | .done, _, a, w => Q .normal a w
 | .step i 0 r, l, a, w => wpOp P ops Q i (fun a' w' => (S w' ∧ Still X (l.setIfInBounds i true) w') ∧ (S w' ∧ Still X (l.setIfInBounds i true) w' → fStep P ops Q S X r (l.setIfInBounds i true) a' w')) a w
 | .step i 1 r, l, a, w => ∃ o, ops[i]? = some o ∧ ∃ v, YieldsIf P ops S o v a ∧ fStep P ops Q S X r (l.setIfInBounds i true) (a.put o.dst v) w
 | .step i _ r, l, a, w => ∃ o, ops[i]? = some o ∧ ∃ v, YieldsIf P ops (fun w => S w ∧ Still X l w) o v a ∧ fStep P ops Q S X r (l.setIfInBounds i true) (a.put o.dst v) w
 | .fork i r j s, l, a, w => wpOp P ops Q i (fun a' w' => (S w' ∧ Still X (l.setIfInBounds i true) w') ∧ (S w' ∧ Still X (l.setIfInBounds i true) w' → fStep P ops Q S X r (l.setIfInBounds i true) a' w')) a w ∧
   wpOp P ops Q j (fun a' w' => (S w' ∧ Still X (l.setIfInBounds j true) w') ∧ (S w' ∧ Still X (l.setIfInBounds j true) w' → fStep P ops Q S X s (l.setIfInBounds j true) a' w')) a w
def fOk (ops : Array Oper) (ks : List Nat) : FP → Array Bool → Bool
 | .done, l => (Region.ready .any ops l).isEmpty
 | .step i 0 r, l => Region.ready .any ops l == [i] && fOk ops ks r (l.setIfInBounds i true)
 | .step i 1 r, l => Region.free .any ops l i && (Region.ready .any ops l).contains i && ks.all (fun k => k != i) && fOk ops ks r (l.setIfInBounds i true)
 | .step i _ r, l => Region.free .any ops l i && (Region.ready .any ops l).contains i && ks.all (fun k => k != i && (l.getD k true || waits ops ops.size k i)) && fOk ops ks r (l.setIfInBounds i true)
 | .fork i r j s, l => Region.ready .any ops l == [i, j] && (r.len == s.len && (fOk ops ks r (l.setIfInBounds i true) && fOk ops ks s (l.setIfInBounds j true)))
theorem T_of_fork (hsel : Region.noSelect ops = true) (hQ : ∀ (c : List PanicEntry) (a : Act) (d : Option Tmp) (v : Value) (w : World), Q (.panic c) (a.put d v) w → Q (.panic c) a w) {ks : List Nat} (hks : X.map (·.1) = ks) :
  ∀ (plan : FP) (l : Array Bool) (a : Act) (w : World), fOk ops ks plan l = true → Closed ops l → S w ∧ Still X l w → fStep P ops Q S X plan l a w → wpAnyT P ops Q S X plan.len l a w
 | .done, l, a, w, hp, _, _, h => ⟨by simpa [fOk] using hp, by simpa [fStep] using h⟩
 | .step i 0 r, l, a, w, hp, hc, hS, h => by
  simp only [fOk, Bool.and_eq_true, beq_iff_eq] at hp
  rw [fStep] at h
  show wpAnyT P ops Q S X (r.len + 1) l a w
  have hne : Region.ready .any ops l ≠ [] := by rw [hp.1]; simp
  refine ⟨fun h0 => absurd h0 hne, fun j hj => ?_⟩
  have hi : i ∈ Region.ready .any ops l := by rw [hp.1]; exact List.mem_singleton.2 rfl
  rw [hp.1] at hj
  obtain rfl : j = i := by simpa using hj
  exact wpOp_mono (fun a' w' h' => ⟨h'.1, T_of_fork hsel hQ hks r _ a' w' hp.2 (hc.set hi) h'.1 (h'.2 h'.1)⟩) h
 | .step i 1 r, l, a, w, hp, hc, hS, h => by
  simp only [fOk, Bool.and_eq_true, List.all_eq_true, bne_iff_ne] at hp
  obtain ⟨⟨⟨h1, h2⟩, h3⟩, h4⟩ := hp
  rw [fStep] at h
  obtain ⟨o, hi, v, hy, h⟩ := h
  have hX : ∀ p ∈ X, p.1 ≠ i := fun p hm => h3 p.1 (by rw [← hks]; exact List.mem_map.2 ⟨p, hm, rfl⟩)
  have hr : i ∈ Region.ready .any ops l := by simpa using h2
  exact wpAnyT_first hi hsel hX (fun c a w => hQ c a _ _ w) _ l a w hc (Region.free_spec hi h1) hr (yields_less hy (fun _ h => h.1)) hS (T_of_fork hsel hQ hks r _ _ w h4 (hc.set hr) ⟨hS.1, hS.2.reset hX⟩ h)
 | .step i (k + 2) r, l, a, w, hp, hc, hS, h => by
  simp only [fOk, Bool.and_eq_true, List.all_eq_true, bne_iff_ne, Bool.or_eq_true] at hp
  obtain ⟨⟨⟨h1, h2⟩, h3⟩, h4⟩ := hp
  rw [fStep] at h
  ·obtain ⟨o, hi, v, hy, h⟩ := h
   have hX : ∀ p ∈ X, p.1 ≠ i := fun p hm => (h3 p.1 (by rw [← hks]; exact List.mem_map.2 ⟨p, hm, rfl⟩)).1
   have hr : i ∈ Region.ready .any ops l := by simpa using h2
   refine wpAnyT_first hi hsel hX (fun c a w => hQ c a _ _ w) _ l a w hc (Region.free_spec hi h1) hr (yields_less hy (fun w h => ⟨h.1, fun p hm hl => ?_⟩)) hS (T_of_fork hsel hQ hks r _ _ w h4 (hc.set hr) ⟨hS.1, hS.2.reset hX⟩ h)
   rcases (h3 p.1 (by rw [← hks]; exact List.mem_map.2 ⟨p, hm, rfl⟩)).2 with h5 | h5
   ·rw [hl] at h5; cases h5
   ·exact h.2 p hm h5
  ·exact fun e => by omega
  ·exact fun e => by omega
 | .fork i r j s, l, a, w, hp, hc, hS, h => by
  simp only [fOk, Bool.and_eq_true, beq_iff_eq] at hp
  obtain ⟨h1, h2, h3, h4⟩ := hp
  rw [fStep] at h
  show wpAnyT P ops Q S X (r.len + 1) l a w
  have hne : Region.ready .any ops l ≠ [] := by rw [h1]; simp
  refine ⟨fun h0 => absurd h0 hne, fun k hk => ?_⟩
  have hk' := hk
  rw [h1] at hk'
  rcases List.mem_cons.1 hk' with rfl | hk'
  ·exact wpOp_mono (fun a' w' h' => ⟨h'.1, T_of_fork hsel hQ hks r _ a' w' h3 (hc.set hk) h'.1 (h'.2 h'.1)⟩) h.1
  ·obtain rfl := List.mem_singleton.1 hk'
   rw [h2]
   exact wpOp_mono (fun a' w' h' => ⟨h'.1, T_of_fork hsel hQ hks s _ a' w' h4 (hc.set hk) h'.1 (h'.2 h'.1)⟩) h.2
/-- THE REGION. -/
theorem wp_region_f {id : Nat} {a : Act} {w : World} (plan : FP) (S : World → Prop) (X : List (Nat × (World → Prop))) (ks : List Nat) (hks : X.map (·.1) = ks) (hm : P.follows .mixedOrders = true)
  (hok : (Region.noSelect ops && (fOk ops ks plan (Array.replicate ops.size false) && plan.len == ops.size)) = true)
  (hQ : ∀ (c : List PanicEntry) (a : Act) (d : Option Tmp) (v : Value) (w : World), Q (.panic c) (a.put d v) w → Q (.panic c) a w)
  (hS : S w.drew) (hX : ∀ p ∈ X, p.2 w.drew) (h : fStep P ops Q S X plan (Array.replicate ops.size false) a w.drew) : (Code.region id ops true).wp P Q a w := by
 simp only [Bool.and_eq_true, beq_iff_eq] at hok
 have hT := T_of_fork (P := P) (S := S) hok.1 hQ hks plan _ a w.drew hok.2.1 (Closed.start ops) ⟨hS, fun p hp _ => hX p hp⟩ h
 rw [hok.2.2] at hT
 exact wp_region_any hm (wpAny_of_T _ _ _ _ hT)

variable {i j : Nat} {r s : FP} {l : Array Bool} {a : Act} {w : World} {o o' : Oper}
theorem fs_take (hi' : ops.toList[i]? = some o) {v : Value} (hw : Region.wanted o (yielded ops a.tmps) = true) (hv : ∀ w', S w' → (execOp a.eval o).run P w' = .ok (.value v) w')
  (h : fStep P ops Q S X r (l.setIfInBounds i true) (a.put o.dst v) w) : fStep P ops Q S X (.step i 1 r) l a w := by rw [fStep]; exact ⟨o, by simpa using hi', v, .inl ⟨hw, hv⟩, h⟩
theorem fs_take2 (hi' : ops.toList[i]? = some o) {v : Value} (hw : Region.wanted o (yielded ops a.tmps) = true) (hv : ∀ w', S w' → Still X l w' → (execOp a.eval o).run P w' = .ok (.value v) w')
  (h : fStep P ops Q S X r (l.setIfInBounds i true) (a.put o.dst v) w) : fStep P ops Q S X (.step i 2 r) l a w := by
 rw [fStep]
 ·exact ⟨o, by simpa using hi', v, .inl ⟨hw, fun w' h' => hv w' h'.1 h'.2⟩, h⟩
 ·exact fun e => by omega
 ·exact fun e => by omega
theorem run_once (hi' : ops.toList[i]? = some o) (hw : Region.wanted o (yielded ops a.tmps) = true) (h : ∀ K : Act → World → Prop, Shut (∀ a w, S w → Still X (l.setIfInBounds i true) w → fStep P ops Q S X r (l.setIfInBounds i true) a w → K a w) → Oper.wp P o a w K Q) :
  wpOp P ops Q i (fun a' w' => (S w' ∧ Still X (l.setIfInBounds i true) w') ∧ (S w' ∧ Still X (l.setIfInBounds i true) w' → fStep P ops Q S X r (l.setIfInBounds i true) a' w')) a w := by
 have hi : ops[i]? = some o := by simpa using hi'
 refine wpOp_step hi (fun K' hK => ?_)
 rw [if_pos hw]
 exact h K' (fun a w hS hX hW => hK a w ⟨⟨hS, hX⟩, fun _ => hW⟩)
theorem fs_run1 (hi' : ops.toList[i]? = some o) (hw : Region.wanted o (yielded ops a.tmps) = true) (h : ∀ K : Act → World → Prop, Shut (∀ a w, S w → Still X (l.setIfInBounds i true) w → fStep P ops Q S X r (l.setIfInBounds i true) a w → K a w) → Oper.wp P o a w K Q) :
  fStep P ops Q S X (.step i 0 r) l a w := by rw [fStep]; exact run_once hi' hw h
theorem fs_fork (hi' : ops.toList[i]? = some o) (hw : Region.wanted o (yielded ops a.tmps) = true) (hj' : ops.toList[j]? = some o') (hw' : Region.wanted o' (yielded ops a.tmps) = true)
  (h1 : ∀ K : Act → World → Prop, Shut (∀ a w, S w → Still X (l.setIfInBounds i true) w → fStep P ops Q S X r (l.setIfInBounds i true) a w → K a w) → Oper.wp P o a w K Q)
  (h2 : ∀ K : Act → World → Prop, Shut (∀ a w, S w → Still X (l.setIfInBounds j true) w → fStep P ops Q S X s (l.setIfInBounds j true) a w → K a w) → Oper.wp P o' a w K Q) :
  fStep P ops Q S X (.fork i r j s) l a w := by rw [fStep]; exact ⟨run_once hi' hw h1, run_once hj' hw' h2⟩
theorem fs_done (h : Q .normal a w) : fStep P ops Q S X .done l a w := by rw [fStep]; exact h
end
end Go.Proofs.YtmgjcaikldeioaaGreat.Kt
namespace Go.Proofs.YtmgjcaikldeioaaGreat.Fm
open Go Go.RowKit Go.Lib Kt

section
variable {P : Program} {w : World}
theorem run_mk {t e : TypeId} {by_ : Nat} {zs : List Value} (ht : P.underlying t = some (.slice e)) (hi : (P.info? e).map (fun i => (i.zero.map (·.cells), i.size, i.bytes)) = some (some zs.toArray, zs.length, by_)) (hsz : 0 < zs.length) {n : Nat} (hn : n * zs.length ≤ 16777216) (hb : by_ * n ≤ 281474976710656) (h63 : n ≤ 1000000) :
  (Instr.makeSlice t (.int .i64 n) (.int .i64 n)).run P w = .ok (.slice (some ⟨w.heap.size, 0, none⟩) n n) (w.alloc (.cells (List.replicate n zs).flatten.toArray e)) := by
 cases hinf : P.info? e with
 | none => rw [hinf] at hi; cases hi
 | some i =>
  rw [hinf] at hi
  simp only [Option.map_some, Option.some.injEq, Prod.mk.injEq] at hi
  obtain ⟨hz0, hs, hb'⟩ := hi
  cases hz : i.zero with
  | none => rw [hz] at hz0; cases hz0
  | some z =>
   rw [hz] at hz0
   have hzc : z.cells = zs.toArray := Option.some.inj hz0
   have hr := run_makeSlice (P := P) (w := w) t e i z ht hinf hz .i64 .i64 n n (by omega) (Int.le_refl _) (by rw [hs]; simpa using hn) (by rw [hb']; have := Int.ofNat_le.2 hb; rw [Int.natCast_mul] at this; exact this) (by omega)
   simp only [Int.toNat_natCast] at hr
   rw [hr]
   have h2 : madeCells z.cells (n * i.size) = Builtin.zeroCells z.cells n := by
    unfold madeCells Builtin.zeroCells
    rw [hs, hzc, List.size_toArray]
   have h3 := zeroCells_rep z.cells (by rw [hzc]; simpa using hsz) n
   rw [h2, show Builtin.zeroCells z.cells n = (Builtin.zeroCells z.cells n).toList.toArray from by simp, h3, hzc]
theorem wp_mk {t e : TypeId} {by_ : Nat} {zs : List Value} {op : Oper} {a : Act} {K : Act → World → Prop} {Q : Exit → Act → World → Prop} (p q : Operand) (ho : op.op = .makeSlice t p q) (ht : P.underlying t = some (.slice e)) (hi : (P.info? e).map (fun i => (i.zero.map (·.cells), i.size, i.bytes)) = some (some zs.toArray, zs.length, by_)) (hsz : 0 < zs.length) {n : Nat} (hp : a.eval p = .int .i64 n) (hq : a.eval q = .int .i64 n) (hn : n * zs.length ≤ 16777216) (hb : by_ * n ≤ 281474976710656) (h63 : n ≤ 1000000)
  (hK : ∀ w1, Below w.heap.size w w1 → Lies w1 w.heap.size e (List.replicate n zs).flatten.toArray → K (a.put op.dst (.slice (some ⟨w.heap.size, 0, none⟩) n n)) w1) : op.wp P a w K Q := by
 have hr := run_mk (P := P) (w := w) ht hi hsz hn hb h63
 unfold Oper.wp execOp
 simp only [ho, hp, hq, hr, Sem.run_bind, Sem.run_pure, Result.andThen_ok]
 exact hK _ ((Below.refl _ _).alloc (Nat.le_refl _) _) (Lies.new w _ _)
theorem wp_bsN {t e : TypeId} {n d : Nat} {args : Array (Nat × Operand)} {op : Oper} {a : Act} {K : Act → World → Prop} {Q : Exit → Act → World → Prop} (_hd : op.dst = some d) (ho : op.op = .buildSlice t n args) (cs : List Value) (hb : ∀ w, (Instr.buildSlice t n (args.map fun p => (p.1, a.eval p.2))).run P w = .ok (.slice (some ⟨w.heap.size, 0, none⟩) n n) (w.alloc (.cells cs.toArray e)))
  (hK : ∀ w1, Below w.heap.size w w1 → Lies w1 w.heap.size e cs.toArray → K (a.put op.dst (.slice (some ⟨w.heap.size, 0, none⟩) n n)) w1) : op.wp P a w K Q := by
 have := hb w
 unfold Oper.wp execOp
 simp only [ho, this, Sem.run_bind, Sem.run_pure, Result.andThen_ok]
 exact hK _ ((Below.refl _ _).alloc (Nat.le_refl _) _) (Lies.new w _ _)
end
end Go.Proofs.YtmgjcaikldeioaaGreat.Fm
namespace Go.Proofs.YtmgjcaikldeioaaGreat.Ru
open Go Go.RowKit Go.Lib Kt Fm Gr Ty Va

theorem row_lies {w : World} {base g : Nat} {e : TypeId} {sz n : Nat} {cs : List Value} (h : Lies w g e cs.toArray) (hb : base ≤ g) (hn : cs.length = n * sz) (hm : n ≤ maxLen) : w.ownsRow base e sz (.slice (some ⟨g, 0, none⟩) n n) n cs :=
 ⟨hn, .inr ⟨g, n, cs.toArray, rfl, hb, h, Nat.le_refl _, hm, by simpa using hn, by rw [← hn]; exact List.take_length⟩⟩
/-- The blocks of the least module. -/
structure LeastAt (B : Nat) (w : World) (g1 g2 g3 g4 g5 g6 : Nat) : Prop where
 p : Lies w g1 5 (u8c 126).toArray
 q : Lies w g2 5 (u8c 127).toArray
 t : Lies w g3 51 (([⟨.slice none 0 0, [], .slice none 0 0, []⟩, ⟨.slice (some ⟨g1, 0, none⟩) 1 1, [126], .slice none 0 0, []⟩, ⟨.slice (some ⟨g2, 0, none⟩) 1 1, [127], .slice none 0 0, []⟩] : List Ft).flatMap Ft.cs).toArray
 f : Lies w g4 28 (u32c 0).toArray
 c : Lies w g5 48 (Cod.cs cod0).toArray
 e : Lies w g6 61 (Exp.cs exp0).toArray
 b : B ≤ g1 ∧ B ≤ g2 ∧ B ≤ g3 ∧ B ≤ g4 ∧ B ≤ g5 ∧ B ≤ g6
set_option maxRecDepth 100000 in
set_option maxHeartbeats 16000000 in
theorem least_own (W : World) : Calls Tryz.prog 25 #[] W fun e w' => (∃ g1 g2 g3 g4 g5 g6, e = .returned (.agg (modR (.slice (some ⟨g3, 0, none⟩) 3 3) (.slice (some ⟨g1, 0, none⟩) 1 1) (.slice (some ⟨g2, 0, none⟩) 1 1) (.slice none 0 0) [] (.slice (some ⟨g4, 0, none⟩) 1 1) (.slice none 0 0) [] (.slice (some ⟨g6, 0, none⟩) 1 1) 0 (.slice (some ⟨g5, 0, none⟩) 1 1)).cs.toArray) ∧ LeastAt W.heap.size w' g1 g2 g3 g4 g5 g6) ∧ Below W.heap.size W w' := by
 go_enter Tryz.func25, Tryz.ntmps25
 go_upto_region 1 with fail
 obtain ⟨w0, hw0⟩ : ∃ w0, w0 = W.alloc (.cells modZ.cs.toArray 33) := ⟨_, rfl⟩
 have HM0 := zh (show Lies w0 W.heap.size 33 modZ.cs.toArray from by rw [hw0]; exact Lies.new _ _ _)
 have HB0 := zh (show Below W.heap.size W w0 from by rw [hw0]; exact (Below.refl _ _).alloc (Nat.le_refl _) _)
 have HMB := zh (Nat.le_refl W.heap.size)
 rw [show (W.alloc (.cells #[.slice none 0 0, .slice none 0 0, .slice none 0 0, .slice none 0 0, .slice none 0 0, .slice none 0 0, .slice none 0 0, .bool false, .int .u32 0, .slice none 0 0, .slice none 0 0, .slice none 0 0] 33)) = w0 from hw0.symm]
 clear hw0
 go_wp2_with (first | (refine wl_bsN (e := 5) (d := 2) rfl rfl (u8c 126) rfl (fun w => by kernel_rfl) (fun w1 hb1 hl1 => ?_); obtain ⟨g1, hg1⟩ : ∃ g, g = w0.heap.size := ⟨_, rfl⟩; have G1 := zh (show W.heap.size ≤ g1 from by rw [hg1]; exact HB0.out.size); rw [← hg1] at hl1 ⊢; have HB1 := zh (bt HB0.out hb1); have HP1 := zh hl1; have HM1 := zh (HM0.out.below hb1 HM0.out.lt); clear hb1 hl1 hg1; (try simp only [Act.put, sA, sB, sC])) | (refine wl_bsN (e := 5) (d := 4) rfl rfl (u8c 127) rfl (fun w => by kernel_rfl) (fun w2 hb2 hl2 => ?_); obtain ⟨g2, hg2⟩ : ∃ g, g = w1.heap.size := ⟨_, rfl⟩; have G2 := zh (show W.heap.size ≤ g2 from by rw [hg2]; exact HB1.out.size); rw [← hg2] at hl2 ⊢; have HB2 := zh (bt HB1.out hb2); have HQ2 := zh hl2; have HM2 := zh (HM1.out.below hb2 HM1.out.lt); have HP2 := zh (HP1.out.below hb2 HP1.out.lt); clear hb2 hl2 hg2; (try simp only [Act.put, sA, sB, sC])) | (refine wl_bsN (e := 51) (d := 6) rfl rfl (([⟨.slice none 0 0, [], .slice none 0 0, []⟩, ⟨.slice (some ⟨g1, 0, none⟩) 1 1, [126], .slice none 0 0, []⟩, ⟨.slice (some ⟨g2, 0, none⟩) 1 1, [127], .slice none 0 0, []⟩] : List Ft).flatMap Ft.cs) rfl (fun w => by kernel_rfl) (fun w3 hb3 hl3 => ?_); obtain ⟨g3, hg3⟩ : ∃ g, g = w2.heap.size := ⟨_, rfl⟩; have G3 := zh (show W.heap.size ≤ g3 from by rw [hg3]; exact HB2.out.size); rw [← hg3] at hl3 ⊢; have HB3 := zh (bt HB2.out hb3); have HT3 := zh hl3; have HM3 := zh (HM2.out.below hb3 HM2.out.lt); have HP3 := zh (HP2.out.below hb3 HP2.out.lt); have HQ3 := zh (HQ2.out.below hb3 HQ2.out.lt); clear hb3 hl3 hg3; (try simp only [Act.put, sA, sB, sC])) | (refine wl_bsN (e := 28) (d := 7) rfl rfl (u32c 0) rfl (fun w => by kernel_rfl) (fun w4 hb4 hl4 => ?_); obtain ⟨g4, hg4⟩ : ∃ g, g = w3.heap.size := ⟨_, rfl⟩; have G4 := zh (show W.heap.size ≤ g4 from by rw [hg4]; exact HB3.out.size); rw [← hg4] at hl4 ⊢; have HB4 := zh (bt HB3.out hb4); have HF4 := zh hl4; have HM4 := zh (HM3.out.below hb4 HM3.out.lt); have HP4 := zh (HP3.out.below hb4 HP3.out.lt); have HQ4 := zh (HQ3.out.below hb4 HQ3.out.lt); have HT4 := zh (HT3.out.below hb4 HT3.out.lt); clear hb4 hl4 hg4; (try simp only [Act.put, sA, sB, sC])) | (refine wl_bsN (e := 48) (d := 9) rfl rfl (Cod.cs ⟨.slice none 0 0, [], .slice none 0 0, []⟩) rfl (fun w => by kernel_rfl) (fun w5 hb5 hl5 => ?_); obtain ⟨g5, hg5⟩ : ∃ g, g = w4.heap.size := ⟨_, rfl⟩; have G5 := zh (show W.heap.size ≤ g5 from by rw [hg5]; exact HB4.out.size); rw [← hg5] at hl5 ⊢; have HB5 := zh (bt HB4.out hb5); have HC5 := zh hl5; have HM5 := zh (HM4.out.below hb5 HM4.out.lt); have HP5 := zh (HP4.out.below hb5 HP4.out.lt); have HQ5 := zh (HQ4.out.below hb5 HQ4.out.lt); have HT5 := zh (HT4.out.below hb5 HT4.out.lt); have HF5 := zh (HF4.out.below hb5 HF4.out.lt); clear hb5 hl5 hg5; (try simp only [Act.put, sA, sB, sC])) | (refine wl_bsN (e := 61) (d := 11) rfl rfl (Exp.cs ⟨mainB, 0, 0⟩) rfl (fun w => by kernel_rfl) (fun w6 hb6 hl6 => ?_); obtain ⟨g6, hg6⟩ : ∃ g, g = w5.heap.size := ⟨_, rfl⟩; have G6 := zh (show W.heap.size ≤ g6 from by rw [hg6]; exact HB5.out.size); rw [← hg6] at hl6 ⊢; have HB6 := zh (bt HB5.out hb6); have HE6 := zh hl6; have HM6 := zh (HM5.out.below hb6 HM5.out.lt); have HP6 := zh (HP5.out.below hb6 HP5.out.lt); have HQ6 := zh (HQ5.out.below hb6 HQ5.out.lt); have HT6 := zh (HT5.out.below hb6 HT5.out.lt); have HF6 := zh (HF5.out.below hb6 HF5.out.lt); have HC6 := zh (HC5.out.below hb6 HC5.out.lt); clear hb6 hl6 hg6; (try simp only [Act.put, sA, sB, sC])) | (refine wl_put HM6.out (modR (.slice (some ⟨g3, 0, none⟩) 3 3) (.slice (some ⟨g1, 0, none⟩) 1 1) (.slice (some ⟨g2, 0, none⟩) 1 1) (.slice none 0 0) [] (.slice (some ⟨g4, 0, none⟩) 1 1) (.slice none 0 0) [] (.slice (some ⟨g6, 0, none⟩) 1 1) 0 (.slice (some ⟨g5, 0, none⟩) 1 1)).cs _ _ rfl rfl rfl rfl rfl sizeMod (by simp [modR, Mod.cs, Value.oneCell']) (fun w7 hl7 hf7 => ?_); have HB7 := zh (HB6.out.trans (hf7.below HB6.out.size (fun k hk => by rw [hk]; exact HMB.out))); have HP7 := zh (lies_frT HP6.out (FrT.field HM6.out hf7) (by decide)); have HQ7 := zh (lies_frT HQ6.out (FrT.field HM6.out hf7) (by decide)); have HT7 := zh (lies_frT HT6.out (FrT.field HM6.out hf7) (by decide)); have HF7 := zh (lies_frT HF6.out (FrT.field HM6.out hf7) (by decide)); have HC7 := zh (lies_frT HC6.out (FrT.field HM6.out hf7) (by decide)); have HE7 := zh (lies_frT HE6.out (FrT.field HM6.out hf7) (by decide)); have HM7 := zh hl7; clear hl7 hf7; (try simp only [Act.put])))
 (try simp only [Exit.inBlock, Exit.then])
 refine bodyPost_ret_by (results_c rfl _ _ W.heap.size (modR (.slice (some ⟨g3, 0, none⟩) 3 3) (.slice (some ⟨g1, 0, none⟩) 1 1) (.slice (some ⟨g2, 0, none⟩) 1 1) (.slice none 0 0) [] (.slice (some ⟨g4, 0, none⟩) 1 1) (.slice none 0 0) [] (.slice (some ⟨g6, 0, none⟩) 1 1) 0 (.slice (some ⟨g5, 0, none⟩) 1 1)).cs _ rfl HM7.out Tryz.underlying33 rfl sizeMod) rfl ⟨⟨g1, g2, g3, g4, g5, g6, rfl, HP7.out, HQ7.out, HT7.out, HF7.out, HC7.out, HE7.out, ?_⟩, HB7.out⟩
 have h1 := G1.out
 have h2 := G2.out
 have h3 := G3.out
 have h4 := G4.out
 have h5 := G5.out
 have h6 := G6.out
 omega
end Go.Proofs.YtmgjcaikldeioaaGreat.Ru
