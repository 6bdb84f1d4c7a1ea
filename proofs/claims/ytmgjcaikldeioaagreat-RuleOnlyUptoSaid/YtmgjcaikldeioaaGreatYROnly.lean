/- The statement RuleOnlyUpto: for every input of bulk at most 1048576 the call returns true (a module that may be deployed is valid, and imports what is offered alone; without its main, or with an import that is not offered, it may not be) and each argument reads behind it as it did: the row. Conditions: the bulk's bound alone. -/
import Derived.Test.YtmgjcaikldeioaaGreatYNj
import Derived.Test.YtmgjcaikldeioaaGreatYNa
import Derived.Test.YtmgjcaikldeioaaGreatYRw
import Derived.Test.YtmgjcaikldeioaaGreatYRwW
import Derived.Test.YtmgjcaikldeioaaGreatYRm
namespace Go.Proofs.YtmgjcaikldeioaaGreat.Va
open Gr Ty

/-- Names that are not yet there, each once. -/
def Once : List Exp → List (List UInt8) → Prop
 | [], _ => True
 | x :: r, ns => nmL x.nm ∉ ns ∧ Once r (ns ++ [nmL x.nm])
theorem once_sub {l : List Exp} : ∀ {ns ns' : List (List UInt8)}, (∀ b ∈ ns', b ∈ ns) → Once l ns → Once l ns' := by
 induction l with
 | nil => intro _ _ _ _; trivial
 | cons x r ih =>
  intro ns ns' h ho
  refine ⟨fun hm => ho.1 (h _ hm), ih (fun b hb => ?_) ho.2⟩
  rcases List.mem_append.1 hb with hb | hb
  ·exact List.mem_append_left _ (h b hb)
  ·exact List.mem_append_right _ hb
section
variable {m m' : Mod}
theorem expE_iff : ∀ {l : List Exp} {ns : List (List UInt8)}, expE m l ns 0 = 0 ↔ (∀ x ∈ l, thereB m x.kind x.ix = true) ∧ Once l ns
 | [], ns => by simp [expE, Once]
 | x :: r, ns => by
  rw [expE, if_pos rfl]
  constructor
  ·intro h
   have h1 := expE_back h
   have h2 := (mst_zero (by decide)).1 h1
   have h3 := (mst_zero (by decide)).1 h2.1
   rw [h1] at h
   obtain ⟨h4, h5⟩ := expE_iff.1 h
   refine ⟨fun y hy => ?_, ?_, h5⟩
   ·rcases List.mem_cons.1 hy with rfl | hy
    ·exact h3.2
    ·exact h4 y hy
   ·have := h2.2
    simpa using this
  ·rintro ⟨h1, h2, h3⟩
   rw [h1 x (.head _), mst_true, show (!decide (nmL x.nm ∈ ns)) = true from by simpa using h2, mst_true]
   exact expE_iff.2 ⟨fun y hy => h1 y (.tail _ hy), h3⟩
/-- What a check of its parts asks is the same. -/
structure Like (m m' : Mod) : Prop where
 types : m'.types = m.types
 imps : m'.imps = m.imps
 funcs : m'.funcs = m.funcs
 tabs : m'.tabs = m.tabs
 mems : m'.mems = m.mems
 globs : m'.globs = m.globs
 codes : m'.codes = m.codes
theorem Like.ft (h : Like m m') : ftype m' = ftype m := by
 funext i
 unfold ftype ftyps fimps
 rw [h.imps, h.funcs, h.types]
theorem Like.fk (h : Like m m') (k : UInt8) : Gr.fk m' k = Gr.fk m k := by unfold Gr.fk; rw [h.imps]
theorem Like.bs (h : Like m m') : bsOf m' = bsOf m := by unfold bsOf; rw [h.fk, h.tabs]
theorem Like.ms (h : Like m m') : msOf m' = msOf m := by unfold msOf; rw [h.fk, h.mems]
theorem Like.gs (h : Like m m') : gsOf m' = gsOf m := by unfold gsOf; rw [h.fk, h.globs]
theorem Like.cnt (h : Like m m') : Gr.cnt m' = Gr.cnt m := by unfold Gr.cnt fimps; rw [h.imps, h.funcs]
theorem Like.there (h : Like m m') : thereB m' = thereB m := by
 funext k i
 unfold thereB cntK
 rw [h.cnt, h.bs, h.ms, h.gs]
theorem Like.cons (h : Like m m') : constE m' = constE m := by
 funext l t e
 unfold constE gl
 rw [h.fk, h.gs]
theorem Like.glb (h : Like m m') : glbE m' = glbE m := by funext g e; unfold glbE; rw [h.cons]
theorem Like.elm (h : Like m m') : elmE m' = elmE m := by funext g e; unfold elmE; rw [h.cons, h.there]
theorem Like.imp (h : Like m m') : impE m' = impE m := by funext g e; unfold impE; rw [h.types]
theorem Like.sto (h : Like m m') : storesE m' = storesE m := by funext e; unfold storesE; rw [h.bs, h.ms]
theorem Like.cod (h : Like m m') : codC m' = codC m := by
 funext i c
 unfold codC spX spcOf fnA
 rw [h.ft, h.types, h.gs, h.bs, h.ms, h.fk]
theorem Like.codE (h : Like m m') : ∀ (l : List Cod) (H : List Nat) (e : Nat), Va.codE m' l H e = Va.codE m l H e
 | [], _, _ => rfl
 | x :: r, H, e => by rw [Va.codE, Va.codE, h.cod, Like.codE h r]
theorem Like.expE (h : Like m m') : ∀ (l : List Exp) (ns : List (List UInt8)) (e : Nat), Va.expE m' l ns e = Va.expE m l ns e
 | [], _, _ => rfl
 | x :: r, ns, e => by rw [Va.expE, Va.expE, h.there, Like.expE h r]
/-- The errors ahead of the exports but those of the exports' kinds. -/
def mid (m : Mod) (e : Nat) : Nat := eachE (glbE m) m.globs (storesE m (eachE (fun t e => mst e (m.types[t]?).isSome 80) m.funcs (eachE (impE m) m.imps (eachE typE m.types e))))
theorem Like.mid (h : Like m m') : Va.mid m' = Va.mid m := by
 funext e
 unfold Va.mid
 rw [h.glb, h.globs, h.sto, h.types, h.funcs, h.imp, h.imps]
theorem fore9_eq (m : Mod) : fore9 m = expE m m.exps [] (mid m (eachE (fun x e => mst e (decide (x.kind ≤ 3)) 2) m.exps (eachE (fun x e => mst e (decide (x.kind ≤ 3)) 2) m.imps (mst 0 (m.codes.length == m.funcs.length) 2)))) := rfl
theorem mid_back {e : Nat} (h : mid m e = 0) : e = 0 := eachE_back (eachE_back (eachE_back (storesE_back (eachE_back h))))
end
end Go.Proofs.YtmgjcaikldeioaaGreat.Va
/- Parts of lists of exports, of elements; one of them made. -/
namespace Go.Proofs.YtmgjcaikldeioaaGreat.Va
open Go Go.RowKit Go.Lib Kt Fm Gr Ty

/-- No more than there is room for, and less than the bound. -/
def CapOk (v : Value) : Prop := ∀ s n c, v = .slice s n c → n ≤ c ∧ n < 1048576
/-- What is behind the first k. -/
def dropV (sb : Option Addr) (n cb k : Nat) : Value := match sb with
 | none => .slice none (n - k) (cb - k)
 | some a => .slice (if cb = k then some a else some (a.add (k * 3))) (n - k) (cb - k)
theorem und_x : Tryz.prog.underlying 27 = some (.slice 61) := by kernel_rfl
theorem inf_x : (Tryz.prog.info? 61).map (fun i => (i.zero.map (·.cells.size), i.size, i.bytes)) = some (some 3, 3, 24) := by kernel_rfl
end Go.Proofs.YtmgjcaikldeioaaGreat.Va
/- What the statements' rows ask: a module that came in, opened within the bound. -/
namespace Go.Proofs.YtmgjcaikldeioaaGreat.Va
open Go Go.RowKit Go.Lib Go.WideShapes Go.ChangeShapes Go.ChangeAt Kt Fm Gr

section
variable {H : Type} {enc : TypeId × Value → H} {w : World} {base : Nat} {spare : Nat → Bool} {held : Bool}
set_option maxRecDepth 100000 in
theorem small {ds : List (DataW H)} (h : Rows.uptoSmall H ds = true) {d : DataW H} (hd : d ∈ ds) : bulk d ≤ Bd := by
 unfold Rows.uptoSmall at h
 rw [decide_eq_true_eq] at h
 exact Nat.le_trans (bulk_mem hd) h
set_option maxRecDepth 100000 in
theorem open_mod {r : Reach} {b0 : Nat} {v : Value} {d : DataW H} {p : List MemPlace} (hv : Value.okWide Tryz.prog w r b0 33 v) (h : DataW.Trod enc Tryz.prog w base spare held 33 v d p) (hB : bulk d ≤ Bd) : ∃ m : Mod, v = .agg m.cs.toArray ∧ ModOk w m := by
 simp only [Value.okWide, Tryz.underlying33] at hv
 obtain ⟨cs, rfl, hsz, _⟩ := hv
 obtain ⟨fuel, hf⟩ := h
 obtain ⟨m, hm, hok⟩ := el_Mod fuel _ _ _ hf hB
 refine ⟨m, ?_, hok⟩
 have : cs = m.cs.toArray := by
  rw [← hm]
  simp [Value.cells]
 rw [this]
end
end Go.Proofs.YtmgjcaikldeioaaGreat.Va
/- The least module that may be deployed; the chapter's rows for rule. -/
namespace Go.Proofs.YtmgjcaikldeioaaGreat.Ru
open Go Go.RowKit Go.Lib Kt Fm Gr Ty Va

theorem oneModR {w : World} {m : Mod} (h : ModOk w m) : (m.cs.toArray.all (·.oneCell')) = true := by
 obtain ⟨s0, c0, e0, _⟩ := h.1.1.form
 obtain ⟨s1, c1, e1, _⟩ := h.2.1.1.form
 obtain ⟨s2, c2, e2, _⟩ := h.2.2.1.1.form
 obtain ⟨s3, c3, e3, _⟩ := h.2.2.2.1.1.form
 obtain ⟨s4, c4, e4, _⟩ := h.2.2.2.2.1.1.form
 obtain ⟨s5, c5, e5, _⟩ := h.2.2.2.2.2.1.1.form
 obtain ⟨s6, c6, e6, _⟩ := h.2.2.2.2.2.2.1.1.form
 obtain ⟨s9, c9, e9, _⟩ := h.2.2.2.2.2.2.2.2.1.1.form
 obtain ⟨s10, c10, e10, _⟩ := h.2.2.2.2.2.2.2.2.2.1.1.form
 obtain ⟨s11, c11, e11, _⟩ := h.2.2.2.2.2.2.2.2.2.2.1.form
 simp [Mod.cs, e0, e1, e2, e3, e4, e5, e6, e9, e10, e11, Value.oneCell']
def mainB : ByteArray := ⟨#[109, 97, 105, 110]⟩
/-- A module as the chapter's rows have it. -/
def modR (tv p1 p2 iv : Value) (imps : List Imp) (fv mv : Value) (mems : List Lim) (ev : Value) (ix : Nat) (cv : Value) : Mod := ⟨tv, [⟨.slice none 0 0, [], .slice none 0 0, []⟩, ⟨p1, [126], .slice none 0 0, []⟩, ⟨p2, [127], .slice none 0 0, []⟩], iv, imps, fv, [0], .slice none 0 0, [], mv, mems, .slice none 0 0, [], ev, [⟨mainB, 0, ix⟩], false, 0, .slice none 0 0, [], cv, [⟨.slice none 0 0, [], .slice none 0 0, []⟩], .slice none 0 0, []⟩
def modZ : Mod := ⟨.slice none 0 0, [], .slice none 0 0, [], .slice none 0 0, [], .slice none 0 0, [], .slice none 0 0, [], .slice none 0 0, [], .slice none 0 0, [], false, 0, .slice none 0 0, [], .slice none 0 0, [], .slice none 0 0, []⟩
def impR (nm : ByteArray) (kind : UInt8) (ty : Nat) (mx : Int) : Imp := ⟨⟨#[101, 110, 118]⟩, nm, kind, ty, ⟨0, mx⟩, ⟨0, false⟩⟩
theorem modZ_ok (w : World) : ModOk w modZ := ⟨nil_ok, nil_ok, nil_ok, nil_ok, nil_ok, nil_ok, nil_ok, (by show (0 : Nat) < 4294967296; decide), nil_ok, nil_ok, nil_ok⟩
set_option maxRecDepth 100000 in
set_option maxHeartbeats 16000000 in
theorem least_any (W : World) : Calls Tryz.prog 25 #[] W fun e w' => (∃ tv p1 p2 fv ev cv, e = .returned (.agg (modR tv p1 p2 (.slice none 0 0) [] fv (.slice none 0 0) [] ev 0 cv).cs.toArray) ∧ ModOk w' (modR tv p1 p2 (.slice none 0 0) [] fv (.slice none 0 0) [] ev 0 cv)) ∧ Below W.heap.size W w' := by
 go_enter Tryz.func25, Tryz.ntmps25
 go_upto_region 1 with fail
 obtain ⟨w0, hw0⟩ : ∃ w0, w0 = W.alloc (.cells modZ.cs.toArray 33) := ⟨_, rfl⟩
 have HM0 := Lib.hid (show Lies w0 W.heap.size 33 modZ.cs.toArray from by rw [hw0]; exact Lies.new _ _ _)
 have HB0 := Lib.hid (show Below W.heap.size W w0 from by rw [hw0]; exact (Below.refl _ _).alloc (Nat.le_refl _) _)
 have HMB := Lib.hid (Nat.le_refl W.heap.size)
 rw [show (W.alloc (.cells #[.slice none 0 0, .slice none 0 0, .slice none 0 0, .slice none 0 0, .slice none 0 0, .slice none 0 0, .slice none 0 0, .bool false, .int .u32 0, .slice none 0 0, .slice none 0 0, .slice none 0 0] 33)) = w0 from hw0.symm]
 clear hw0
 go_wp2_with (first | (refine wl_bsN (e := 5) (d := 2) rfl rfl (u8c 126) rfl (fun w => by kernel_rfl) (fun w1 hb1 hl1 => ?_); obtain ⟨g1, hg1⟩ : ∃ g, g = w0.heap.size := ⟨_, rfl⟩; rw [← hg1] at hl1 ⊢; have HB1 := Lib.hid (bt HB0.out hb1); have HP1 := Lib.hid hl1; have HM1 := Lib.hid (HM0.out.below hb1 HM0.out.lt); clear hb1 hl1 hg1; (try simp only [Act.put, sA, sB, sC])) | (refine wl_bsN (e := 5) (d := 4) rfl rfl (u8c 127) rfl (fun w => by kernel_rfl) (fun w2 hb2 hl2 => ?_); obtain ⟨g2, hg2⟩ : ∃ g, g = w1.heap.size := ⟨_, rfl⟩; rw [← hg2] at hl2 ⊢; have HB2 := Lib.hid (bt HB1.out hb2); have HQ2 := Lib.hid hl2; have HM2 := Lib.hid (HM1.out.below hb2 HM1.out.lt); have HP2 := Lib.hid (HP1.out.below hb2 HP1.out.lt); clear hb2 hl2 hg2; (try simp only [Act.put, sA, sB, sC])) | (refine wl_bsN (e := 51) (d := 6) rfl rfl (([⟨.slice none 0 0, [], .slice none 0 0, []⟩, ⟨.slice (some ⟨g1, 0, none⟩) 1 1, [126], .slice none 0 0, []⟩, ⟨.slice (some ⟨g2, 0, none⟩) 1 1, [127], .slice none 0 0, []⟩] : List Ft).flatMap Ft.cs) rfl (fun w => by kernel_rfl) (fun w3 hb3 hl3 => ?_); obtain ⟨g3, hg3⟩ : ∃ g, g = w2.heap.size := ⟨_, rfl⟩; rw [← hg3] at hl3 ⊢; have HB3 := Lib.hid (bt HB2.out hb3); have HT3 := Lib.hid hl3; have HM3 := Lib.hid (HM2.out.below hb3 HM2.out.lt); have HP3 := Lib.hid (HP2.out.below hb3 HP2.out.lt); have HQ3 := Lib.hid (HQ2.out.below hb3 HQ2.out.lt); clear hb3 hl3 hg3; (try simp only [Act.put, sA, sB, sC])) | (refine wl_bsN (e := 28) (d := 7) rfl rfl (u32c 0) rfl (fun w => by kernel_rfl) (fun w4 hb4 hl4 => ?_); obtain ⟨g4, hg4⟩ : ∃ g, g = w3.heap.size := ⟨_, rfl⟩; rw [← hg4] at hl4 ⊢; have HB4 := Lib.hid (bt HB3.out hb4); have HF4 := Lib.hid hl4; have HM4 := Lib.hid (HM3.out.below hb4 HM3.out.lt); have HP4 := Lib.hid (HP3.out.below hb4 HP3.out.lt); have HQ4 := Lib.hid (HQ3.out.below hb4 HQ3.out.lt); have HT4 := Lib.hid (HT3.out.below hb4 HT3.out.lt); clear hb4 hl4 hg4; (try simp only [Act.put, sA, sB, sC])) | (refine wl_bsN (e := 48) (d := 9) rfl rfl (Cod.cs ⟨.slice none 0 0, [], .slice none 0 0, []⟩) rfl (fun w => by kernel_rfl) (fun w5 hb5 hl5 => ?_); obtain ⟨g5, hg5⟩ : ∃ g, g = w4.heap.size := ⟨_, rfl⟩; rw [← hg5] at hl5 ⊢; have HB5 := Lib.hid (bt HB4.out hb5); have HC5 := Lib.hid hl5; have HM5 := Lib.hid (HM4.out.below hb5 HM4.out.lt); have HP5 := Lib.hid (HP4.out.below hb5 HP4.out.lt); have HQ5 := Lib.hid (HQ4.out.below hb5 HQ4.out.lt); have HT5 := Lib.hid (HT4.out.below hb5 HT4.out.lt); have HF5 := Lib.hid (HF4.out.below hb5 HF4.out.lt); clear hb5 hl5 hg5; (try simp only [Act.put, sA, sB, sC])) | (refine wl_bsN (e := 61) (d := 11) rfl rfl (Exp.cs ⟨mainB, 0, 0⟩) rfl (fun w => by kernel_rfl) (fun w6 hb6 hl6 => ?_); obtain ⟨g6, hg6⟩ : ∃ g, g = w5.heap.size := ⟨_, rfl⟩; rw [← hg6] at hl6 ⊢; have HB6 := Lib.hid (bt HB5.out hb6); have HE6 := Lib.hid hl6; have HM6 := Lib.hid (HM5.out.below hb6 HM5.out.lt); have HP6 := Lib.hid (HP5.out.below hb6 HP5.out.lt); have HQ6 := Lib.hid (HQ5.out.below hb6 HQ5.out.lt); have HT6 := Lib.hid (HT5.out.below hb6 HT5.out.lt); have HF6 := Lib.hid (HF5.out.below hb6 HF5.out.lt); have HC6 := Lib.hid (HC5.out.below hb6 HC5.out.lt); clear hb6 hl6 hg6; (try simp only [Act.put, sA, sB, sC])) | (refine wl_put HM6.out (modR (.slice (some ⟨g3, 0, none⟩) 3 3) (.slice (some ⟨g1, 0, none⟩) 1 1) (.slice (some ⟨g2, 0, none⟩) 1 1) (.slice none 0 0) [] (.slice (some ⟨g4, 0, none⟩) 1 1) (.slice none 0 0) [] (.slice (some ⟨g6, 0, none⟩) 1 1) 0 (.slice (some ⟨g5, 0, none⟩) 1 1)).cs _ _ rfl rfl rfl rfl rfl sizeMod (by simp [modR, Mod.cs, Value.oneCell']) (fun w7 hl7 hf7 => ?_); have HB7 := Lib.hid (HB6.out.trans (hf7.below HB6.out.size (fun k hk => by rw [hk]; exact HMB.out))); have HP7 := Lib.hid (lies_frT HP6.out (FrT.field HM6.out hf7) (by decide)); have HQ7 := Lib.hid (lies_frT HQ6.out (FrT.field HM6.out hf7) (by decide)); have HT7 := Lib.hid (lies_frT HT6.out (FrT.field HM6.out hf7) (by decide)); have HF7 := Lib.hid (lies_frT HF6.out (FrT.field HM6.out hf7) (by decide)); have HC7 := Lib.hid (lies_frT HC6.out (FrT.field HM6.out hf7) (by decide)); have HE7 := Lib.hid (lies_frT HE6.out (FrT.field HM6.out hf7) (by decide)); have HM7 := Lib.hid hl7; clear hl7 hf7; (try simp only [Act.put])))
 (try simp only [Exit.inBlock, Exit.then])
 refine bodyPost_ret_by (results_c rfl _ _ W.heap.size (modR (.slice (some ⟨g3, 0, none⟩) 3 3) (.slice (some ⟨g1, 0, none⟩) 1 1) (.slice (some ⟨g2, 0, none⟩) 1 1) (.slice none 0 0) [] (.slice (some ⟨g4, 0, none⟩) 1 1) (.slice none 0 0) [] (.slice (some ⟨g6, 0, none⟩) 1 1) 0 (.slice (some ⟨g5, 0, none⟩) 1 1)).cs _ rfl HM7.out Tryz.underlying33 rfl sizeMod) rfl ⟨⟨_, _, _, _, _, _, rfl, ?_⟩, HB7.out⟩
 refine ⟨⟨sl_many (L := ([⟨.slice none 0 0, [], .slice none 0 0, []⟩, ⟨.slice (some ⟨g1, 0, none⟩) 1 1, [126], .slice none 0 0, []⟩, ⟨.slice (some ⟨g2, 0, none⟩) 1 1, [127], .slice none 0 0, []⟩] : List Ft)) Ft.len HT7.out, fun y hy => ?_, (by show (3 : Nat) ≤ 1048576; decide)⟩, nil_ok, ⟨sl_one (x := (0 : Nat)) (en := u32c) HF7.out, fun y hy => ?_, (by show (1 : Nat) ≤ 1048576; decide)⟩, nil_ok, nil_ok, nil_ok, ⟨sl_one (x := (⟨mainB, 0, 0⟩ : Exp)) (en := Exp.cs) HE7.out, fun y hy => ?_, (by show (1 : Nat) ≤ 1048576; decide)⟩, (by show (0 : Nat) < 4294967296; decide), nil_ok, ⟨sl_one (x := (⟨.slice none 0 0, [], .slice none 0 0, []⟩ : Cod)) (en := Cod.cs) HC7.out, fun y hy => ?_, (by show (1 : Nat) ≤ 1048576; decide)⟩, nil_ok⟩
 ·rcases List.mem_cons.1 hy with rfl | hy
  ·exact ⟨nil_ok, nil_ok⟩
  ·rcases List.mem_cons.1 hy with rfl | hy
   ·exact ⟨⟨sl_one (x := (126 : UInt8)) (en := u8c) HP7.out, fun _ _ => trivial, (by show (1 : Nat) ≤ 1048576; decide)⟩, nil_ok⟩
   ·obtain rfl := List.mem_singleton.1 hy
    exact ⟨⟨sl_one (x := (127 : UInt8)) (en := u8c) HQ7.out, fun _ _ => trivial, (by show (1 : Nat) ≤ 1048576; decide)⟩, nil_ok⟩
 ·obtain rfl := List.mem_singleton.1 hy
  show (0 : Nat) < 4294967296
  decide
 ·obtain rfl := List.mem_singleton.1 hy
  exact ⟨by show (0 : Nat) < 4294967296; decide, by show (4 : Nat) ≤ 1048576; decide⟩
 ·obtain rfl := List.mem_singleton.1 hy
  exact ⟨nil_ok, nil_ok⟩
theorem rk0 : rchk modZ = 121 := by kernel_rfl
theorem rk1 (tv p1 p2 iv fv mv ev cv : Value) : rchk (modR tv p1 p2 iv [] fv mv [] ev 0 cv) = 0 := by kernel_rfl
theorem rk2 (tv p1 p2 iv fv mv ev cv : Value) : rchk (modR tv p1 p2 iv [impR ⟨#[99, 97, 108, 108, 101, 114]⟩ 0 1 0] fv mv [] ev 1 cv) = 120 := by kernel_rfl
theorem rk3 (tv p1 p2 iv fv mv ev cv : Value) : rchk (modR tv p1 p2 iv [impR ⟨#[115, 101, 110, 100, 101, 114]⟩ 0 2 0] fv mv [] ev 1 cv) = 120 := by kernel_rfl
theorem rk4 (tv p1 p2 iv fv mv ev cv : Value) : rchk (modR tv p1 p2 iv [impR ⟨#[99, 97, 108, 108, 101, 114]⟩ 2 0 (-1)] fv mv [] ev 0 cv) = 120 := by kernel_rfl
theorem rk5 (tv p1 p2 iv fv mv ev cv : Value) : rchk (modR tv p1 p2 iv [] fv mv [⟨17, -1⟩] ev 0 cv) = 122 := by kernel_rfl
theorem fk1 : hfind [103, 97, 115, 95, 108, 101, 102, 116] = some 15 := by decide +kernel
theorem fk2 : hfind [109, 101, 116, 101, 114] = none := by decide +kernel
theorem modR_ok {w : World} {tv p1 p2 iv fv mv ev cv e0 : Value} {imps : List Imp} {mems : List Lim} {ix : Nat} (h : ModOk w (modR tv p1 p2 (.slice none 0 0) [] fv (.slice none 0 0) [] e0 0 cv)) (hi : Sl w 8 Imp.cs iv imps ∧ (∀ y ∈ imps, ImpOk w y) ∧ imps.length ≤ Bd) (hm : Sl w 2 Lim.cs mv mems ∧ (∀ y ∈ mems, LimOk w y) ∧ mems.length ≤ Bd) (he : Sl w 3 Exp.cs ev [⟨mainB, 0, ix⟩]) (hx : ix < 4294967296) : ModOk w (modR tv p1 p2 iv imps fv mv mems ev ix cv) :=
 ⟨h.1, hi, h.2.2.1, h.2.2.2.1, hm, h.2.2.2.2.2.1, ⟨he, fun y hy => (by obtain rfl := List.mem_singleton.1 hy; exact ⟨hx, (by show (4 : Nat) ≤ 1048576; decide)⟩), (by show (1 : Nat) ≤ 1048576; decide)⟩, h.2.2.2.2.2.2.2.1, h.2.2.2.2.2.2.2.2.1, h.2.2.2.2.2.2.2.2.2.1, h.2.2.2.2.2.2.2.2.2.2⟩
theorem imp1_ok {w : World} {g : Nat} {x : Imp} (h : Lies w g 88 x.cs.toArray) (hx : x.ty < 4294967296 ∧ x.lim.mn < 4294967296 ∧ x.mod.size ≤ Bd ∧ x.nm.size ≤ Bd) : Sl w 8 Imp.cs (.slice (some ⟨g, 0, none⟩) 1 1) [x] ∧ (∀ y ∈ [x], ImpOk w y) ∧ [x].length ≤ Bd :=
 ⟨sl_one h, fun y hy => (by obtain rfl := List.mem_singleton.1 hy; exact ⟨hx.1, hx.2.1, trivial, hx.2.2⟩), (by show (1 : Nat) ≤ 1048576; decide)⟩
set_option maxRecDepth 100000 in
set_option maxHeartbeats 16000000 in
theorem known_any (W : World) : Calls Tryz.prog 19 #[] W fun e w' => e = .returned (.bool true) ∧ Below W.heap.size W w' := by
 go_enter Tryz.func19, Tryz.ntmps19
 have HB0 := Lib.hid (Below.refl W.heap.size W)
 go_wp2_with fail
 refine (least_any _).mono ?_
 rintro en w1 ⟨⟨t1, p1, q1, f1, e1, c1, rfl, hm1⟩, hb1⟩
 have HB1 := Lib.hid (bt HB0.out hb1)
 have HM1 := Lib.hid hm1
 clear hm1 hb1
 go_wp2_with fail
 refine (least_any _).mono ?_
 rintro en w2 ⟨⟨t2, p2, q2, f2, e2, c2, rfl, hm2⟩, hb2⟩
 have HB2 := Lib.hid (bt HB1.out hb2)
 replace HM1 := Lib.hid (HM1.out.later hb2)
 have HM2 := Lib.hid hm2
 clear hm2 hb2
 go_wp2_with fail
 refine (least_any _).mono ?_
 rintro en w3 ⟨⟨t3, p3, q3, f3, e3, c3, rfl, hm3⟩, hb3⟩
 have HB3 := Lib.hid (bt HB2.out hb3)
 replace HM1 := Lib.hid (HM1.out.later hb3)
 replace HM2 := Lib.hid (HM2.out.later hb3)
 have HM3 := Lib.hid hm3
 clear hm3 hb3
 go_wp2_with fail
 refine (least_any _).mono ?_
 rintro en w4 ⟨⟨t4, p4, q4, f4, e4, c4, rfl, hm4⟩, hb4⟩
 have HB4 := Lib.hid (bt HB3.out hb4)
 replace HM1 := Lib.hid (HM1.out.later hb4)
 replace HM2 := Lib.hid (HM2.out.later hb4)
 replace HM3 := Lib.hid (HM3.out.later hb4)
 have HM4 := Lib.hid hm4
 clear hm4 hb4
 have HBU := Lib.hid (Nat.le_refl w4.heap.size)
 have HBB := Lib.hid HB4.out.size
 have hz1 : Lies (World.alloc (World.alloc (World.alloc (World.alloc w4 (Obj.cells modZ.cs.toArray 33)) (Obj.cells modZ.cs.toArray 33)) (Obj.cells modZ.cs.toArray 33)) (Obj.cells modZ.cs.toArray 33)) (w4.heap.size) 33 modZ.cs.toArray := by
  have h := (Lies.new w4 33 modZ.cs.toArray)
  exact (((h.alloc _).alloc _).alloc _)
 have hz2 : Lies (World.alloc (World.alloc (World.alloc (World.alloc w4 (Obj.cells modZ.cs.toArray 33)) (Obj.cells modZ.cs.toArray 33)) (Obj.cells modZ.cs.toArray 33)) (Obj.cells modZ.cs.toArray 33)) (w4.heap.size + 1) 33 modZ.cs.toArray := by
  have h := (Lies.new (World.alloc w4 (Obj.cells modZ.cs.toArray 33)) 33 modZ.cs.toArray)
  simp only [World.size_alloc] at h
  exact ((h.alloc _).alloc _)
 have hz3 : Lies (World.alloc (World.alloc (World.alloc (World.alloc w4 (Obj.cells modZ.cs.toArray 33)) (Obj.cells modZ.cs.toArray 33)) (Obj.cells modZ.cs.toArray 33)) (Obj.cells modZ.cs.toArray 33)) (w4.heap.size + 1 + 1) 33 modZ.cs.toArray := by
  have h := (Lies.new (World.alloc (World.alloc w4 (Obj.cells modZ.cs.toArray 33)) (Obj.cells modZ.cs.toArray 33)) 33 modZ.cs.toArray)
  simp only [World.size_alloc] at h
  exact (h.alloc _)
 have hz4 : Lies (World.alloc (World.alloc (World.alloc (World.alloc w4 (Obj.cells modZ.cs.toArray 33)) (Obj.cells modZ.cs.toArray 33)) (Obj.cells modZ.cs.toArray 33)) (Obj.cells modZ.cs.toArray 33)) (w4.heap.size + 1 + 1 + 1) 33 modZ.cs.toArray := by
  have h := (Lies.new (World.alloc (World.alloc (World.alloc w4 (Obj.cells modZ.cs.toArray 33)) (Obj.cells modZ.cs.toArray 33)) (Obj.cells modZ.cs.toArray 33)) 33 modZ.cs.toArray)
  simp only [World.size_alloc] at h
  exact h
 have hbz : Below w4.heap.size w4 (World.alloc (World.alloc (World.alloc (World.alloc w4 (Obj.cells modZ.cs.toArray 33)) (Obj.cells modZ.cs.toArray 33)) (Obj.cells modZ.cs.toArray 33)) (Obj.cells modZ.cs.toArray 33)) := ((((Below.refl _ _).alloc (Nat.le_refl _) _).alloc (by simp) _).alloc (by simp; omega) _).alloc (by simp; omega) _
 have HZB := Lib.hid hbz
 have HZ1 := Lib.hid hz1
 have HZ2 := Lib.hid hz2
 have HZ3 := Lib.hid hz3
 have HZ4 := Lib.hid hz4
 clear hz1 hz2 hz3 hz4 hbz
 obtain ⟨B, hB⟩ : ∃ B, B = w4.heap.size := ⟨_, rfl⟩
 rw [← hB] at HBU HBB
 have HBE := Lib.hid hB
 clear hB
 go_upto_region 3 with (first | (refine wl_put HZ1.out (modR t1 p1 q1 (.slice none 0 0) [] f1 (.slice none 0 0) [] (e1) 0 c1).cs _ _ rfl rfl rfl rfl rfl sizeMod (oneModR HM1.out) (fun w5 hl5 hf5 => ?_); have HB5 := Lib.hid (bt HB4.out (HZB.out.trans (hf5.below HZB.out.size (fun k hk => by omega)))); have HU5 := Lib.hid (HZB.out.trans (hf5.below HZB.out.size (fun k hk => by omega))); have X2_5 := Lib.hid (lies_fr HZ2.out hf5 (fun e => by omega)); have X3_5 := Lib.hid (lies_fr HZ3.out hf5 (fun e => by omega)); have X4_5 := Lib.hid (lies_fr HZ4.out hf5 (fun e => by omega)); have X1_5 := Lib.hid hl5; rw [← HBE.out] at X1_5 X2_5 X3_5 X4_5 ⊢; clear hl5 hf5; (try simp only [Act.put])) | (refine wl_put X2_5.out (modR t2 p2 q2 (.slice none 0 0) [] f2 (.slice none 0 0) [] (e2) 0 c2).cs _ _ rfl rfl rfl rfl rfl sizeMod (oneModR HM2.out) (fun w6 hl6 hf6 => ?_); have HB6 := Lib.hid (HB5.out.trans (hf6.below HB5.out.size (fun k hk => by have := HBB.out; omega))); have HU6 := Lib.hid (HU5.out.trans (hf6.below HU5.out.size (fun k hk => by have := HBE.out; omega))); have X1_6 := Lib.hid (lies_fr X1_5.out hf6 (fun e => by omega)); have X3_6 := Lib.hid (lies_fr X3_5.out hf6 (fun e => by omega)); have X4_6 := Lib.hid (lies_fr X4_5.out hf6 (fun e => by omega)); have X2_6 := Lib.hid hl6; clear hl6 hf6; (try simp only [Act.put])) | (refine wl_put X3_6.out (modR t3 p3 q3 (.slice none 0 0) [] f3 (.slice none 0 0) [] (e3) 0 c3).cs _ _ rfl rfl rfl rfl rfl sizeMod (oneModR HM3.out) (fun w7 hl7 hf7 => ?_); have HB7 := Lib.hid (HB6.out.trans (hf7.below HB6.out.size (fun k hk => by have := HBB.out; omega))); have HU7 := Lib.hid (HU6.out.trans (hf7.below HU6.out.size (fun k hk => by have := HBE.out; omega))); have X1_7 := Lib.hid (lies_fr X1_6.out hf7 (fun e => by omega)); have X2_7 := Lib.hid (lies_fr X2_6.out hf7 (fun e => by omega)); have X4_7 := Lib.hid (lies_fr X4_6.out hf7 (fun e => by omega)); have X3_7 := Lib.hid hl7; clear hl7 hf7; (try simp only [Act.put])) | (refine wl_put X4_7.out (modR t4 p4 q4 (.slice none 0 0) [] f4 (.slice none 0 0) [] (e4) 0 c4).cs _ _ rfl rfl rfl rfl rfl sizeMod (oneModR HM4.out) (fun w8 hl8 hf8 => ?_); have HB8 := Lib.hid (HB7.out.trans (hf8.below HB7.out.size (fun k hk => by have := HBB.out; omega))); have HU8 := Lib.hid (HU7.out.trans (hf8.below HU7.out.size (fun k hk => by have := HBE.out; omega))); have X1_8 := Lib.hid (lies_fr X1_7.out hf8 (fun e => by omega)); have X2_8 := Lib.hid (lies_fr X2_7.out hf8 (fun e => by omega)); have X3_8 := Lib.hid (lies_fr X3_7.out hf8 (fun e => by omega)); have X4_8 := Lib.hid hl8; clear hl8 hf8; (try simp only [Act.put])) | (refine wl_bsN (e := 88) (d := 14) rfl rfl (impR ⟨#[99, 97, 108, 108, 101, 114]⟩ 0 1 0).cs rfl (fun w => by kernel_rfl) (fun w9 hb9 hl9 => ?_); obtain ⟨ga, hg9⟩ : ∃ g, g = w8.heap.size := ⟨_, rfl⟩; rw [← hg9] at hl9 ⊢; have HB9 := Lib.hid (bt HB8.out hb9); have HU9 := Lib.hid (bt HU8.out hb9); have RI_9 := Lib.hid hl9; have X1_9 := Lib.hid (X1_8.out.below hb9 X1_8.out.lt); have X2_9 := Lib.hid (X2_8.out.below hb9 X2_8.out.lt); have X3_9 := Lib.hid (X3_8.out.below hb9 X3_8.out.lt); have X4_9 := Lib.hid (X4_8.out.below hb9 X4_8.out.lt); clear hb9 hl9 hg9; (try simp only [Act.put, sA, sB, sC])) | (refine wl_bsN (e := 61) (d := 16) rfl rfl (Exp.cs ⟨mainB, 0, 1⟩) rfl (fun w => by kernel_rfl) (fun w10 hb10 hl10 => ?_); obtain ⟨gx, hg10⟩ : ∃ g, g = w9.heap.size := ⟨_, rfl⟩; rw [← hg10] at hl10 ⊢; have HB10 := Lib.hid (bt HB9.out hb10); have HU10 := Lib.hid (bt HU9.out hb10); have RX_10 := Lib.hid hl10; have X1_10 := Lib.hid (X1_9.out.below hb10 X1_9.out.lt); have X2_10 := Lib.hid (X2_9.out.below hb10 X2_9.out.lt); have X3_10 := Lib.hid (X3_9.out.below hb10 X3_9.out.lt); have X4_10 := Lib.hid (X4_9.out.below hb10 X4_9.out.lt); have RI_10 := Lib.hid (RI_9.out.below hb10 RI_9.out.lt); clear hb10 hl10 hg10; (try simp only [Act.put, sA, sB, sC])) | (refine wl_fld (c0 := (modR t1 p1 q1 (.slice none 0 0) [] f1 (.slice none 0 0) [] (e1) 0 c1).cs) X1_10.out _ _ rfl rfl rfl rfl [.slice (some ⟨ga, 0, none⟩) 1 1] (modR t1 p1 q1 (.slice (some ⟨ga, 0, none⟩) 1 1) [(impR ⟨#[99, 97, 108, 108, 101, 114]⟩ 0 1 0)] f1 (.slice none 0 0) [] (e1) 0 c1).cs rfl (by kernel_rfl) (by intro u hu; obtain rfl := List.mem_singleton.1 hu; rfl) (by simp [modR, Mod.cs]) rfl (fun w11 hl11 hf11 => ?_); have HB11 := Lib.hid (HB10.out.trans (hf11.below HB10.out.size (fun k hk => by have := HBB.out; omega))); have HU11 := Lib.hid (HU10.out.trans (hf11.below HU10.out.size (fun k hk => by have := HBE.out; omega))); have X2_11 := Lib.hid (lies_fr X2_10.out hf11 (fun e => by omega)); have X3_11 := Lib.hid (lies_fr X3_10.out hf11 (fun e => by omega)); have X4_11 := Lib.hid (lies_fr X4_10.out hf11 (fun e => by omega)); have RI_11 := Lib.hid (lies_frT RI_10.out (FrT.field X1_10.out hf11) (by decide)); have RX_11 := Lib.hid (lies_frT RX_10.out (FrT.field X1_10.out hf11) (by decide)); have X1_11 := Lib.hid hl11; clear hl11 hf11; (try simp only [Act.put])) | (refine wl_fld (c0 := (modR t1 p1 q1 (.slice (some ⟨ga, 0, none⟩) 1 1) [(impR ⟨#[99, 97, 108, 108, 101, 114]⟩ 0 1 0)] f1 (.slice none 0 0) [] (e1) 0 c1).cs) X1_11.out _ _ rfl rfl rfl rfl [.slice (some ⟨gx, 0, none⟩) 1 1] (modR t1 p1 q1 (.slice (some ⟨ga, 0, none⟩) 1 1) [(impR ⟨#[99, 97, 108, 108, 101, 114]⟩ 0 1 0)] f1 (.slice none 0 0) [] (.slice (some ⟨gx, 0, none⟩) 1 1) 1 c1).cs rfl (by kernel_rfl) (by intro u hu; obtain rfl := List.mem_singleton.1 hu; rfl) (by simp [modR, Mod.cs]) rfl (fun w12 hl12 hf12 => ?_); have HB12 := Lib.hid (HB11.out.trans (hf12.below HB11.out.size (fun k hk => by have := HBB.out; omega))); have HU12 := Lib.hid (HU11.out.trans (hf12.below HU11.out.size (fun k hk => by have := HBE.out; omega))); have X2_12 := Lib.hid (lies_fr X2_11.out hf12 (fun e => by omega)); have X3_12 := Lib.hid (lies_fr X3_11.out hf12 (fun e => by omega)); have X4_12 := Lib.hid (lies_fr X4_11.out hf12 (fun e => by omega)); have RI_12 := Lib.hid (lies_frT RI_11.out (FrT.field X1_11.out hf12) (by decide)); have RX_12 := Lib.hid (lies_frT RX_11.out (FrT.field X1_11.out hf12) (by decide)); have X1_12 := Lib.hid hl12; clear hl12 hf12; (try simp only [Act.put])))
 have hd := below_drew w12
 have X1_13 := Lib.hid (X1_12.out.below hd X1_12.out.lt)
 have X2_13 := Lib.hid (X2_12.out.below hd X2_12.out.lt)
 have X3_13 := Lib.hid (X3_12.out.below hd X3_12.out.lt)
 have X4_13 := Lib.hid (X4_12.out.below hd X4_12.out.lt)
 have RI_13 := Lib.hid (RI_12.out.below hd RI_12.out.lt)
 have RX_13 := Lib.hid (RX_12.out.below hd RX_12.out.lt)
 have HB13 := Lib.hid (bt HB12.out hd)
 have HU13 := Lib.hid (bt HU12.out hd)
 refine wp_region_t [(0, 1), (2, 1), (3, 1), (1, 0), (4, 1), (5, 0), (6, 1), (7, 0)] (fun w' => w'.cell? ⟨B, 6, none⟩ = some (.slice (some ⟨gx, 0, none⟩) 1 1)) [] [] rfl (by kernel_rfl) (by kernel_rfl) (fun _ _ d _ _ h => by cases d <;> exact h) (X1_13.out.cell 6) (fun p hp => by cases hp) ?_
 clear hd
 generalize w12.drew = w13 at X1_13 X2_13 X3_13 X4_13 RI_13 RX_13 HB13 HU13 ⊢
 repeat (refine ts_take (v := ?_) rfl rfl (fun w' hw' => ?_) ?_; rotate_left; (focus (have q0 := hw'; (try simp only [Act.put, sA, sB, sC]); go_simp; (try go_bits); (try (with_reducible rfl)))); (try simp only [Act.put, sA, sB, sC]))
 refine ts_run1 rfl rfl (fun K hK => ?_)
 refine wp_bs1 (e := 88) (.agg (impR ⟨#[115, 101, 110, 100, 101, 114]⟩ 0 2 0).cs.toArray) (impR ⟨#[115, 101, 110, 100, 101, 114]⟩ 0 2 0).cs (fun w => by kernel_rfl) _ rfl rfl (fun w14 hb14 hl14 => ?_)
 obtain ⟨gb, hg14⟩ : ∃ g, g = w13.heap.size := ⟨_, rfl⟩
 rw [← hg14] at hl14 ⊢
 have RJ_14 := Lib.hid hl14
 have X1_14 := Lib.hid (X1_13.out.below hb14 X1_13.out.lt)
 have X2_14 := Lib.hid (X2_13.out.below hb14 X2_13.out.lt)
 have X3_14 := Lib.hid (X3_13.out.below hb14 X3_13.out.lt)
 have X4_14 := Lib.hid (X4_13.out.below hb14 X4_13.out.lt)
 have RI_14 := Lib.hid (RI_13.out.below hb14 RI_13.out.lt)
 have RX_14 := Lib.hid (RX_13.out.below hb14 RX_13.out.lt)
 have HB14 := Lib.hid (bt HB13.out hb14)
 have HU14 := Lib.hid (bt HU13.out hb14)
 refine hK.out _ _ (X1_14.out.cell 6) (still_none _ _) ?_
 clear hK K hb14 hl14 hg14
 (try simp only [Act.put, sA, sB, sC])
 repeat (refine ts_take (v := ?_) rfl rfl (fun w' hw' => ?_) ?_; rotate_left; (focus (have q0 := hw'; (try simp only [Act.put, sA, sB, sC]); go_simp; (try go_bits); (try (with_reducible rfl)))); (try simp only [Act.put, sA, sB, sC]))
 refine ts_run1 rfl rfl (fun K hK => ?_)
 refine wp_fld (c0 := (modR t2 p2 q2 (.slice none 0 0) [] f2 (.slice none 0 0) [] (e2) 0 c2).cs) X2_14.out _ _ rfl rfl rfl [.slice (some ⟨gb, 0, none⟩) 1 1] (modR t2 p2 q2 (.slice (some ⟨gb, 0, none⟩) 1 1) [(impR ⟨#[115, 101, 110, 100, 101, 114]⟩ 0 2 0)] f2 (.slice none 0 0) [] (e2) 0 c2).cs rfl (by kernel_rfl) (by intro u hu; obtain rfl := List.mem_singleton.1 hu; rfl) (by simp [modR, Mod.cs]) rfl (fun w15 hl15 hf15 => ?_)
 have HB15 := Lib.hid (HB14.out.trans (hf15.below HB14.out.size (fun k hk => by have := HBB.out; omega))); have HU15 := Lib.hid (HU14.out.trans (hf15.below HU14.out.size (fun k hk => by have := HBE.out; omega))); have X1_15 := Lib.hid (lies_fr X1_14.out hf15 (fun e => by omega)); have X3_15 := Lib.hid (lies_fr X3_14.out hf15 (fun e => by omega)); have X4_15 := Lib.hid (lies_fr X4_14.out hf15 (fun e => by omega)); have RI_15 := Lib.hid (lies_frT RI_14.out (FrT.field X2_14.out hf15) (by decide)); have RX_15 := Lib.hid (lies_frT RX_14.out (FrT.field X2_14.out hf15) (by decide)); have RJ_15 := Lib.hid (lies_frT RJ_14.out (FrT.field X2_14.out hf15) (by decide)); have X2_15 := Lib.hid hl15
 refine hK.out _ _ (X1_15.out.cell 6) (still_none _ _) ?_
 clear hK K hl15 hf15
 (try simp only [Act.put])
 repeat (refine ts_take (v := ?_) rfl rfl (fun w' hw' => ?_) ?_; rotate_left; (focus (have q0 := hw'; (try simp only [Act.put, sA, sB, sC]); go_simp; (try go_bits); (try (with_reducible rfl)))); (try simp only [Act.put, sA, sB, sC]))
 refine ts_run1 rfl rfl (fun K hK => ?_)
 refine wp_fld (c0 := (modR t2 p2 q2 (.slice (some ⟨gb, 0, none⟩) 1 1) [(impR ⟨#[115, 101, 110, 100, 101, 114]⟩ 0 2 0)] f2 (.slice none 0 0) [] (e2) 0 c2).cs) X2_15.out _ _ rfl rfl rfl [.slice (some ⟨gx, 0, none⟩) 1 1] (modR t2 p2 q2 (.slice (some ⟨gb, 0, none⟩) 1 1) [(impR ⟨#[115, 101, 110, 100, 101, 114]⟩ 0 2 0)] f2 (.slice none 0 0) [] (.slice (some ⟨gx, 0, none⟩) 1 1) 1 c2).cs rfl (by kernel_rfl) (by intro u hu; obtain rfl := List.mem_singleton.1 hu; rfl) (by simp [modR, Mod.cs]) rfl (fun w16 hl16 hf16 => ?_)
 have HB16 := Lib.hid (HB15.out.trans (hf16.below HB15.out.size (fun k hk => by have := HBB.out; omega))); have HU16 := Lib.hid (HU15.out.trans (hf16.below HU15.out.size (fun k hk => by have := HBE.out; omega))); have X1_16 := Lib.hid (lies_fr X1_15.out hf16 (fun e => by omega)); have X3_16 := Lib.hid (lies_fr X3_15.out hf16 (fun e => by omega)); have X4_16 := Lib.hid (lies_fr X4_15.out hf16 (fun e => by omega)); have RI_16 := Lib.hid (lies_frT RI_15.out (FrT.field X2_15.out hf16) (by decide)); have RX_16 := Lib.hid (lies_frT RX_15.out (FrT.field X2_15.out hf16) (by decide)); have RJ_16 := Lib.hid (lies_frT RJ_15.out (FrT.field X2_15.out hf16) (by decide)); have X2_16 := Lib.hid hl16
 refine hK.out _ _ (X1_16.out.cell 6) (still_none _ _) ?_
 clear hK K hl16 hf16
 (try simp only [Act.put])
 refine ts_done ?_
 go_wp2_with (first | (refine wl_bsN (e := 88) (d := 27) rfl rfl (impR ⟨#[99, 97, 108, 108, 101, 114]⟩ 2 0 (-1)).cs rfl (fun w => by kernel_rfl) (fun w17 hb17 hl17 => ?_); obtain ⟨gc, hg17⟩ : ∃ g, g = w16.heap.size := ⟨_, rfl⟩; rw [← hg17] at hl17 ⊢; have HB17 := Lib.hid (bt HB16.out hb17); have HU17 := Lib.hid (bt HU16.out hb17); have RK_17 := Lib.hid hl17; have X1_17 := Lib.hid (X1_16.out.below hb17 X1_16.out.lt); have X2_17 := Lib.hid (X2_16.out.below hb17 X2_16.out.lt); have X3_17 := Lib.hid (X3_16.out.below hb17 X3_16.out.lt); have X4_17 := Lib.hid (X4_16.out.below hb17 X4_16.out.lt); have RI_17 := Lib.hid (RI_16.out.below hb17 RI_16.out.lt); have RX_17 := Lib.hid (RX_16.out.below hb17 RX_16.out.lt); have RJ_17 := Lib.hid (RJ_16.out.below hb17 RJ_16.out.lt); clear hb17 hl17 hg17; (try simp only [Act.put, sA, sB, sC])) | (refine wl_fld (c0 := (modR t3 p3 q3 (.slice none 0 0) [] f3 (.slice none 0 0) [] (e3) 0 c3).cs) X3_17.out _ _ rfl rfl rfl rfl [.slice (some ⟨gc, 0, none⟩) 1 1] (modR t3 p3 q3 (.slice (some ⟨gc, 0, none⟩) 1 1) [(impR ⟨#[99, 97, 108, 108, 101, 114]⟩ 2 0 (-1))] f3 (.slice none 0 0) [] (e3) 0 c3).cs rfl (by kernel_rfl) (by intro u hu; obtain rfl := List.mem_singleton.1 hu; rfl) (by simp [modR, Mod.cs]) rfl (fun w18 hl18 hf18 => ?_); have HB18 := Lib.hid (HB17.out.trans (hf18.below HB17.out.size (fun k hk => by have := HBB.out; omega))); have HU18 := Lib.hid (HU17.out.trans (hf18.below HU17.out.size (fun k hk => by have := HBE.out; omega))); have X1_18 := Lib.hid (lies_fr X1_17.out hf18 (fun e => by omega)); have X2_18 := Lib.hid (lies_fr X2_17.out hf18 (fun e => by omega)); have X4_18 := Lib.hid (lies_fr X4_17.out hf18 (fun e => by omega)); have RI_18 := Lib.hid (lies_frT RI_17.out (FrT.field X3_17.out hf18) (by decide)); have RX_18 := Lib.hid (lies_frT RX_17.out (FrT.field X3_17.out hf18) (by decide)); have RJ_18 := Lib.hid (lies_frT RJ_17.out (FrT.field X3_17.out hf18) (by decide)); have RK_18 := Lib.hid (lies_frT RK_17.out (FrT.field X3_17.out hf18) (by decide)); have X3_18 := Lib.hid hl18; clear hl18 hf18; (try simp only [Act.put])) | (refine wl_bsN (e := 84) (d := 30) rfl rfl (Lim.cs ⟨17, -1⟩) rfl (fun w => by kernel_rfl) (fun w19 hb19 hl19 => ?_); obtain ⟨gl, hg19⟩ : ∃ g, g = w18.heap.size := ⟨_, rfl⟩; rw [← hg19] at hl19 ⊢; have HB19 := Lib.hid (bt HB18.out hb19); have HU19 := Lib.hid (bt HU18.out hb19); have RL_19 := Lib.hid hl19; have X1_19 := Lib.hid (X1_18.out.below hb19 X1_18.out.lt); have X2_19 := Lib.hid (X2_18.out.below hb19 X2_18.out.lt); have X3_19 := Lib.hid (X3_18.out.below hb19 X3_18.out.lt); have X4_19 := Lib.hid (X4_18.out.below hb19 X4_18.out.lt); have RI_19 := Lib.hid (RI_18.out.below hb19 RI_18.out.lt); have RX_19 := Lib.hid (RX_18.out.below hb19 RX_18.out.lt); have RJ_19 := Lib.hid (RJ_18.out.below hb19 RJ_18.out.lt); have RK_19 := Lib.hid (RK_18.out.below hb19 RK_18.out.lt); clear hb19 hl19 hg19; (try simp only [Act.put, sA, sB, sC])) | (refine wl_fld (c0 := (modR t4 p4 q4 (.slice none 0 0) [] f4 (.slice none 0 0) [] (e4) 0 c4).cs) X4_19.out _ _ rfl rfl rfl rfl [.slice (some ⟨gl, 0, none⟩) 1 1] (modR t4 p4 q4 (.slice none 0 0) [] f4 (.slice (some ⟨gl, 0, none⟩) 1 1) [⟨17, -1⟩] (e4) 0 c4).cs rfl (by kernel_rfl) (by intro u hu; obtain rfl := List.mem_singleton.1 hu; rfl) (by simp [modR, Mod.cs]) rfl (fun w20 hl20 hf20 => ?_); have HB20 := Lib.hid (HB19.out.trans (hf20.below HB19.out.size (fun k hk => by have := HBB.out; omega))); have HU20 := Lib.hid (HU19.out.trans (hf20.below HU19.out.size (fun k hk => by have := HBE.out; omega))); have X1_20 := Lib.hid (lies_fr X1_19.out hf20 (fun e => by omega)); have X2_20 := Lib.hid (lies_fr X2_19.out hf20 (fun e => by omega)); have X3_20 := Lib.hid (lies_fr X3_19.out hf20 (fun e => by omega)); have RI_20 := Lib.hid (lies_frT RI_19.out (FrT.field X4_19.out hf20) (by decide)); have RX_20 := Lib.hid (lies_frT RX_19.out (FrT.field X4_19.out hf20) (by decide)); have RJ_20 := Lib.hid (lies_frT RJ_19.out (FrT.field X4_19.out hf20) (by decide)); have RK_20 := Lib.hid (lies_frT RK_19.out (FrT.field X4_19.out hf20) (by decide)); have RL_20 := Lib.hid (lies_frT RL_19.out (FrT.field X4_19.out hf20) (by decide)); have X4_20 := Lib.hid hl20; clear hl20 hf20; (try simp only [Act.put])))
 refine (find_any _ _).mono ?_
 rintro en w21 ⟨rfl, hb⟩
 have X1_21 := Lib.hid (X1_20.out.below hb X1_20.out.lt)
 have X2_21 := Lib.hid (X2_20.out.below hb X2_20.out.lt)
 have X3_21 := Lib.hid (X3_20.out.below hb X3_20.out.lt)
 have X4_21 := Lib.hid (X4_20.out.below hb X4_20.out.lt)
 have RI_21 := Lib.hid (RI_20.out.below hb RI_20.out.lt)
 have RX_21 := Lib.hid (RX_20.out.below hb RX_20.out.lt)
 have RJ_21 := Lib.hid (RJ_20.out.below hb RJ_20.out.lt)
 have RK_21 := Lib.hid (RK_20.out.below hb RK_20.out.lt)
 have RL_21 := Lib.hid (RL_20.out.below hb RL_20.out.lt)
 have HB21 := Lib.hid (bt HB20.out hb)
 have HU21 := Lib.hid (bt HU20.out hb)
 clear hb
 rw [show nmL ⟨#[103, 97, 115, 95, 108, 101, 102, 116]⟩ = [103, 97, 115, 95, 108, 101, 102, 116] from rfl, fk1]
 go_wp2_with fail
 refine (find_any _ _).mono ?_
 rintro en w22 ⟨rfl, hb⟩
 have X1_22 := Lib.hid (X1_21.out.below hb X1_21.out.lt)
 have X2_22 := Lib.hid (X2_21.out.below hb X2_21.out.lt)
 have X3_22 := Lib.hid (X3_21.out.below hb X3_21.out.lt)
 have X4_22 := Lib.hid (X4_21.out.below hb X4_21.out.lt)
 have RI_22 := Lib.hid (RI_21.out.below hb RI_21.out.lt)
 have RX_22 := Lib.hid (RX_21.out.below hb RX_21.out.lt)
 have RJ_22 := Lib.hid (RJ_21.out.below hb RJ_21.out.lt)
 have RK_22 := Lib.hid (RK_21.out.below hb RK_21.out.lt)
 have RL_22 := Lib.hid (RL_21.out.below hb RL_21.out.lt)
 have HB22 := Lib.hid (bt HB21.out hb)
 have HU22 := Lib.hid (bt HU21.out hb)
 clear hb
 rw [show nmL ⟨#[109, 101, 116, 101, 114]⟩ = [109, 101, 116, 101, 114] from rfl, fk2]
 go_wp2_with fail
 refine (rcheck_any (m := modZ) (modZ_ok _)).mono ?_
 rintro en w23 ⟨rfl, hb⟩
 have X1_23 := Lib.hid (X1_22.out.below hb X1_22.out.lt)
 have X2_23 := Lib.hid (X2_22.out.below hb X2_22.out.lt)
 have X3_23 := Lib.hid (X3_22.out.below hb X3_22.out.lt)
 have X4_23 := Lib.hid (X4_22.out.below hb X4_22.out.lt)
 have RI_23 := Lib.hid (RI_22.out.below hb RI_22.out.lt)
 have RX_23 := Lib.hid (RX_22.out.below hb RX_22.out.lt)
 have RJ_23 := Lib.hid (RJ_22.out.below hb RJ_22.out.lt)
 have RK_23 := Lib.hid (RK_22.out.below hb RK_22.out.lt)
 have RL_23 := Lib.hid (RL_22.out.below hb RL_22.out.lt)
 have HB23 := Lib.hid (bt HB22.out hb)
 have HU23 := Lib.hid (bt HU22.out hb)
 clear hb
 rw [rk0]
 go_wp2_with fail
 refine (least_any _).mono ?_
 rintro en w24 ⟨⟨t9, p9, q9, f9, e9, c9, rfl, hm9⟩, hb⟩
 have X1_24 := Lib.hid (X1_23.out.below hb X1_23.out.lt)
 have X2_24 := Lib.hid (X2_23.out.below hb X2_23.out.lt)
 have X3_24 := Lib.hid (X3_23.out.below hb X3_23.out.lt)
 have X4_24 := Lib.hid (X4_23.out.below hb X4_23.out.lt)
 have RI_24 := Lib.hid (RI_23.out.below hb RI_23.out.lt)
 have RX_24 := Lib.hid (RX_23.out.below hb RX_23.out.lt)
 have RJ_24 := Lib.hid (RJ_23.out.below hb RJ_23.out.lt)
 have RK_24 := Lib.hid (RK_23.out.below hb RK_23.out.lt)
 have RL_24 := Lib.hid (RL_23.out.below hb RL_23.out.lt)
 have HB24 := Lib.hid (bt HB23.out hb)
 have HU24 := Lib.hid (bt HU23.out hb)
 clear hb
 go_wp2_with fail
 refine (rcheck_any hm9).mono ?_
 rintro en w25 ⟨rfl, hb⟩
 have X1_25 := Lib.hid (X1_24.out.below hb X1_24.out.lt)
 have X2_25 := Lib.hid (X2_24.out.below hb X2_24.out.lt)
 have X3_25 := Lib.hid (X3_24.out.below hb X3_24.out.lt)
 have X4_25 := Lib.hid (X4_24.out.below hb X4_24.out.lt)
 have RI_25 := Lib.hid (RI_24.out.below hb RI_24.out.lt)
 have RX_25 := Lib.hid (RX_24.out.below hb RX_24.out.lt)
 have RJ_25 := Lib.hid (RJ_24.out.below hb RJ_24.out.lt)
 have RK_25 := Lib.hid (RK_24.out.below hb RK_24.out.lt)
 have RL_25 := Lib.hid (RL_24.out.below hb RL_24.out.lt)
 have HB25 := Lib.hid (bt HB24.out hb)
 have HU25 := Lib.hid (bt HU24.out hb)
 clear hb
 rw [rk1]
 go_wp2_with (refine wl_loadw (lies_range X1_25.out) _ rfl rfl rfl Tryz.underlying33 rfl sizeMod ?_; (try simp only [Act.put, sA, sB, sC]))
 refine (rcheck_any (modR_ok (HM1.out.later HU25.out) (imp1_ok RI_25.out ⟨(by decide), (by decide), (by show (3 : Nat) ≤ 1048576; decide), (by show (6 : Nat) ≤ 1048576; decide)⟩) nil_ok (sl_one (x := (⟨mainB, 0, 1⟩ : Exp)) (en := Exp.cs) RX_25.out) (by decide))).mono ?_
 rintro en w26 ⟨rfl, hb⟩
 have X1_26 := Lib.hid (X1_25.out.below hb X1_25.out.lt)
 have X2_26 := Lib.hid (X2_25.out.below hb X2_25.out.lt)
 have X3_26 := Lib.hid (X3_25.out.below hb X3_25.out.lt)
 have X4_26 := Lib.hid (X4_25.out.below hb X4_25.out.lt)
 have RI_26 := Lib.hid (RI_25.out.below hb RI_25.out.lt)
 have RX_26 := Lib.hid (RX_25.out.below hb RX_25.out.lt)
 have RJ_26 := Lib.hid (RJ_25.out.below hb RJ_25.out.lt)
 have RK_26 := Lib.hid (RK_25.out.below hb RK_25.out.lt)
 have RL_26 := Lib.hid (RL_25.out.below hb RL_25.out.lt)
 have HB26 := Lib.hid (bt HB25.out hb)
 have HU26 := Lib.hid (bt HU25.out hb)
 clear hb
 rw [rk2]
 go_wp2_with (refine wl_loadw (lies_range X2_26.out) _ rfl rfl rfl Tryz.underlying33 rfl sizeMod ?_; (try simp only [Act.put, sA, sB, sC]))
 refine (rcheck_any (modR_ok (HM2.out.later HU26.out) (imp1_ok RJ_26.out ⟨(by decide), (by decide), (by show (3 : Nat) ≤ 1048576; decide), (by show (6 : Nat) ≤ 1048576; decide)⟩) nil_ok (sl_one (x := (⟨mainB, 0, 1⟩ : Exp)) (en := Exp.cs) RX_26.out) (by decide))).mono ?_
 rintro en w27 ⟨rfl, hb⟩
 have X1_27 := Lib.hid (X1_26.out.below hb X1_26.out.lt)
 have X2_27 := Lib.hid (X2_26.out.below hb X2_26.out.lt)
 have X3_27 := Lib.hid (X3_26.out.below hb X3_26.out.lt)
 have X4_27 := Lib.hid (X4_26.out.below hb X4_26.out.lt)
 have RI_27 := Lib.hid (RI_26.out.below hb RI_26.out.lt)
 have RX_27 := Lib.hid (RX_26.out.below hb RX_26.out.lt)
 have RJ_27 := Lib.hid (RJ_26.out.below hb RJ_26.out.lt)
 have RK_27 := Lib.hid (RK_26.out.below hb RK_26.out.lt)
 have RL_27 := Lib.hid (RL_26.out.below hb RL_26.out.lt)
 have HB27 := Lib.hid (bt HB26.out hb)
 have HU27 := Lib.hid (bt HU26.out hb)
 clear hb
 rw [rk3]
 go_wp2_with (refine wl_loadw (lies_range X3_27.out) _ rfl rfl rfl Tryz.underlying33 rfl sizeMod ?_; (try simp only [Act.put, sA, sB, sC]))
 refine (rcheck_any (modR_ok (HM3.out.later HU27.out) (imp1_ok RK_27.out ⟨(by decide), (by decide), (by show (3 : Nat) ≤ 1048576; decide), (by show (6 : Nat) ≤ 1048576; decide)⟩) nil_ok (HM3.out.later HU27.out).2.2.2.2.2.2.1.1 (by decide))).mono ?_
 rintro en w28 ⟨rfl, hb⟩
 have X1_28 := Lib.hid (X1_27.out.below hb X1_27.out.lt)
 have X2_28 := Lib.hid (X2_27.out.below hb X2_27.out.lt)
 have X3_28 := Lib.hid (X3_27.out.below hb X3_27.out.lt)
 have X4_28 := Lib.hid (X4_27.out.below hb X4_27.out.lt)
 have RI_28 := Lib.hid (RI_27.out.below hb RI_27.out.lt)
 have RX_28 := Lib.hid (RX_27.out.below hb RX_27.out.lt)
 have RJ_28 := Lib.hid (RJ_27.out.below hb RJ_27.out.lt)
 have RK_28 := Lib.hid (RK_27.out.below hb RK_27.out.lt)
 have RL_28 := Lib.hid (RL_27.out.below hb RL_27.out.lt)
 have HB28 := Lib.hid (bt HB27.out hb)
 have HU28 := Lib.hid (bt HU27.out hb)
 clear hb
 rw [rk4]
 go_wp2_with (refine wl_loadw (lies_range X4_28.out) _ rfl rfl rfl Tryz.underlying33 rfl sizeMod ?_; (try simp only [Act.put, sA, sB, sC]))
 refine (rcheck_any (modR_ok (HM4.out.later HU28.out) nil_ok ⟨sl_one RL_28.out, fun y hy => (by obtain rfl := List.mem_singleton.1 hy; show (17 : Nat) < 4294967296; decide), (by show (1 : Nat) ≤ 1048576; decide)⟩ (HM4.out.later HU28.out).2.2.2.2.2.2.1.1 (by decide))).mono ?_
 rintro en w29 ⟨rfl, hb⟩
 have X1_29 := Lib.hid (X1_28.out.below hb X1_28.out.lt)
 have X2_29 := Lib.hid (X2_28.out.below hb X2_28.out.lt)
 have X3_29 := Lib.hid (X3_28.out.below hb X3_28.out.lt)
 have X4_29 := Lib.hid (X4_28.out.below hb X4_28.out.lt)
 have RI_29 := Lib.hid (RI_28.out.below hb RI_28.out.lt)
 have RX_29 := Lib.hid (RX_28.out.below hb RX_28.out.lt)
 have RJ_29 := Lib.hid (RJ_28.out.below hb RJ_28.out.lt)
 have RK_29 := Lib.hid (RK_28.out.below hb RK_28.out.lt)
 have RL_29 := Lib.hid (RL_28.out.below hb RL_28.out.lt)
 have HB29 := Lib.hid (bt HB28.out hb)
 have HU29 := Lib.hid (bt HU28.out hb)
 clear hb
 rw [rk5]
 go_wp2_with fail
 go_ret
 exact ⟨rfl, HB29.out⟩
end Go.Proofs.YtmgjcaikldeioaaGreat.Ru
/- A module that may be deployed, without its main, and with an import that is not offered: plain. -/
namespace Go.Proofs.YtmgjcaikldeioaaGreat.Ru
open Gr Ty Va

theorem rchk_zero {m : Mod} (h : rchk m = 0) : (vchk m).2 = 0 ∧ sizeS m (vchk m).1 = true ∧ m.imps.all (impO m) = true ∧ expR m m.exps false = true := by
 unfold rchk at h
 by_cases h1 : (vchk m).2 = 0
 ·rw [if_neg (fun c => c h1)] at h
  refine ⟨h1, ?_⟩
  cases hs : sizeS m (vchk m).1 with
  | false => rw [if_pos hs] at h; cases h
  | true =>
   rw [if_neg (by rw [hs]; decide)] at h
   refine ⟨rfl, ?_⟩
   cases hi : m.imps.all (impO m) with
   | false => rw [if_pos hi] at h; cases h
   | true =>
    rw [if_neg (by rw [hi]; decide)] at h
    refine ⟨rfl, ?_⟩
    cases he : expR m m.exps false with
    | false => rw [if_pos he] at h; cases h
    | true => rfl
 ·rw [if_pos h1] at h
  exact absurd h h1
theorem once_filter (p : Exp → Bool) : ∀ {l : List Exp} {ns : List (List UInt8)}, Once l ns → Once (l.filter p) ns
 | [], _, _ => trivial
 | x :: r, ns, h => by
  by_cases hp : p x = true
  ·rw [List.filter_cons_of_pos hp]
   exact ⟨h.1, once_filter p h.2⟩
  ·rw [List.filter_cons_of_neg hp]
   exact once_filter p (once_sub (fun b hb => List.mem_append_left _ hb) h.2)
section
variable {m m' : Mod}
theorem like_start (hl : Like m m') (hst : m'.st = m.st) : startB m' = startB m := by unfold startB; rw [hl.ft, hst]
theorem like_dat (hl : Like m m') : datE m' = datE m := by funext g e; unfold datE; rw [hl.cons, hl.there]
/-- Fewer exports. -/
theorem vchk_exps (h : (vchk m).2 = 0) (hl : Like m m') (hsub : ∀ x ∈ m'.exps, x ∈ m.exps) (hon : Once m.exps [] → Once m'.exps []) (he : m'.elems = m.elems) (hs : m'.hs = m.hs) (hst : m'.st = m.st) (hd : m'.datas = m.datas) : vchk m' = vchk m := by
 obtain ⟨h1, _⟩ := vchk_zero h
 have h4 : fore m = 0 := codE_back (eachE_back h1)
 have h5 : fore9 m = 0 := start_back (eachE_back h4)
 have h5' := h5
 rw [fore9_eq] at h5
 have h6 := expE_back h5
 have h7 := mid_back h6
 rw [h7] at h6
 have h8 := eachE_back h7
 rw [h7, h6] at h5
 obtain ⟨h9, h10⟩ := expE_iff.1 h5
 have g1 : eachE (fun x e => mst e (decide (x.kind ≤ 3)) 2) m'.imps (mst 0 (m'.codes.length == m'.funcs.length) 2) = 0 := by rw [hl.imps, hl.codes, hl.funcs]; exact h8
 have hk := ((eachE_zero (f := fun (x : Exp) e => mst e (decide (x.kind ≤ 3)) 2) (fun x e => mst_back (by decide))).1 h7).2
 have g2 : eachE (fun x e => mst e (decide (x.kind ≤ 3)) 2) m'.exps 0 = 0 := (eachE_zero (f := fun (x : Exp) e => mst e (decide (x.kind ≤ 3)) 2) (fun x e => mst_back (by decide))).2 ⟨rfl, fun x hx => hk x (hsub x hx)⟩
 have g9 : fore9 m' = 0 := by
  rw [fore9_eq, g1, g2, hl.mid, h6, hl.expE]
  exact expE_iff.2 ⟨fun x hx => h9 x (hsub x hx), hon h10⟩
 have gf : fore m' = fore m := by
  unfold fore
  rw [hs, g9, h5', hl.elm, he, like_start hl hst]
 have gc : codE m' m'.codes [] (fore m') = codE m m.codes [] (fore m) := by rw [hl.codE, hl.codes, gf]
 unfold vchk
 simp only [gc, like_dat hl, hd]
theorem like_fpar (hl : Like m m') : fpar m' = fpar m := by funext i; unfold fpar; rw [hl.ft]
theorem like_codsP (hl : Like m m') (H : List Nat) (k : Nat) : codsP m' H k = codsP m H k := by
 unfold codsP codS
 rw [hl.codes, like_fpar hl, hl.fk]
theorem size_exps {H : List Nat} (h : sizeS m H = true) (hl : Like m m') (hsub : ∀ x ∈ m'.exps, x ∈ m.exps) (hlen : m'.exps.length ≤ m.exps.length) (he : m'.elems = m.elems) (hd : m'.datas = m.datas) : sizeS m' H = true := by
 unfold sizeS listS at *
 rw [like_codsP hl, hl.types, hl.imps, hl.funcs, hl.gs, hl.bs, hl.ms, hl.codes, he, hd]
 simp only [Bool.and_eq_true, decide_eq_true_eq, List.all_eq_true] at *
 obtain ⟨⟨⟨a1, a2, a3, a4, a5, a6, a7⟩, b1, b2, b3, b4⟩, c1⟩ := h
 exact ⟨⟨⟨a1, a2, a3, a4, Nat.le_trans hlen a5, a6, a7⟩, b1, b2, fun x hx => b3 x (hsub x hx), b4⟩, c1⟩
theorem expR_none : ∀ {l : List Exp}, (∀ x ∈ l, nmL x.nm ≠ mainL) → expR m l false = false
 | [], _ => rfl
 | x :: r, h => by
  rw [expR_cons]
  have hx := h x (.head _)
  have hr : expR m r false = false := expR_none (fun y hy => h y (.tail _ hy))
  rw [show decide (nmL x.nm = mainL) = false from decide_eq_false hx]
  split
  ·split
   ·exact hr
   ·rfl
  ·exact hr
/-- Without its main. -/
theorem rchk_less (h : rchk m = 0) (hl : Like m m') (hx : m'.exps = m.exps.filter (fun x => !decide (nmL x.nm = mainL))) (he : m'.elems = m.elems) (hs : m'.hs = m.hs) (hst : m'.st = m.st) (hd : m'.datas = m.datas) : rchk m' = 121 := by
 obtain ⟨h1, h2, h3, _⟩ := rchk_zero h
 have hsub : ∀ x ∈ m'.exps, x ∈ m.exps := fun x hx' => by rw [hx] at hx'; exact (List.mem_filter.1 hx').1
 have hv := vchk_exps h1 hl hsub (fun ho => by rw [hx]; exact once_filter _ ho) he hs hst hd
 have hz := size_exps h2 hl hsub (by rw [hx]; exact List.length_filter_le _ _) he hd
 have hi : m'.imps.all (impO m') = true := by
  rw [hl.imps]
  have : impO m' = impO m := by funext x; unfold impO tsig; rw [hl.types]
  rw [this]
  exact h3
 have hex : expR m' m'.exps false = false := expR_none (fun x hx' => by
  rw [hx] at hx'
  simpa using (List.mem_filter.1 hx').2)
 unfold rchk
 rw [hv, if_neg (fun c => c h1), if_neg (by rw [hz]; decide), if_neg (by rw [hi]; decide), if_pos hex]
end
section
variable {m m' : Mod} {X : Imp}
/-- One import more, of a kind that is no function's. -/
structure More (m m' : Mod) (X : Imp) : Prop where
 types : m'.types = m.types
 imps : m'.imps = m.imps ++ [X]
 funcs : m'.funcs = m.funcs
 tabs : m'.tabs = m.tabs
 mems : m'.mems = m.mems
 globs : m'.globs = m.globs
 codes : m'.codes = m.codes
 exps : m'.exps = m.exps
 elems : m'.elems = m.elems
 hs : m'.hs = m.hs
 st : m'.st = m.st
 datas : m'.datas = m.datas
 kind : X.kind = 3
 ty : intB X.gt.t = true
theorem More.fk (h : More m m' X) {k : UInt8} (hk : k ≠ 3) : Gr.fk m' k = Gr.fk m k := by
 unfold Gr.fk
 rw [h.imps, List.filter_append, List.filter_cons_of_neg (by rw [h.kind]; simpa using fun e => hk e.symm), List.filter_nil, List.append_nil]
theorem More.fimps (h : More m m' X) : Gr.fimps m' = Gr.fimps m := by
 unfold Gr.fimps
 rw [h.imps, List.filter_append, List.filter_cons_of_neg (by rw [h.kind]; decide), List.filter_nil, List.append_nil]
theorem More.ft (h : More m m' X) : ftype m' = ftype m := by
 funext i
 unfold ftype ftyps
 rw [h.fimps, h.funcs, h.types]
theorem More.bs (h : More m m' X) : bsOf m' = bsOf m := by unfold bsOf; rw [h.fk (by decide), h.tabs]
theorem More.ms (h : More m m' X) : msOf m' = msOf m := by unfold msOf; rw [h.fk (by decide), h.mems]
theorem More.cnt (h : More m m' X) : Gr.cnt m' = Gr.cnt m := by unfold Gr.cnt; rw [h.fimps, h.funcs]
theorem More.gs (h : More m m' X) (hz : gsOf m = []) : gsOf m' = [X.gt] := by
 unfold gsOf at *
 have h1 := List.append_eq_nil_iff.1 hz
 unfold Gr.fk at *
 rw [h.globs, h1.2, h.imps, List.filter_append, List.map_append, h1.1, List.filter_cons_of_pos (by rw [h.kind]; decide)]
 rfl
theorem More.there (h : More m m' X) (hz : gsOf m = []) {k : UInt8} {i : Nat} (ht : thereB m k i = true) : thereB m' k i = true := by
 unfold thereB cntK at *
 rw [h.cnt, h.bs, h.ms]
 simp only [decide_eq_true_eq] at *
 split at ht
 ·rename_i h0; rw [if_pos h0]; exact ht
 ·rename_i h0
  rw [if_neg h0]
  split at ht
  ·rename_i h1; rw [if_pos h1]; exact ht
  ·rename_i h1
   rw [if_neg h1]
   split at ht
   ·rename_i h2; rw [if_pos h2]; exact ht
   ·rename_i h2
    rw [hz] at ht
    split at ht
    ·exact absurd ht (by simp)
    ·exact absurd ht (by omega)
theorem More.cons (_ : More m m' X) (hz : gsOf m = []) {l : List Ins} {t : UInt8} {e : Nat} (hc : constE m l t e = 0) : constE m' l t e = 0 := by
 unfold constE at *
 split at hc
 ·rename_i x
  split at hc
  ·exact absurd hc ‹_›
  ·rename_i h0
   simp only [h0, if_false]
   split at hc
   ·rename_i h1; simp only [h1, if_true]; exact hc
   ·rename_i h1
    simp only [h1, if_false]
    split at hc
    ·rename_i h2; simp only [h2, if_true]; exact hc
    ·rename_i h2
     simp only [h2, if_false]
     split at hc
     ·rename_i h3
      have hf : (Gr.fk m 3).length = 0 := by
       have h1 := (List.append_eq_nil_iff.1 hz).1
       rw [← List.length_map (f := (·.gt)), h1]
       rfl
      have hc1 := ((mst_zero (by decide)).1 hc).1
      have hc2 := ((mst_zero (by decide)).1 hc1).1
      have hc3 := ((mst_zero (by decide)).1 hc2).2
      rw [hf] at hc3
      simp at hc3
     ·exact absurd hc (by decide)
 ·exact hc
end
section
variable {cx cx' : Cx}
/-- The same but for globals, of which there was none. -/
structure CxMore (cx cx' : Cx) : Prop where
 fn : cx'.fn = cx.fn
 c : cx'.c = cx.c
 func : cx'.s.func = cx.s.func
 type : cx'.s.type = cx.s.type
 tab : cx'.s.tab = cx.s.tab
 mem : cx'.s.mem = cx.s.mem
 none : ∀ a, cx.s.glob a = none
theorem step_more (h : CxMore cx cx') (s : Ty.St) (x : Ins) : Ty.step cx' s x = Ty.step cx s x ∨ Ty.step cx s x = .error 80 := by
 have hG : stepGlobal cx s x = .error 80 := by unfold stepGlobal; rw [h.none]
 have e1 : stepLeave cx' s x = stepLeave cx s x := by unfold stepLeave; rw [h.fn]
 have e2 : stepCall cx' s x = stepCall cx s x := by unfold stepCall; rw [h.func]
 have e3 : stepInd cx' s x = stepInd cx s x := by unfold stepInd; rw [h.type, h.tab]
 have e4 : stepLocal cx' s x = stepLocal cx s x := by unfold stepLocal; rw [h.fn, h.c]
 have e5 : stepPlain cx' s x = stepPlain cx s x := by unfold stepPlain; rw [h.mem]
 by_cases c : x.op = 35 ∨ x.op = 36
 ·right
  unfold Ty.step
  rw [hG]
  rcases c with c | c <;> rw [c] <;> rfl
 ·left
  unfold Ty.step
  rw [e1, e2, e3, e4, e5]
  simp only [if_neg c]
theorem run_more (h : CxMore cx cx') : ∀ (l : List Ins) (s : Ty.St), Ty.run cx' s l = Ty.run cx s l ∨ Ty.run cx s l = .error 80
 | [], s => .inl rfl
 | x :: r, s => by
  rw [Ty.run, Ty.run]
  rcases step_more h s x with e | e
  ·rw [e]
   cases Ty.step cx s x with
   | error e => exact .inl rfl
   | ok s' => exact run_more h r s'
  ·rw [e]
   exact .inr rfl
theorem chk_more (h : CxMore cx cx') (h0 : (chk cx).2 = 0) : chk cx' = chk cx := by
 unfold chk at *
 rw [h.c, h.fn]
 split
 ·rfl
 ·rename_i h1
  rw [if_neg h1] at h0
  split
  ·rfl
  ·rename_i h2
   rw [if_neg h2] at h0
   rcases run_more h cx.c.body ⟨stk0 cx.fn.r, []⟩ with e | e
   ·rw [e]
   ·rw [e] at h0
    exact absurd h0 (by decide)
end
section
variable {m m' : Mod} {X : Imp}
theorem More.cod (h : More m m' X) (hz : gsOf m = []) {i : Nat} {c : Cod} (h0 : (codC m i c).2 = 0) : codC m' i c = codC m i c := by
 unfold codC at *
 have hfn : fnA m' = fnA m := by funext i; unfold fnA; rw [h.ft]
 rw [h.fk (by decide), hfn]
 refine chk_more ⟨rfl, rfl, ?_, ?_, ?_, ?_, fun a => ?_⟩ h0
 ·show (spX m').func = (spX m).func
  unfold spX spcOf
  rw [h.ft]
 ·show (spX m').type = (spX m).type
  unfold spX spcOf
  rw [h.types]
 ·show (spX m').tab = (spX m).tab
  unfold spX spcOf
  rw [h.bs]
 ·show (spX m').mem = (spX m).mem
  unfold spX spcOf
  rw [h.ms]
 ·show (spX m).glob a = none
  unfold spX spcOf
  rw [hz]
  rfl
theorem More.codE (h : More m m' X) (hz : gsOf m = []) : ∀ (l : List Cod) (H : List Nat) (e : Nat), (Va.codE m l H e).2 = 0 → Va.codE m' l H e = Va.codE m l H e
 | [], _, _, _ => rfl
 | x :: r, H, e, h0 => by
  have he : e = 0 := codE_back h0
  subst he
  rw [Va.codE, if_pos rfl] at h0
  have h1 := codE_back h0
  have h2 : (codC m H.length x).2 = 0 := by
   by_cases hc : (codC m H.length x).2 = 0
   ·exact hc
   ·rw [show ((codC m H.length x).2 == 0) = false from by simpa using hc] at h1
    unfold mst at h1
    rw [if_pos ⟨rfl, rfl⟩] at h1
    exact h1
  rw [Va.codE, if_pos rfl, Va.codE, if_pos rfl, h.cod hz h2]
  exact More.codE h hz r _ _ h0
end
section
variable {m m' : Mod} {X : Imp}
theorem More.dat (h : More m m' X) (hz : gsOf m = []) {x : Dat} (h0 : datE m x 0 = 0) : datE m' x 0 = 0 := by
 unfold datE at *
 have h1 := ((mst_zero (by decide)).1 (constE_back h0)).2
 rw [h1, mst_true] at h0
 rw [h.there hz h1, mst_true]
 exact h.cons hz h0
theorem More.elm (h : More m m' X) (hz : gsOf m = []) {x : Elm} (h0 : elmE m x 0 = 0) : elmE m' x 0 = 0 := by
 unfold elmE at *
 have h1 := eachE_back h0
 have h2 := ((mst_zero (by decide)).1 (constE_back h1)).2
 rw [h2, mst_true] at h0 h1
 rw [h.there hz h2, mst_true, h.cons hz h1]
 rw [h1] at h0
 have h3 := ((eachE_zero (f := fun f e => mst e (thereB m 0 f) 80) (fun x e => mst_back (by decide))).1 h0).2
 refine (eachE_zero (f := fun f e => mst e (thereB m' 0 f) 80) (fun x e => mst_back (by decide))).2 ⟨rfl, fun f hf => ?_⟩
 have h4 := ((mst_zero (by decide)).1 (h3 f hf)).2
 rw [h.there hz h4, mst_true]
/-- One import more, of a global: valid. -/
theorem More.vchk (h : More m m' X) (hz : gsOf m = []) (h0 : (Va.vchk m).2 = 0) : Va.vchk m' = Va.vchk m := by
 obtain ⟨h1, _⟩ := vchk_zero h0
 have h3 : (Va.codE m m.codes [] (fore m)).2 = 0 := eachE_back h1
 have h4 : fore m = 0 := codE_back h3
 have h5 : fore9 m = 0 := start_back (eachE_back h4)
 have h5' := h5
 rw [fore9_eq] at h5
 have h6 := expE_back h5
 have h7 := mid_back h6
 have h6' := h6
 rw [h7] at h6
 have h8 := eachE_back h7
 rw [h6'] at h5
 obtain ⟨h9, h10⟩ := expE_iff.1 h5
 have hkb : ∀ (x : Imp) (e : Nat), mst e (decide (x.kind ≤ 3)) 2 = 0 → e = 0 := fun x e => mst_back (by decide)
 have k1 := (eachE_zero (f := fun (x : Imp) e => mst e (decide (x.kind ≤ 3)) 2) hkb).1 h8
 have g1 : eachE (fun (x : Imp) e => mst e (decide (x.kind ≤ 3)) 2) m'.imps (mst 0 (m'.codes.length == m'.funcs.length) 2) = 0 := by
  rw [h.imps, h.codes, h.funcs]
  refine (eachE_zero (f := fun (x : Imp) e => mst e (decide (x.kind ≤ 3)) 2) hkb).2 ⟨k1.1, fun x hx => ?_⟩
  rcases List.mem_append.1 hx with hx | hx
  ·exact k1.2 x hx
  ·obtain rfl := List.mem_singleton.1 hx
   rw [h.kind]
   rfl
 have g2 : eachE (fun (x : Exp) e => mst e (decide (x.kind ≤ 3)) 2) m'.exps 0 = 0 := by rw [h.exps]; rw [h8] at h7; exact h7
 have hgl : m.globs = [] := by
  have h1 := (List.append_eq_nil_iff.1 hz).2
  exact List.map_eq_nil_iff.1 h1
 have gm : mid m' 0 = 0 := by
  unfold mid at *
  rw [h.globs, hgl]
  rw [hgl] at h6
  have i1 : storesE m (eachE (fun t e => mst e (m.types[t]?).isSome 80) m.funcs (eachE (impE m) m.imps (eachE typE m.types 0))) = 0 := h6
  have i2 := storesE_back i1
  have i3 := eachE_back i2
  have i4 := eachE_back i3
  show storesE m' (eachE (fun t e => mst e (m'.types[t]?).isSome 80) m'.funcs (eachE (impE m') m'.imps (eachE typE m'.types 0))) = 0
  have e1 : impE m' = impE m := by funext x e; unfold impE; rw [h.types]
  have e2 : storesE m' = storesE m := by funext e; unfold storesE; rw [h.bs, h.ms]
  rw [e1, e2, h.types, h.funcs, h.imps, i4]
  rw [i4] at i3 i2 i1
  have e3 : eachE (impE m) (m.imps ++ [X]) 0 = 0 := by
   refine (eachE_zero (f := impE m) (fun x e => impE_back)).2 ⟨rfl, fun x hx => ?_⟩
   rcases List.mem_append.1 hx with hx | hx
   ·exact ((eachE_zero (f := impE m) (fun x e => impE_back)).1 i3).2 x hx
   ·obtain rfl := List.mem_singleton.1 hx
    unfold impE
    rw [h.kind, if_neg (by decide), if_pos rfl, h.ty, mst_true]
  rw [e3]
  rw [i3] at i2 i1
  exact i1
 have g9 : fore9 m' = 0 := by
  rw [fore9_eq, g1, g2, gm, h.exps]
  exact expE_iff.2 ⟨fun x hx => h.there hz (h9 x hx), h10⟩
 have hst : startB m' = startB m := by unfold startB; rw [h.ft, h.st]
 have gf : fore m' = 0 := by
  unfold fore at *
  rw [g9, h.hs, hst, h.elems]
  rw [h5'] at h4
  have j1 := eachE_back h4
  rw [j1] at h4 ⊢
  have j2 := ((eachE_zero (f := elmE m) (fun x e => elmE_back)).1 h4).2
  exact (eachE_zero (f := elmE m') (fun x e => elmE_back)).2 ⟨rfl, fun x hx => h.elm hz (j2 x hx)⟩
 rw [h4] at h3
 have gc : Va.codE m' m'.codes [] (fore m') = Va.codE m m.codes [] (fore m) := by
  rw [gf, h4, h.codes]
  exact h.codE hz _ _ _ h3
 have gd : eachE (datE m') m.datas (Va.codE m m.codes [] (fore m)).2 = eachE (datE m) m.datas (Va.codE m m.codes [] (fore m)).2 := by
  rw [h1]
  have h3' : (Va.codE m m.codes [] (fore m)).2 = 0 := by rw [h4]; exact h3
  rw [h3'] at h1 ⊢
  have j2 := ((eachE_zero (f := datE m) (fun x e => datE_back)).1 h1).2
  exact (eachE_zero (f := datE m') (fun x e => datE_back)).2 ⟨rfl, fun x hx => h.dat hz (j2 x hx)⟩
 unfold Va.vchk
 simp only [gc, h.datas, gd]
theorem More.size (h : More m m' X) (hz : gsOf m = []) {H : List Nat} (h0 : sizeS m H = true) (hn : m.imps.length < 64) (hx : X.mod.size ≤ 64) (hy : X.nm.size ≤ 64) : sizeS m' H = true := by
 have hc : codsP m' H m.codes.length = codsP m H m.codes.length := by
  have hf : fpar m' = fpar m := by funext i; unfold fpar; rw [h.ft]
  unfold codsP codS
  rw [h.codes, hf, h.fk (by decide)]
 unfold sizeS listS at *
 rw [h.codes, hc, h.types, h.imps, h.funcs, h.gs hz, h.bs, h.ms, h.exps, h.elems, h.datas]
 simp only [Bool.and_eq_true, decide_eq_true_eq, List.all_eq_true, List.length_append, List.length_singleton] at *
 obtain ⟨⟨⟨a1, a2, a3, a4, a5, a6, a7⟩, b1, b2, b3⟩, c1⟩ := h0
 refine ⟨⟨⟨a1, hn, a3, by omega, a5, a6, a7⟩, b1, fun x hx' => ?_, b3⟩, c1⟩
 rcases List.mem_append.1 hx' with hx' | hx'
 ·exact b2 x hx'
 ·obtain rfl := List.mem_singleton.1 hx'
  exact Nat.max_le.2 ⟨hx, hy⟩
/-- With an import that is not offered. -/
theorem More.rchk (h : More m m' X) (h0 : Ru.rchk m = 0) (hg : m.globs = []) (hn : m.imps.length < 64) (hx : X.mod.size ≤ 64) (hy : X.nm.size ≤ 64) : Ru.rchk m' = 120 := by
 obtain ⟨h1, h2, h3, _⟩ := rchk_zero h0
 have hz : gsOf m = [] := by
  unfold gsOf
  rw [hg, List.map_nil, List.append_nil]
  have : Gr.fk m 3 = [] := by
   unfold Gr.fk
   rw [List.filter_eq_nil_iff]
   intro x hx'
   have h4 := List.all_eq_true.1 h3 x hx'
   unfold impO at h4
   have h5 := (Bool.and_eq_true _ _ ▸ h4 : _ ∧ _).1
   rw [of_decide_eq_true h5]
   decide
  rw [this]
  rfl
 have hv := h.vchk hz h1
 have hs := h.size hz h2 hn hx hy
 have hi : m'.imps.all (impO m') = false := by
  rw [h.imps, List.all_append]
  have : impO m' X = false := by
   unfold impO
   rw [h.kind]
   rfl
  simp [this]
 unfold Ru.rchk
 rw [hv, if_neg (fun c => c h1), if_neg (by rw [hs]; decide), if_pos hi]
end
end Go.Proofs.YtmgjcaikldeioaaGreat.Ru
/- gabellelaw12.RuleOnly answers true. -/
namespace Go.Proofs.YtmgjcaikldeioaaGreat.Ru
open Go Go.RowKit Go.Lib Kt Fm Gr Ty Va

theorem exec_conv {op : Oper} {act : Act} {w : World} {v : Value} {b : List UInt8} (h : Sl w 1 u8c v b) (p : Operand) (ho : op.op = .convert 49 9 p) (hx : act.eval p = v) : (execOp act.eval op).run Tryz.prog w = .ok (.value (.string (bst b))) w := by
 have hl := conv_of h
 unfold execOp
 simp only [ho, hx, hl, Sem.run_bind, Sem.run_pure, Result.andThen_ok]
theorem und_im : Tryz.prog.underlying 23 = some (.slice 88) := by kernel_rfl
theorem inf_im : (Tryz.prog.info? 88).map (fun i => (i.zero.map (·.cells.size), i.size, i.bytes)) = some (some 8, 8, 64) := by kernel_rfl
theorem row_im0 {w : World} {base g : Nat} (h : Lies w g 88 #[]) (hb : base ≤ g) : w.ownsRow base 88 8 (.slice (some ⟨g, 0, none⟩) 0 0) 0 [] :=
 ⟨rfl, .inr ⟨g, 0, #[], rfl, hb, h, Nat.le_refl _, Nat.zero_le _, rfl, rfl⟩⟩
theorem tri_of {L : List Hst} (h : L.map Hst.tri = hostsT) {k : Nat} {x : Hst} (hx : L[k]? = some x) : hostsT.getD k ([], [], []) = x.tri := by
 rw [← h, List.getD_eq_getElem?_getD, List.getElem?_map, hx]
 rfl
theorem filter_take {α : Type} {L : List α} {k : Nat} {x : α} (p : α → Bool) (h : L[k]? = some x) : (L.take (k + 1)).filter p = (L.take k).filter p ++ (if p x = true then [x] else []) := by
 rw [List.take_add_one, h, List.filter_append, Option.toList_some]
 by_cases hp : p x = true
 ·rw [if_pos hp, List.filter_cons_of_pos hp, List.filter_nil]
 ·rw [if_neg hp, List.filter_cons_of_neg hp, List.filter_nil]
theorem row_twoI {α : Type} {en : α → List Value} {w : World} {base : Nat} {t : TypeId} {sz : Nat} {v : Value} {A B : List α} (h : w.ownsRow base t sz v (0 + A.length + B.length) ([] ++ A.flatMap en ++ B.flatMap en)) : w.ownsRow base t sz v (A ++ B).length ((A ++ B).flatMap en) := by
 rw [List.length_append, List.flatMap_append]
 rw [Nat.zero_add, List.nil_append] at h
 exact h
/-- What an import that is offered has. -/
theorem impO_parts {m : Mod} {x : Imp} (h : impO m x = true) : x.kind = 0 ∧ nmL x.mod = envL ∧ ∃ k, hfind (nmL x.nm) = some k ∧ tsig m x.ty = (hostsT.getD k ([], [], [])).2 := by
 unfold impO at h
 simp only [Bool.and_eq_true, decide_eq_true_eq] at h
 obtain ⟨h1, h2, h3, h4⟩ := h
 obtain ⟨k, hk⟩ := Option.isSome_iff_exists.1 h3
 rw [hk] at h4
 exact ⟨h1, h2, k, hk, h4⟩
theorem imp_ty {m : Mod} (h : (vchk m).2 = 0) {x : Imp} (hx : x ∈ m.imps) (hk : x.kind = 0) : ∃ t, m.types[x.ty]? = some t := by
 obtain ⟨h1, _⟩ := vchk_zero h
 have h4 : fore m = 0 := codE_back (eachE_back h1)
 have h5 : fore9 m = 0 := start_back (eachE_back h4)
 rw [fore9_eq] at h5
 have h6 := expE_back h5
 have i3 := eachE_back (storesE_back (eachE_back h6))
 have i4 := ((eachE_zero (f := impE m) (fun x e => impE_back)).1 i3).2 x hx
 unfold impE at i4
 rw [if_pos hk] at i4
 exact Option.isSome_iff_exists.1 ((mst_zero (by decide)).1 i4).2
set_option maxRecDepth 100000 in
set_option maxHeartbeats 16000000 in
theorem law_only {W : World} {m : Mod} (hm : ModOk W m) (b : ByteArray) (hb : b.size ≤ 1048576) :
  Calls Tryz.prog 7 #[.agg m.cs.toArray, .string b] W fun e w' => e = .returned (.bool true) ∧ Below W.heap.size W w' := by
 have HM := Lib.hid hm
 clear hm
 go_enter Tryz.func7, Tryz.ntmps7
 go_wp2_with (refine wl_box m.cs _ rfl rfl rfl (fun w1 hb1 hl1 => ?_); have HB1 := Lib.hid hb1; have HL1 := Lib.hid hl1; obtain ⟨Bm, hBm⟩ : ∃ Bm, Bm = W.heap.size := ⟨_, rfl⟩; have HBM := Lib.hid hBm; rw [← hBm] at HL1 ⊢; clear hBm hb1 hl1; (try simp only [Act.put, sA, sB, sC]))
 refine (known_any w1).mono ?_
 rintro en w2 ⟨rfl, hb2⟩
 have HB2 := Lib.hid (bt HB1.out hb2)
 have HL2 := Lib.hid (HL1.out.below hb2 HL1.out.lt)
 clear hb2
 go_wp2_with (refine wpList_load_mid rfl 33 _ rfl Bm 0 rfl m.cs _ (lies_range HL2.out) Tryz.underlying33 rfl sizeMod ?_; (try simp only [Act.put, sA, sB, sC]))
 refine (great7_any (HM.out.later HB2.out)).mono ?_
 rintro en w3 ⟨⟨bg, rfl⟩, hb3⟩
 have HB3 := Lib.hid (bt HB2.out hb3)
 have HL3 := Lib.hid (HL2.out.below hb3 HL2.out.lt)
 clear hb3
 cases bg with
 | true =>
  go_wp2_with fail
  go_ret
  exact ⟨rfl, HB3.out⟩
 | false =>
 go_wp2_with (refine wl_loadw (lies_range HL3.out) _ rfl rfl rfl Tryz.underlying33 rfl sizeMod ?_; (try simp only [Act.put, sA, sB, sC]))
 refine (rcheck_any (HM.out.later HB3.out)).mono ?_
 rintro en w4 ⟨rfl, hb4⟩
 have HB4 := Lib.hid (bt HB3.out hb4)
 have HL4 := Lib.hid (HL3.out.below hb4 HL3.out.lt)
 clear hb4
 have HRR := Lib.hid (show rchk m = 0 → rchk m = 0 from id)
 obtain ⟨rc, hrc⟩ : ∃ rc, rc = rchk m := ⟨_, rfl⟩
 rw [← hrc]
 by_cases h0 : rc = 0
 rotate_left
 ·have h01 : ((rc : Int) != 0) = true := by simpa using h0
  have h02 : ¬ (rc : Int) = 0 := by omega
  clear hrc h0
  go_wp2_with fail
  go_ret
  exact ⟨rfl, HB4.out⟩
 have HRC := Lib.hid (show rchk m = 0 from by rw [← hrc]; exact h0)
 subst h0
 clear hrc HRR
 obtain ⟨hv0, _, hi0, _⟩ := rchk_zero HRC.out
 have HV0 := Lib.hid hv0
 have HI0 := Lib.hid (List.all_eq_true.1 hi0)
 clear hi0
 go_wp2_with (refine wpList_load_mid rfl 33 _ rfl Bm 0 rfl m.cs _ (lies_range HL4.out) Tryz.underlying33 rfl sizeMod ?_; (try simp only [Act.put, sA, sB, sC]))
 refine (vcheck_any (HM.out.later HB4.out)).mono ?_
 rintro en w5 ⟨v, rfl, hsl, hb5⟩
 have HB5 := Lib.hid (bt HB4.out hb5)
 have HL5 := Lib.hid (HL4.out.below hb5 HL4.out.lt)
 obtain ⟨s5, c5, rfl, _⟩ := hsl.form
 rw [hv0]
 clear hb5 hsl hv0
 go_wp2_with fail
 refine (hosts_any w5).mono ?_
 rintro en w6 ⟨v, L, rfl, hs, ht, ho, hb6⟩
 have HB6 := Lib.hid (bt HB5.out hb6)
 have HL6 := Lib.hid (HL5.out.below hb6 HL5.out.lt)
 have hlen : L.length = 16 := by rw [← List.length_map (f := Hst.tri), ht, hostsT_len]
 obtain ⟨s, c, rfl, hf⟩ := hs.form
 obtain ⟨g, off, rfl, _⟩ := hf (by intro e; rw [e] at hlen; cases hlen)
 rw [hlen]
 have HS := Lib.hid hs
 have HT := Lib.hid ht
 have HO := Lib.hid ho
 clear hs ht ho hb6 hf
 obtain ⟨sI, cI, hI, hnI⟩ := HM.out.2.1.1.form
 have HVI := Lib.hid hI
 have HNI := Lib.hid hnI
 clear hI hnI
 obtain ⟨sT, cT, hT, hnT⟩ := HM.out.1.1.form
 have HVT := Lib.hid hT
 have HNT := Lib.hid hnT
 clear hT hnT
 obtain ⟨sX, cX, hX, hnX⟩ := HM.out.2.2.2.2.2.2.1.1.form
 have HVX := Lib.hid hX
 have HNX := Lib.hid hnX
 clear hX hnX
 obtain ⟨sG, cG, hG, hnG⟩ := HM.out.2.2.2.2.2.1.1.form
 have HVG := Lib.hid hG
 clear hG hnG
 have x1 : w6.cell? ⟨Bm, 1, none⟩ = some (.slice sI m.imps.length cI) := (HL6.out.cell 1).trans (congrArg some HVI.out)
 go_upto_block 0 with fail
 go_cut [] from 36 to 103 (fun wx => Below w6.heap.size w6 wx)
 case first =>
  go_wp2_with fail
  go_loopw [36] (fun iv wr => ∃ k : Nat, k ≤ m.imps.length ∧ iv = .int .i64 k ∧ Below w6.heap.size w6 wr) (fun iv _ => m.imps.length - (RowKit.intOf iv).toNat)
  case atStart => exact ⟨0, Nat.zero_le _, rfl, Below.refl _ _⟩
  case round =>
   obtain ⟨k, hk, rfl, hw⟩ := hrel
   have HW := Lib.hid hw
   clear hw
   have hBnd : m.imps.length ≤ 1048576 := HM.out.2.1.2.2
   by_cases hlt : k < m.imps.length
   ·obtain ⟨x, hx⟩ : ∃ x, m.imps[k]? = some x := ⟨_, List.getElem?_eq_getElem hlt⟩
    have hxm := List.mem_of_getElem? hx
    obtain ⟨hkd, hmd, h, hh, htg⟩ := impO_parts (HI0.out x hxm)
    obtain ⟨ty, hty⟩ := imp_ty HV0.out hxm hkd
    have htl : x.ty < m.types.length := (List.getElem?_eq_some_iff.1 hty).1
    have hty0 : x.ty < 4294967296 := (HM.out.2.1.2.1 x hxm).1
    have HXX := Lib.hid hx
    clear hx
    obtain ⟨gX, oX, hg, _⟩ := HNI.out (by intro e; rw [e] at hlt; simp at hlt)
    subst hg
    have HSL := Lib.hid (show Sl W 8 Imp.cs (.slice (some ⟨gX, oX, none⟩) m.imps.length cI) m.imps from by rw [← HVI.out]; exact HM.out.2.1.1)
    obtain ⟨gT, oT, hg, _⟩ := HNT.out (by intro e; rw [e] at htl; simp at htl)
    subst hg
    have HST := Lib.hid (show Sl W 2 Ft.cs (.slice (some ⟨gT, oT, none⟩) m.types.length cT) m.types from by rw [← HVT.out]; exact HM.out.1.1)
    have hh16 : h < 16 := hfind_lt hh
    have hh2 : (h : Int) < 16 := by omega
    obtain ⟨u, hu⟩ : ∃ u, L[h]? = some u := ⟨_, List.getElem?_eq_getElem (by omega)⟩
    have hsg : (ty.p, ty.r) = (u.ft.p, u.ft.r) := by
     have h1 : tsig m x.ty = (ty.p, ty.r) := by unfold tsig; rw [hty]
     rw [← h1, htg, tri_of HT.out hu]
     rfl
    have HP := Lib.hid (Prod.mk.inj hsg).1
    have HR := Lib.hid (Prod.mk.inj hsg).2
    have HTO := Lib.hid (HM.out.1.2.1 ty (List.mem_of_getElem? hty))
    have HUO := Lib.hid (HO.out u (List.mem_of_getElem? hu))
    have HTY := Lib.hid hty
    have HU := Lib.hid hu
    have HH := Lib.hid hh
    have HKD := Lib.hid hkd
    have hen := nm_eq x.mod envL
    rw [decide_eq_true hmd, show envL = [101, 110, 118] from rfl] at hen
    clear hty hu hh hkd hmd htg hsg hxm
    go_wp2_with (first | (refine wpList_load_mid rfl 88 _ rfl gX (oX + k * 8) rfl x.cs _ (Gr.sl_range (HSL.out.later (bt HB6.out HW.out)) HXX.out) Tryz.underlying88 rfl sizeImp ?_; (try simp only [Act.put, sA, sB, sC])) | (refine wl_put (Lies.new _ _ _) x.cs _ _ rfl rfl rfl rfl rfl sizeImp (oneImp x) (fun w8 hl8 hf8 => ?_); have hb8 : Below wr.heap.size wr w8 := below_put ((Below.refl wr.heap.size wr).alloc (Nat.le_refl _) _) hf8 (Nat.le_refl _); have HW8 := Lib.hid (bt HW.out hb8); obtain ⟨Bx, hBx⟩ : ∃ Bx, Bx = wr.heap.size := ⟨_, rfl⟩; rw [← hBx] at hl8 ⊢; have HX8 := Lib.hid hl8; have z1 : w8.cell? ⟨Bx, 1, none⟩ = some (.string x.nm) := hl8.cell 1; clear hl8 hf8 hb8 hBx; (try simp only [Act.put])))
    refine (find_any x.nm w8).mono ?_
    rintro en w9 ⟨rfl, hb9⟩
    have HW9 := Lib.hid (bt HW8.out hb9)
    have HX9 := Lib.hid (HX8.out.below hb9 HX8.out.lt)
    clear hb9 z1
    rw [HH.out]
    go_upto_region 13 with fail
    have z0 : w9.cell? ⟨Bx, 0, none⟩ = some (.string x.mod) := HX9.out.cell 0
    have z2 : w9.cell? ⟨Bx, 2, none⟩ = some (.int .u8 0) := (HX9.out.cell 2).trans (by show some (Value.int .u8 (x.kind.toNat : Int)) = _; rw [HKD.out]; rfl)
    have z3 : w9.cell? ⟨Bx, 3, none⟩ = some (.int .u32 x.ty) := HX9.out.cell 3
    have m0 : w9.cell? ⟨Bm, 0, none⟩ = some (.slice (some ⟨gT, oT, none⟩) m.types.length cT) := (keepc HW9.out (HL6.out.cell 0)).trans (congrArg some HVT.out)
    have t0 : w9.cell? ⟨gT, oT + x.ty * 2, none⟩ = some ty.pv := (HST.out.later (bt HB6.out HW9.out)).cell HTY.out (j := 0) rfl
    have t1 : w9.cell? ⟨gT, oT + x.ty * 2 + 1, none⟩ = some ty.rv := (HST.out.later (bt HB6.out HW9.out)).cell HTY.out (j := 1) rfl
    have y1 : w9.cell? ⟨g, off + h * 3 + 1, none⟩ = some u.ft.pv := (HS.out.later HW9.out).cell HU.out (j := 1) rfl
    have y2 : w9.cell? ⟨g, off + h * 3 + 2, none⟩ = some u.ft.rv := (HS.out.later HW9.out).cell HU.out (j := 2) rfl
    have htl2 : (x.ty : Int) < (m.types.length : Int) := by omega
    have htl3 : ¬ (m.types.length : Int) ≤ (x.ty : Int) := by omega
    have SP1 := Lib.hid (HTO.out.1.1.later (bt HB6.out HW9.out))
    have SR1 := Lib.hid (HTO.out.2.1.later (bt HB6.out HW9.out))
    have SP2 := Lib.hid (show Sl w9 1 u8c u.ft.pv ty.p from by rw [HP.out]; exact (WRow.sl (en := u8c) (sz := 1) (fun _ => rfl) HUO.out.1).later HW9.out)
    have SR2 := Lib.hid (show Sl w9 1 u8c u.ft.rv ty.r from by rw [HR.out]; exact (WRow.sl (en := u8c) (sz := 1) (fun _ => rfl) HUO.out.2).later HW9.out)
    refine wp_region_b [(0, true), (1, true), (2, true), (3, true), (4, true), (5, true), (6, true), (7, true), (8, true), (9, true), (10, true), (11, true), (12, true), (13, true), (14, true), (15, true), (16, true), (17, true), (18, true), (19, true), (20, true), (21, true), (22, true), (23, true), (24, true), (25, true), (26, true), (27, true), (28, true), (29, true), (30, true), (31, true), (32, true), (33, true), (34, true), (35, true), (36, true), (37, true), (38, true), (39, true), (40, true), (41, true), (42, true), (43, true), (44, true), (45, true), (46, true), (47, true), (48, true), (49, true), (50, true), (51, true), (52, true), (53, true), (54, true), (55, true), (56, true)] (by kernel_rfl) (by kernel_rfl) (fun _ _ d _ _ h => by cases d <;> exact h) ?_
    intro V0 hbV0
    replace z0 := keepc hbV0 z0
    replace z2 := keepc hbV0 z2
    replace z3 := keepc hbV0 z3
    replace m0 := keepc hbV0 m0
    replace t0 := keepc hbV0 t0
    replace t1 := keepc hbV0 t1
    replace y1 := keepc hbV0 y1
    replace y2 := keepc hbV0 y2
    have hS0 : Below V0.heap.size V0 V0 := Below.refl _ _
    have HV0b := Lib.hid (bt HW9.out hbV0)
    repeat (first | (refine hs_take (v := .string (bst ty.p)) rfl rfl (fun w' hw' => exec_conv (SP1.out.later (bt hbV0 hw')) _ rfl rfl) ?_; (try simp only [Act.put, sA, sB, sC])) | (refine hs_take (v := .string (bst ty.p)) rfl rfl (fun w' hw' => exec_conv (SP2.out.later (bt hbV0 hw')) _ rfl rfl) ?_; (try simp only [Act.put, sA, sB, sC])) | (refine hs_take (v := .string (bst ty.r)) rfl rfl (fun w' hw' => exec_conv (SR1.out.later (bt hbV0 hw')) _ rfl rfl) ?_; (try simp only [Act.put, sA, sB, sC])) | (refine hs_take (v := .string (bst ty.r)) rfl rfl (fun w' hw' => exec_conv (SR2.out.later (bt hbV0 hw')) _ rfl rfl) ?_; (try simp only [Act.put, sA, sB, sC])) | (refine hs_take (v := ?_) rfl rfl (fun w' hw' => ?_) ?_; rotate_left; (focus (have q0 := keepc hw' z0; have q1 := keepc hw' z2; have q2 := keepc hw' z3; have q3 := keepc hw' m0; have q4 := keepc hw' t0; have q5 := keepc hw' t1; have q6 := keepc hw' y1; have q7 := keepc hw' y2; clear hw'; (try simp only [Act.put, sA, sB, sC]); go_simp; (try go_bits); (try (with_reducible rfl)))); (try simp only [Act.put, sA, sB, sC])) | (refine hs_skip rfl rfl ?_; (try simp only [Act.put, sA, sB, sC])))
    refine hs_done ?_
    have HW10 := Lib.hid (bt HW9.out hbV0)
    clear z0 z2 z3 m0 t0 t1 y1 y2 hbV0
    go_wp2_with fail
    go_roundw
    case rel => exact ⟨k + 1, hlt, by go_num, HW10.out⟩
    case measure => simp [RowKit.intOf]; omega
   ·obtain rfl : k = m.imps.length := by omega
    go_wp2_with fail
    go_meet
    exact HW.out
 case rest =>
  have HB7 := Lib.hid (bt HB6.out hcut)
  have HL7 := Lib.hid (HL6.out.below hcut HL6.out.lt)
  obtain ⟨w7, hw7⟩ : ∃ w7, w7 = wc := ⟨_, rfl⟩
  rw [← hw7] at HB7 HL7 ⊢
  clear hw7 hcut
  go_upto_block 2 with (first | (refine wpList_load_mid rfl 33 _ rfl Bm 0 rfl m.cs _ (lies_range HL7.out) Tryz.underlying33 rfl sizeMod ?_; (try simp only [Act.put, sA, sB, sC])) | (refine wl_put (Lies.new _ _ _) m.cs _ _ rfl rfl rfl rfl rfl sizeMod (oneModR HM.out) (fun w10 hlw10 hfw10 => ?_); have hbw10 : Below w7.heap.size w7 w10 := below_put ((Below.refl w7.heap.size w7).alloc (Nat.le_refl _) _) hfw10 (Nat.le_refl _); have HB10 := Lib.hid (bt HB7.out hbw10); have HS10 := Lib.hid hlw10; obtain ⟨Bl, hBw10⟩ : ∃ Bl, Bl = w7.heap.size := ⟨_, rfl⟩; rw [← hBw10] at HS10 ⊢; have HBE := Lib.hid hBw10; have HL10 := Lib.hid (HL7.out.below hbw10 HL7.out.lt); clear hBw10 hlw10 hfw10 hbw10 ; try simp only [Act.put]) | (have HNE := Lib.hid (show ¬ Bm = Bl from fun e => by have := HL7.out.lt; have := HBE.out; omega); have HBL := Lib.hid (show W.heap.size ≤ Bl from by rw [HBE.out]; exact HB7.out.size); refine wl_fld (c0 := m.cs) HS10.out _ _ rfl rfl rfl rfl [.slice none 0 0] ({ m with ev := .slice none 0 0, exps := [] } : Mod).cs rfl (by kernel_rfl) (by intro u hu; obtain rfl := List.mem_singleton.1 hu; exact rfl) (by simp [Mod.cs]) rfl (fun w11 hl11 hf11 => ?_); have HB11 := Lib.hid (HB10.out.trans (hf11.below HB10.out.size (fun k hk => by rw [hk]; exact HBL.out))); have HL11 := Lib.hid (lies_fr HL10.out hf11 HNE.out); have HS11 := Lib.hid hl11; clear hl11 hf11; (try simp only [Act.put]); have x6 : w11.cell? ⟨Bm, 6, none⟩ = some (.slice sX m.exps.length cX) := (HL11.out.cell 6).trans (congrArg some HVX.out)))
  go_cut [] from 109 to 122 (fun wx => ∃ ev, Below W.heap.size W wx ∧ Lies wx Bm 33 m.cs.toArray ∧ Lies wx Bl 33 ({ m with ev := ev, exps := (m.exps.filter (fun x => !decide (nmL x.nm = mainL))) } : Mod).cs.toArray ∧ wx.ownsRow W.heap.size 61 3 ev (m.exps.filter (fun x => !decide (nmL x.nm = mainL))).length ((m.exps.filter (fun x => !decide (nmL x.nm = mainL))).flatMap Exp.cs))
  case first =>
   go_wp2_with fail
   go_loopw [109] (fun iv wr => ∃ (k : Nat) (ev : Value), k ≤ m.exps.length ∧ iv = .int .i64 k ∧ Below W.heap.size W wr ∧ Lies wr Bm 33 m.cs.toArray ∧ Lies wr Bl 33 ({ m with ev := ev, exps := ((m.exps.take k).filter (fun x => !decide (nmL x.nm = mainL))) } : Mod).cs.toArray ∧ wr.ownsRow W.heap.size 61 3 ev ((m.exps.take k).filter (fun x => !decide (nmL x.nm = mainL))).length (((m.exps.take k).filter (fun x => !decide (nmL x.nm = mainL))).flatMap Exp.cs)) (fun iv _ => m.exps.length - (RowKit.intOf iv).toNat)
   case atStart => exact ⟨0, .slice none 0 0, Nat.zero_le _, rfl, HB11.out, HL11.out, HS11.out, World.ownsRow_nil _ _ _ _⟩
   case round =>
    obtain ⟨k, ev, hk, rfl, hb12, hl12, hs12, hr12⟩ := hrel
    have HB12 := Lib.hid hb12
    have HL12 := Lib.hid hl12
    have HS12 := Lib.hid hs12
    have HR12 := Lib.hid hr12
    clear hb12 hl12 hs12 hr12
    have hBnd : m.exps.length ≤ 1048576 := HM.out.2.2.2.2.2.2.1.2.2
    by_cases hlt : k < m.exps.length
    ·obtain ⟨x, hx⟩ : ∃ x, m.exps[k]? = some x := ⟨_, List.getElem?_eq_getElem hlt⟩
     have HXX := Lib.hid hx
     clear hx
     obtain ⟨gX, oX, hg, _⟩ := HNX.out (by intro e; rw [e] at hlt; simp at hlt)
     subst hg
     have HSL := Lib.hid (show Sl W 3 Exp.cs (.slice (some ⟨gX, oX, none⟩) m.exps.length cX) m.exps from by rw [← HVX.out]; exact HM.out.2.2.2.2.2.2.1.1)
     have h1 := nm_eq x.nm mainL
     rw [show mainL = [109, 97, 105, 110] from rfl] at h1
     have HFT := Lib.hid (filter_take (fun x => !decide (nmL x.nm = mainL)) HXX.out)
     by_cases hmn : nmL x.nm = mainL
     ·rw [decide_eq_true (show nmL x.nm = [109, 97, 105, 110] from hmn)] at h1
      rw [decide_eq_true hmn] at HFT
      clear hmn
      go_wp2_with (first | (refine wpList_load_mid rfl 61 _ rfl gX (oX + k * 3) rfl x.cs _ (Gr.sl_range (HSL.out.later HB12.out) HXX.out) Tryz.underlying61 rfl sizeExp ?_; (try simp only [Act.put, sA, sB, sC])) | (refine wl_put (Lies.new _ _ _) x.cs _ _ rfl rfl rfl rfl rfl sizeExp (by simp [Exp.cs, Value.oneCell']) (fun w13 hl13 hf13 => ?_); have hb13 : Below wr.heap.size wr w13 := below_put ((Below.refl wr.heap.size wr).alloc (Nat.le_refl _) _) hf13 (Nat.le_refl _); have HB13 := Lib.hid (bt HB12.out hb13); have HL13 := Lib.hid (HL12.out.below hb13 HL12.out.lt); have HS13 := Lib.hid (HS12.out.below hb13 HS12.out.lt); have HR13 := Lib.hid (ownsRow_keep HR12.out hb13); obtain ⟨By, hBy⟩ : ∃ By, By = wr.heap.size := ⟨_, rfl⟩; rw [← hBy] at hl13 ⊢; have HY13 := Lib.hid hl13; have z0 : w13.cell? ⟨By, 0, none⟩ = some (.string x.nm) := hl13.cell 0; have y6 : w13.cell? ⟨Bl, 6, none⟩ = some ev := HS13.out.cell 6; clear hl13 hf13 hb13 hBy; (try simp only [Act.put])))
      go_roundw
      case rel => exact ⟨k + 1, ev, hlt, by go_num, HB13.out, HL13.out, by rw [HFT.out]; simpa using HS13.out, by rw [HFT.out]; simpa using HR13.out⟩
      case measure => simp [RowKit.intOf]; omega
     ·rw [decide_eq_false (show ¬ nmL x.nm = [109, 97, 105, 110] from hmn)] at h1
      rw [decide_eq_false hmn] at HFT
      have hFl : ((m.exps.take k).filter (fun x => !decide (nmL x.nm = mainL))).length ≤ k := Nat.le_trans (List.length_filter_le _ _) (by rw [List.length_take]; omega)
      have hone : ∀ u ∈ x.cs, u.oneCell' = true := by simp [Exp.cs, Value.oneCell']
      clear hmn
      go_wp2_with (first | (refine wpList_load_mid rfl 61 _ rfl gX (oX + k * 3) rfl x.cs _ (Gr.sl_range (HSL.out.later HB12.out) HXX.out) Tryz.underlying61 rfl sizeExp ?_; (try simp only [Act.put, sA, sB, sC])) | (refine wl_put (Lies.new _ _ _) x.cs _ _ rfl rfl rfl rfl rfl sizeExp (by simp [Exp.cs, Value.oneCell']) (fun w13 hl13 hf13 => ?_); have hb13 : Below wr.heap.size wr w13 := below_put ((Below.refl wr.heap.size wr).alloc (Nat.le_refl _) _) hf13 (Nat.le_refl _); have HB13 := Lib.hid (bt HB12.out hb13); have HL13 := Lib.hid (HL12.out.below hb13 HL12.out.lt); have HS13 := Lib.hid (HS12.out.below hb13 HS12.out.lt); have HR13 := Lib.hid (ownsRow_keep HR12.out hb13); obtain ⟨By, hBy⟩ : ∃ By, By = wr.heap.size := ⟨_, rfl⟩; rw [← hBy] at hl13 ⊢; have HY13 := Lib.hid hl13; have z0 : w13.cell? ⟨By, 0, none⟩ = some (.string x.nm) := hl13.cell 0; have y6 : w13.cell? ⟨Bl, 6, none⟩ = some ev := HS13.out.cell 6; clear hl13 hf13 hb13 hBy; (try simp only [Act.put])) | (refine wpList_load_mid rfl 61 _ rfl By 0 rfl x.cs _ (lies_range HY13.out) Tryz.underlying61 rfl sizeExp ?_; (try simp only [Act.put, sA, sB, sC])) | (refine wl_bsN (e := 61) (d := 119) rfl rfl x.cs rfl (fun w => by kernel_rfl) (fun w14 hb14 hl14 => ?_); have HB14 := Lib.hid (bt HB13.out hb14); have HL14 := Lib.hid (HL13.out.below hb14 HL13.out.lt); have HS14 := Lib.hid (HS13.out.below hb14 HS13.out.lt); have HR14 := Lib.hid (ownsRow_keep HR13.out hb14); have HN14 := Lib.hid hl14; clear hb14 hl14; (try simp only [Act.put, sA, sB, sC])) | (refine wl_app (by_ := 24) _ _ rfl rfl und_x inf_x (by decide) rfl HR14.out Exp.len rfl (sl_one HN14.out) (fun y hy u hu => by obtain rfl := List.mem_singleton.1 hy; exact hone u hu) (by unfold maxLen; simp; omega) (by simp; omega) HB14.out.size (fun v15 w15 hr15 hg15 hv15 => ?_); have HB15 := Lib.hid (HB14.out.grown hg15 HB14.out.size (fun _ hk => (row_block HR14.out hk).1)); have HL15 := Lib.hid (lies_frT HL14.out (FrT.grown HR14.out hg15) (by decide)); have HS15 := Lib.hid (lies_frT HS14.out (FrT.grown HR14.out hg15) (by decide)); have HV15 := Lib.hid (row_cells hr15); have HR15 := Lib.hid hr15; clear hr15 hg15 hv15; (try simp only [Act.put, sA, sB, sC])) | (refine wl_fld (c0 := ({ m with ev := ev, exps := ((m.exps.take k).filter (fun x => !decide (nmL x.nm = mainL))) } : Mod).cs) HS15.out _ _ rfl rfl rfl rfl [v15] ({ m with ev := v15, exps := ((m.exps.take (k + 1)).filter (fun x => !decide (nmL x.nm = mainL))) } : Mod).cs HV15.out.1 (by kernel_rfl) (by intro u hu; obtain rfl := List.mem_singleton.1 hu; exact HV15.out.2) (by simp [Mod.cs]) rfl (fun w16 hl16 hf16 => ?_); have HB16 := Lib.hid (HB15.out.trans (hf16.below HB15.out.size (fun k hk => by rw [hk]; exact HBL.out))); have HL16 := Lib.hid (lies_fr HL15.out hf16 HNE.out); have HR16 := Lib.hid (row_frT HR15.out (FrT.field HS15.out hf16) (by decide)); have HS16 := Lib.hid hl16; clear hl16 hf16; (try simp only [Act.put])))
      go_roundw
      case rel => exact ⟨k + 1, v15, hlt, by go_num, HB16.out, HL16.out, HS16.out, by rw [HFT.out, List.length_append, List.flatMap_append]; exact HR16.out⟩
      case measure => simp [RowKit.intOf]; omega
    ·obtain rfl : k = m.exps.length := by omega
     go_wp2_with fail
     go_meet
     exact ⟨ev, HB12.out, HL12.out, by have h := HS12.out; rw [List.take_length] at h; exact h, by have h := HR12.out; rw [List.take_length] at h; exact h⟩
  case rest =>
   obtain ⟨ev, hb20, hl20, hs20, hr20⟩ := hcut
   obtain ⟨w20, hw20⟩ : ∃ w20, w20 = wc := ⟨_, rfl⟩
   rw [← hw20] at hb20 hl20 hs20 hr20 ⊢
   have HB20 := Lib.hid hb20
   have HL20 := Lib.hid hl20
   have HS20 := Lib.hid hs20
   have HR20 := Lib.hid hr20
   clear hb20 hl20 hs20 hr20 hw20
   go_wp2_with (refine wpList_load_mid rfl 33 _ rfl Bl 0 rfl ({ m with ev := ev, exps := (m.exps.filter (fun x => !decide (nmL x.nm = mainL))) } : Mod).cs _ (lies_range HS20.out) Tryz.underlying33 rfl sizeMod ?_; (try simp only [Act.put, sA, sB, sC]))
   have HML := Lib.hid (show ModOk w20 ({ m with ev := ev, exps := (m.exps.filter (fun x => !decide (nmL x.nm = mainL))) } : Mod) from by
    have h := HM.out.later HB20.out
    exact ⟨h.1, h.2.1, h.2.2.1, h.2.2.2.1, h.2.2.2.2.1, h.2.2.2.2.2.1, ⟨own_sl Exp.len HR20.out, fun y hy => h.2.2.2.2.2.2.1.2.1 y (List.mem_filter.1 hy).1, Nat.le_trans (List.length_filter_le _ _) h.2.2.2.2.2.2.1.2.2⟩, h.2.2.2.2.2.2.2⟩)
   refine (rcheck_any HML.out).mono ?_
   rintro en w21 ⟨rfl, hb21⟩
   have HB21 := Lib.hid (bt HB20.out hb21)
   have HL21 := Lib.hid (HL20.out.below hb21 HL20.out.lt)
   clear hb21
   rw [rchk_less (m := m) (m' := ({ m with ev := ev, exps := (m.exps.filter (fun x => !decide (nmL x.nm = mainL))) } : Mod)) HRC.out ⟨rfl, rfl, rfl, rfl, rfl, rfl, rfl⟩ rfl rfl rfl rfl rfl]
   have x1 : w21.cell? ⟨Bm, 1, none⟩ = some (.slice sI m.imps.length cI) := (HL21.out.cell 1).trans (congrArg some HVI.out)
   by_cases himp : 64 ≤ m.imps.length
   ·have h1 : (64 : Int) ≤ (m.imps.length : Int) := by omega
    go_wp2_with fail
    go_ret
    exact ⟨rfl, HB21.out⟩
   have himp2 : ¬ (64 : Int) ≤ (m.imps.length : Int) := by omega
   by_cases hnm : 64 < b.size
   ·have h1 : (64 : Int) < (b.size : Int) := by omega
    go_wp2_with fail
    go_ret
    exact ⟨rfl, HB21.out⟩
   have hnm2 : ¬ (64 : Int) < (b.size : Int) := by omega
   have hBi : m.imps.length ≤ 1048576 := HM.out.2.1.2.2
   by_cases hg : m.globs.length = 0
   rotate_left
   ·have h1 : (0 : Int) < (m.globs.length : Int) := by omega
    go_wp2_with (first | (refine wpList_load_mid rfl 33 _ rfl Bm 0 rfl m.cs _ (lies_range HL21.out) Tryz.underlying33 rfl sizeMod ?_; (try simp only [Act.put, sA, sB, sC])) | (refine wl_put (Lies.new _ _ _) m.cs _ _ rfl rfl rfl rfl rfl sizeMod (oneModR HM.out) (fun w22 hlw22 hfw22 => ?_); have hbw22 : Below w21.heap.size w21 w22 := below_put ((Below.refl w21.heap.size w21).alloc (Nat.le_refl _) _) hfw22 (Nat.le_refl _); have HB22 := Lib.hid (bt HB21.out hbw22); have HQ22 := Lib.hid hlw22; obtain ⟨Bq, hBw22⟩ : ∃ Bq, Bq = w21.heap.size := ⟨_, rfl⟩; rw [← hBw22] at HQ22 ⊢; have HQE := Lib.hid hBw22; have HL22 := Lib.hid (HL21.out.below hbw22 HL21.out.lt); have x1 : w22.cell? ⟨Bm, 1, none⟩ = some (.slice sI m.imps.length cI) := (HL22.out.cell 1).trans (congrArg some HVI.out); clear hBw22 hlw22 hfw22 hbw22 ; try simp only [Act.put]) | (refine wl_bsN (e := 88) (d := 136) rfl rfl [] rfl (fun w => by kernel_rfl) (fun w23 hb23 hl23 => ?_); have HB23 := Lib.hid (bt HB22.out hb23); have HL23 := Lib.hid (HL22.out.below hb23 HL22.out.lt); have HQ23 := Lib.hid (HQ22.out.below hb23 HQ22.out.lt); have HR23 := Lib.hid (row_im0 hl23 HB22.out.size); have x1 : w23.cell? ⟨Bm, 1, none⟩ = some (.slice sI m.imps.length cI) := (HL23.out.cell 1).trans (congrArg some HVI.out); clear hb23 hl23; (try simp only [Act.put, sA, sB, sC])) | (refine wl_app (by_ := 64) _ _ rfl rfl und_im inf_im (by decide) rfl HR23.out Imp.len rfl (by rw [← HVI.out]; exact HM.out.2.1.1.later HB23.out) (fun y _ u hu => (by simpa using oneImp y : ∀ u ∈ y.cs, u.oneCell' = true) u hu) (by unfold maxLen; simp; omega) (by simp; omega) HB23.out.size (fun v24 w24 hr24 hg24 hv24 => ?_); have HB24 := Lib.hid (HB23.out.grown hg24 HB23.out.size (fun _ hk => (row_block HR23.out hk).1)); have HL24 := Lib.hid (lies_frT HL23.out (FrT.grown HR23.out hg24) (by decide)); have HQ24 := Lib.hid (lies_frT HQ23.out (FrT.grown HR23.out hg24) (by decide)); have HR24 := Lib.hid hr24; clear hr24 hg24 hv24; (try simp only [Act.put, sA, sB, sC])) | (refine wl_bsN (e := 88) (d := 143) rfl rfl (⟨⟨#[101, 110, 118]⟩, b, 3, 0, ⟨0, 0⟩, ⟨127, false⟩⟩ : Imp).cs rfl (fun w => by kernel_rfl) (fun w25 hb25 hl25 => ?_); have HB25 := Lib.hid (bt HB24.out hb25); have HL25 := Lib.hid (HL24.out.below hb25 HL24.out.lt); have HQ25 := Lib.hid (HQ24.out.below hb25 HQ24.out.lt); have HR25 := Lib.hid (ownsRow_keep HR24.out hb25); have HN25 := Lib.hid hl25; clear hb25 hl25; (try simp only [Act.put, sA, sB, sC])) | (refine wl_app (by_ := 64) _ _ rfl rfl und_im inf_im (by decide) rfl HR25.out Imp.len rfl (sl_one (x := (⟨⟨#[101, 110, 118]⟩, b, 3, 0, ⟨0, 0⟩, ⟨127, false⟩⟩ : Imp)) HN25.out) (fun y _ u hu => (by simpa using oneImp y : ∀ u ∈ y.cs, u.oneCell' = true) u hu) (by unfold maxLen; simp; omega) (by simp; omega) HB25.out.size (fun v26 w26 hr26 hg26 hv26 => ?_); have HB26 := Lib.hid (HB25.out.grown hg26 HB25.out.size (fun _ hk => (row_block HR25.out hk).1)); have HL26 := Lib.hid (lies_frT HL25.out (FrT.grown HR25.out hg26) (by decide)); have HQ26 := Lib.hid (lies_frT HQ25.out (FrT.grown HR25.out hg26) (by decide)); have HV26 := Lib.hid (row_cells hr26); have HR26 := Lib.hid hr26; clear hr26 hg26 hv26; (try simp only [Act.put, sA, sB, sC])) | (have HNQ := Lib.hid (show ¬ Bm = Bq from fun e => by have := HL21.out.lt; have := HQE.out; omega); have HBQ := Lib.hid (show W.heap.size ≤ Bq from by rw [HQE.out]; exact HB21.out.size); refine wl_fld (c0 := m.cs) HQ26.out _ _ rfl rfl rfl rfl [v26] ({ m with iv := v26, imps := m.imps ++ [(⟨⟨#[101, 110, 118]⟩, b, 3, 0, ⟨0, 0⟩, ⟨127, false⟩⟩ : Imp)] } : Mod).cs HV26.out.1 (by kernel_rfl) (by intro u hu; obtain rfl := List.mem_singleton.1 hu; exact HV26.out.2) (by simp [Mod.cs]) rfl (fun w27 hl27 hf27 => ?_); have HB27 := Lib.hid (HB26.out.trans (hf27.below HB26.out.size (fun k hk => by rw [hk]; exact HBQ.out))); have HL27 := Lib.hid (lies_fr HL26.out hf27 HNQ.out); have HR27 := Lib.hid (row_frT HR26.out (FrT.field HQ26.out hf27) (by decide)); have HQ27 := Lib.hid hl27; clear hl27 hf27; (try simp only [Act.put]); have x5 : w27.cell? ⟨Bm, 5, none⟩ = some (.slice sG m.globs.length cG) := (HL27.out.cell 5).trans (congrArg some HVG.out)))
    go_ret
    exact ⟨rfl, HB27.out⟩
   have h1 : ¬ (0 : Int) < (m.globs.length : Int) := by omega
   go_wp2_with (first | (first | (refine wpList_load_mid rfl 33 _ rfl Bm 0 rfl m.cs _ (lies_range HL21.out) Tryz.underlying33 rfl sizeMod ?_; (try simp only [Act.put, sA, sB, sC])) | (refine wl_put (Lies.new _ _ _) m.cs _ _ rfl rfl rfl rfl rfl sizeMod (oneModR HM.out) (fun w22 hlw22 hfw22 => ?_); have hbw22 : Below w21.heap.size w21 w22 := below_put ((Below.refl w21.heap.size w21).alloc (Nat.le_refl _) _) hfw22 (Nat.le_refl _); have HB22 := Lib.hid (bt HB21.out hbw22); have HQ22 := Lib.hid hlw22; obtain ⟨Bq, hBw22⟩ : ∃ Bq, Bq = w21.heap.size := ⟨_, rfl⟩; rw [← hBw22] at HQ22 ⊢; have HQE := Lib.hid hBw22; have HL22 := Lib.hid (HL21.out.below hbw22 HL21.out.lt); have x1 : w22.cell? ⟨Bm, 1, none⟩ = some (.slice sI m.imps.length cI) := (HL22.out.cell 1).trans (congrArg some HVI.out); clear hBw22 hlw22 hfw22 hbw22 ; try simp only [Act.put]) | (refine wl_bsN (e := 88) (d := 136) rfl rfl [] rfl (fun w => by kernel_rfl) (fun w23 hb23 hl23 => ?_); have HB23 := Lib.hid (bt HB22.out hb23); have HL23 := Lib.hid (HL22.out.below hb23 HL22.out.lt); have HQ23 := Lib.hid (HQ22.out.below hb23 HQ22.out.lt); have HR23 := Lib.hid (row_im0 hl23 HB22.out.size); have x1 : w23.cell? ⟨Bm, 1, none⟩ = some (.slice sI m.imps.length cI) := (HL23.out.cell 1).trans (congrArg some HVI.out); clear hb23 hl23; (try simp only [Act.put, sA, sB, sC])) | (refine wl_app (by_ := 64) _ _ rfl rfl und_im inf_im (by decide) rfl HR23.out Imp.len rfl (by rw [← HVI.out]; exact HM.out.2.1.1.later HB23.out) (fun y _ u hu => (by simpa using oneImp y : ∀ u ∈ y.cs, u.oneCell' = true) u hu) (by unfold maxLen; simp; omega) (by simp; omega) HB23.out.size (fun v24 w24 hr24 hg24 hv24 => ?_); have HB24 := Lib.hid (HB23.out.grown hg24 HB23.out.size (fun _ hk => (row_block HR23.out hk).1)); have HL24 := Lib.hid (lies_frT HL23.out (FrT.grown HR23.out hg24) (by decide)); have HQ24 := Lib.hid (lies_frT HQ23.out (FrT.grown HR23.out hg24) (by decide)); have HR24 := Lib.hid hr24; clear hr24 hg24 hv24; (try simp only [Act.put, sA, sB, sC])) | (refine wl_bsN (e := 88) (d := 143) rfl rfl (⟨⟨#[101, 110, 118]⟩, b, 3, 0, ⟨0, 0⟩, ⟨127, false⟩⟩ : Imp).cs rfl (fun w => by kernel_rfl) (fun w25 hb25 hl25 => ?_); have HB25 := Lib.hid (bt HB24.out hb25); have HL25 := Lib.hid (HL24.out.below hb25 HL24.out.lt); have HQ25 := Lib.hid (HQ24.out.below hb25 HQ24.out.lt); have HR25 := Lib.hid (ownsRow_keep HR24.out hb25); have HN25 := Lib.hid hl25; clear hb25 hl25; (try simp only [Act.put, sA, sB, sC])) | (refine wl_app (by_ := 64) _ _ rfl rfl und_im inf_im (by decide) rfl HR25.out Imp.len rfl (sl_one (x := (⟨⟨#[101, 110, 118]⟩, b, 3, 0, ⟨0, 0⟩, ⟨127, false⟩⟩ : Imp)) HN25.out) (fun y _ u hu => (by simpa using oneImp y : ∀ u ∈ y.cs, u.oneCell' = true) u hu) (by unfold maxLen; simp; omega) (by simp; omega) HB25.out.size (fun v26 w26 hr26 hg26 hv26 => ?_); have HB26 := Lib.hid (HB25.out.grown hg26 HB25.out.size (fun _ hk => (row_block HR25.out hk).1)); have HL26 := Lib.hid (lies_frT HL25.out (FrT.grown HR25.out hg26) (by decide)); have HQ26 := Lib.hid (lies_frT HQ25.out (FrT.grown HR25.out hg26) (by decide)); have HV26 := Lib.hid (row_cells hr26); have HR26 := Lib.hid hr26; clear hr26 hg26 hv26; (try simp only [Act.put, sA, sB, sC])) | (have HNQ := Lib.hid (show ¬ Bm = Bq from fun e => by have := HL21.out.lt; have := HQE.out; omega); have HBQ := Lib.hid (show W.heap.size ≤ Bq from by rw [HQE.out]; exact HB21.out.size); refine wl_fld (c0 := m.cs) HQ26.out _ _ rfl rfl rfl rfl [v26] ({ m with iv := v26, imps := m.imps ++ [(⟨⟨#[101, 110, 118]⟩, b, 3, 0, ⟨0, 0⟩, ⟨127, false⟩⟩ : Imp)] } : Mod).cs HV26.out.1 (by kernel_rfl) (by intro u hu; obtain rfl := List.mem_singleton.1 hu; exact HV26.out.2) (by simp [Mod.cs]) rfl (fun w27 hl27 hf27 => ?_); have HB27 := Lib.hid (HB26.out.trans (hf27.below HB26.out.size (fun k hk => by rw [hk]; exact HBQ.out))); have HL27 := Lib.hid (lies_fr HL26.out hf27 HNQ.out); have HR27 := Lib.hid (row_frT HR26.out (FrT.field HQ26.out hf27) (by decide)); have HQ27 := Lib.hid hl27; clear hl27 hf27; (try simp only [Act.put]); have x5 : w27.cell? ⟨Bm, 5, none⟩ = some (.slice sG m.globs.length cG) := (HL27.out.cell 5).trans (congrArg some HVG.out))) | (refine wpList_load_mid rfl 33 _ rfl Bq 0 rfl ({ m with iv := v26, imps := m.imps ++ [(⟨⟨#[101, 110, 118]⟩, b, 3, 0, ⟨0, 0⟩, ⟨127, false⟩⟩ : Imp)] } : Mod).cs _ (lies_range HQ27.out) Tryz.underlying33 rfl sizeMod ?_; (try simp only [Act.put, sA, sB, sC])))
   have HMQ := Lib.hid (show ModOk w27 ({ m with iv := v26, imps := m.imps ++ [(⟨⟨#[101, 110, 118]⟩, b, 3, 0, ⟨0, 0⟩, ⟨127, false⟩⟩ : Imp)] } : Mod) from by
    have h := HM.out.later HB27.out
    refine ⟨h.1, ⟨own_sl Imp.len (row_twoI HR27.out), fun y hy => ?_, ?_⟩, h.2.2⟩
    ·rcases List.mem_append.1 hy with hy | hy
     ·exact h.2.1.2.1 y hy
     ·obtain rfl := List.mem_singleton.1 hy
      exact ⟨by show (0 : Nat) < 4294967296; decide, by show (0 : Nat) < 4294967296; decide, trivial, by show (3 : Nat) ≤ 1048576; decide, hb⟩
    ·rw [List.length_append]; show m.imps.length + 1 ≤ 1048576; omega)
   refine (rcheck_any HMQ.out).mono ?_
   rintro en w28 ⟨rfl, hb28⟩
   have HB28 := Lib.hid (bt HB27.out hb28)
   clear hb28
   rw [More.rchk (m := m) (m' := ({ m with iv := v26, imps := m.imps ++ [(⟨⟨#[101, 110, 118]⟩, b, 3, 0, ⟨0, 0⟩, ⟨127, false⟩⟩ : Imp)] } : Mod)) (X := (⟨⟨#[101, 110, 118]⟩, b, 3, 0, ⟨0, 0⟩, ⟨127, false⟩⟩ : Imp)) ⟨rfl, rfl, rfl, rfl, rfl, rfl, rfl, rfl, rfl, rfl, rfl, rfl, rfl, rfl⟩ HRC.out (List.length_eq_zero_iff.1 hg) (by omega) (by show (3 : Nat) ≤ 64; decide) (by show b.size ≤ 64; omega)]
   go_wp2_with fail
   go_ret
   exact ⟨rfl, HB28.out⟩
end Go.Proofs.YtmgjcaikldeioaaGreat.Ru
/- The statement RuleOnlyUpto: for every input of bulk at most 1048576 the call returns true (a module that may be deployed is valid, and imports what is offered alone; without its main, or with an import that is not offered, it may not be) and each argument reads behind it as it did: the row. Conditions: the bulk's bound alone. -/
namespace Go.Proofs.YtmgjcaikldeioaaGreat.lwOnly
open Go Go.ChangeShapes Go.WideShapes Go.ChangeAt Go.RowKit Kt Fm Gr Ty Va Ru
set_option maxRecDepth 100000 in
theorem open_strB {H : Type} {enc : TypeId × Value → H} {w : World} {base : Nat} {spare : Nat → Bool} {held : Bool} {r : Reach} {b0 : Nat} {v : Value} {d : DataW H} {p : List MemPlace} (hv : Value.okWide Tryz.prog w r b0 9 v) (h : DataW.Trod enc Tryz.prog w base spare held 9 v d p) (hB : bulk d ≤ Bd) : ∃ x : ByteArray, v = .string x ∧ x.size ≤ 1048576 := by
 obtain ⟨s, rfl, hd, _⟩ := Go.ChangeMaps.open_string Tryz.underlying9 hv h
 rw [hd] at hB
 exact ⟨s, rfl, str_bd (q := (.lit (.string s.data.toList), [])) rfl hB⟩
theorem laidOut : laidOutB Tryz.prog = true := by kernel_rfl
theorem readable : (Tryz.f7.params.toList.all fun t => Tryz.prog.readableRec t && decide (t < Tryz.prog.types.size)) = true := by kernel_rfl
set_option maxRecDepth 100000 in
theorem contract (H : Type) (enc : TypeId × Value → H) (W : World) (base : Nat) (args : Array Value) (ds gs : List (DataW H)) (before : List MemPlace)
  (hval : ∀ (j : Nat) t v, Tryz.f7.params[j]? = some t → args[j]? = some v → Value.okWide Tryz.prog W .any base t v)
  (hW : DataW.Whole enc Tryz.prog Tryz.f7.params.toList Rows.ruleOnlySpec.vars false W args.toList ds gs before) (hk : Rows.uptoSmall H (ds ++ gs) = true) :
  Calls Tryz.prog 7 args W fun e W' => ∃ v, e = .returned v ∧ Rows.ruleOnlySpec.post enc Tryz.prog Tryz.f7 false true false false W args v W' := by
 have hW' := hW
 obtain ⟨p, q, hA0, hV, rfl, hfz, hnd⟩ := hW
 have hA : DataW.TrodAll enc Tryz.prog W 0 (fun _ => true) true Tryz.f7.params.toList args.toList ds p := hA0
 rw [Tryz.params7] at hA hval
 obtain ⟨v0, vs0, d0, ds0, p0, q0, hargs0, rfl, rfl, h0, r0⟩ := trodAll_cons hA
 obtain ⟨v1, vs1, d1, ds1, p1, q1, hargs1, rfl, rfl, h1, r1⟩ := trodAll_cons r0
 subst hargs1
 obtain ⟨rfl, rfl, rfl⟩ := trodAll_nil r1
 obtain rfl : args = #[v0, v1] := by cases args; simp_all
 obtain ⟨rfl, rfl⟩ := trodVars_none hV
 obtain ⟨x0, rfl, hx0⟩ := open_mod (hval 0 _ v0 rfl rfl) h0 (small hk (by simp))
 obtain ⟨x1, rfl, hx1⟩ := open_strB (hval 1 _ v1 rfl rfl) h1 (small hk (by simp))
 refine (law_only hx0 x1 hx1).mono fun e W' ⟨he, hb⟩ => ?_
 subst he
 exact ⟨_, rfl, Rw.law_post laidOut readable rfl Tryz.underlying4 rfl (fun _ => rfl) (fun _ => rfl) (fun _ => rfl) hW' hb⟩
set_option maxRecDepth 100000 in
theorem reads (os : Os) {H : Type} (enc : TypeId × Value → H) : ∃ places, DataW.whole enc Tryz.prog ((Rw.plainWorld os).forCall (fun _ _ => 0) ⟨#[], #[(.agg #[.slice none 0 0, .slice none 0 0, .slice none 0 0, .slice none 0 0, .slice none 0 0, .slice none 0 0, .slice none 0 0, .bool false, .int .u32 0, .slice none 0 0, .slice none 0 0, .slice none 0 0]), (.string ⟨#[]⟩)], []⟩).memory Tryz.f7.params.toList Rows.ruleOnlySpec.vars false (#[(.agg #[.slice none 0 0, .slice none 0 0, .slice none 0 0, .slice none 0 0, .slice none 0 0, .slice none 0 0, .slice none 0 0, .bool false, .int .u32 0, .slice none 0 0, .slice none 0 0, .slice none 0 0]), (.string ⟨#[]⟩)] : Array Value).toList 8 = some ([(.agg [.nil, .nil, .nil, .nil, .nil, .nil, .nil, .lit (.bool false), .lit (.int .u32 0), .nil, .nil, .nil]), (.lit (.string []))], [], places) :=
 ⟨[], by kernel_rfl⟩
set_option maxRecDepth 100000 in
theorem lifted (os : Os) (started : os.Started) (H : Type) (enc : TypeId × Value → H) (F : Stop.Interp) :
  ReturnsInHanded {} Tryz.checked os 7 .any ((Rows.OpenSpec.upto Rows.ruleOnlySpec).preRow enc Tryz.prog Tryz.f7 Rows.ruleOnlyUptoRow.domain false Rows.ruleOnlyUptoRow.laid) (((Rows.OpenSpec.upto Rows.ruleOnlySpec).at F).post enc Tryz.prog Tryz.f7 false true false false) := by
 obtain ⟨places, hx⟩ := reads os enc
 refine returnsInHanded_of_row (C := Tryz.checked) (s := Rows.OpenSpec.upto Rows.ruleOnlySpec) Rw.own started (by kernel_rfl) Tryz.func7
  (witness_row_at (enc := enc) (C := Tryz.checked) false (Rw.plainWorld os) #[(.agg #[.slice none 0 0, .slice none 0 0, .slice none 0 0, .slice none 0 0, .slice none 0 0, .slice none 0 0, .slice none 0 0, .bool false, .int .u32 0, .slice none 0 0, .slice none 0 0, .slice none 0 0]), (.string ⟨#[]⟩)] rfl (by kernel_rfl) (by kernel_rfl) (by kernel_rfl)
   (OpenSpec.preRow_of_cond 8 hx (by kernel_rfl) (fun k hk => by cases hk; kernel_rfl) (by kernel_rfl) (Rw.met_nil _))) ?_
 intro W base args ds gs before hval hW _ hcond _ _ _ _
 exact contract H enc W base args ds gs before hval hW (hcond _ rfl)
theorem said : Rows.RuleOnlyUptoSaid :=
 OpenClaim.holds_of_cond 7 Tryz.f7 rfl rfl rfl rfl rfl rfl rfl ⟨rfl, rfl, rfl, rfl, rfl⟩ rfl rfl rfl rfl rfl (by kernel_rfl) Tryz.func7 (by kernel_rfl)
  (of_decide_eq_true (by kernel_rfl)) (by unfold Func.isWrapper; first | (rw [if_pos (by decide +kernel)]; kernel_rfl) | (rw [if_neg (by decide +kernel)]; exact ⟨rfl, rfl⟩))
  (fun os started H enc _ F => by rw [OpenClaim.pre_eq_preRow]; exact lifted os started H enc F)
#print axioms said
end Go.Proofs.YtmgjcaikldeioaaGreat.lwOnly
