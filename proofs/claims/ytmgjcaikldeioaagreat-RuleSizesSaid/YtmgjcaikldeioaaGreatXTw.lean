/- The stack of the typing in memory: Close. -/
import Derived.Test.YtmgjcaikldeioaaGreatXTv
namespace Go.Proofs.YtmgjcaikldeioaaGreat.Ty
open Go Go.RowKit Go.Lib Kt Fm Gr

theorem row_takeS {w : World} {H sz : Nat} {e : TypeId} {sl : Option Addr} {n c : Nat} {xs : List Value} (h : w.ownsRow H e sz (.slice sl n c) n xs) {k : Nat} (hk : k ≤ n) : w.ownsRow H e sz (.slice sl k c) k (xs.take (k * sz)) := by
 have hx := h.1
 have hks : k * sz ≤ n * sz := Nat.mul_le_mul_right _ hk
 refine ⟨by rw [List.length_take]; omega, ?_⟩
 rcases h.2 with ⟨e1, rfl⟩ | ⟨g, cap, cur, e1, hb, hg, h1, h2, h3, h4⟩
 ·left
  cases e1
  obtain rfl : k = 0 := by omega
  exact ⟨rfl, rfl⟩
 ·right
  cases e1
  refine ⟨g, c, cur, rfl, hb, hg, by omega, h2, h3, ?_⟩
  rw [← h4, List.take_take]
  congr 1
  omega
theorem flat_fv_take : ∀ (L : List Fv) (k : Nat), (L.flatMap Fv.cs).take (k * 4) = (L.take k).flatMap Fv.cs
 | [], k => by simp
 | x :: L, 0 => by simp
 | x :: L, k + 1 => by
  rw [List.take_succ_cons, List.flatMap_cons, List.flatMap_cons, ← flat_fv_take L k, List.take_append, Fv.len]
  rw [List.take_of_length_le (by rw [Fv.len]; omega), show (k + 1) * 4 - 4 = k * 4 by omega]
/-- One frame fewer. -/
theorem Stm.dropf {w w2 : World} {H sb : Nat} {lv : Value} {sf : Option Addr} {n c k : Nat} {FV : List Fv} {s : Stk} (h : Stm w H sb lv (.slice sf n c) FV s) (hn : FV.length = n) (hk : n - 1 = k) (hl : Lies w2 sb 172 #[lv, .slice sf k c, .int .i64 s.most]) (hf : Fr w w2 (fun k => k = sb)) (hi : Inv { s with fs := s.fs.dropLast }) :
  Stm w2 H sb lv (.slice sf k c) FV.dropLast { s with fs := s.fs.dropLast } ∧ Fr w w2 (Ms sb lv (.slice sf n c)) ∧ ∀ x ∈ FV, Imm w2 H lv x.ev x.f.ends := by
 have f2 : FrT [172] w w2 := FrT.field h.cell hf
 have hd : FV.dropLast = FV.take k := by rw [List.dropLast_eq_take, hn, hk]
 have hr := row_frT h.frs f2 (by decide)
 rw [hn] at hr
 have hr2 := row_takeS hr (k := k) (by omega)
 rw [flat_fv_take, ← hd] at hr2
 have hlen : FV.dropLast.length = k := by rw [List.length_dropLast, hn, hk]
 refine ⟨⟨hl, h.hsb, row_frT h.row f2 (by decide), ?_, ?_, fun x hx => ?_, hi⟩, hf.mono fun k _ e => Or.inl e, fun x hx => wrow_frT (h.imm x hx).2 f2 (by decide)⟩
 ·rw [hlen]; exact hr2
 ·show FV.dropLast.map (·.f) = s.fs.dropLast
  rw [← h.fs, List.map_dropLast]
 ·have hx' := List.dropLast_subset FV hx
  exact ⟨wrow_frT (h.imm x hx').1 f2 (by decide), wrow_frT (h.imm x hx').2 f2 (by decide)⟩
/-- What Close tells. -/
def CloseSays (W w' : World) (H sb : Nat) (lv fv : Value) (FV : List Fv) (e : Ending) : Option (Bts × Stk) → Prop
 | some (b, s') => ∃ v lv' fv', e = .returned (.tuple #[v, .bool true]) ∧ Stm w' H sb lv' fv' FV.dropLast s' ∧ Imm w' H lv' v b ∧ Fr W w' (Ms sb lv fv) ∧ lv'.ownBlock = lv.ownBlock ∧ fv'.ownBlock = fv.ownBlock
 | none => e = .returned (.tuple #[.slice none 0 0, .bool false]) ∧ Below W.heap.size W w'
theorem close_yes {s : Stk} {f : Frm} (hf : s.fs.getLast? = some f) (h : left s f.ends = some f.ht) : close s = some (f.ends, { s with l := s.l.take f.ht, fs := s.fs.dropLast }) := by
 unfold close
 rw [hf]
 simp only [h, if_true]
theorem close_no {s : Stk} {f : Frm} (hf : s.fs.getLast? = some f) (h : left s f.ends ≠ some f.ht) : close s = none := by
 unfold close
 rw [hf]
 simp only [if_neg h]
set_option maxRecDepth 100000 in
set_option maxHeartbeats 4000000 in
theorem close_any {W : World} {H sb : Nat} {lv fv : Value} {FV : List Fv} {s : Stk} (h : Stm W H sb lv fv FV s) (hne : s.fs ≠ []) (hbd : s.fs.length ≤ 1000000000) (hm : s.most ≤ 1000000000) (hem : ∀ x ∈ FV, x.f.ends.length ≤ 4194304) :
  Calls Tryz.prog 69 #[.pointer (some ⟨sb, 0, none⟩)] W fun e w' => CloseSays W w' H sb lv fv FV e (close s) := by
 obtain ⟨fb, N, n, cf, x, ht⟩ := h.top hne hbd
 have HT := zh ht
 have hgl := ht.last s h.fs
 have hle : x.f.ht ≤ s.l.length := h.inv.top _ hgl
 have hlm : s.l.length ≤ s.most := h.inv.most
 have hxm := List.mem_of_getElem? ht.at_
 have hel := hem x hxm
 have himm := (h.imm x hxm).2
 obtain ⟨se, ce, hev, _⟩ := Fm.WRow.form himm
 have HIM := zh himm
 rw [hev] at HIM
 obtain ⟨sl, cl, rfl, hlc, _⟩ := row_form h.row
 have hfv := ht.fv
 have HFS := zh h.fs
 have HINV := zh h.inv
 have HGL := zh hgl
 have HS := zh h
 obtain ⟨c, hc⟩ : ∃ c, c = leftV (left s x.f.ends) := ⟨_, rfl⟩
 have hhtB : x.f.ht ≤ 1000000000 := by omega
 have hhc : x.f.ht ≤ cl := by omega
 have hN : N - 1 = n := by have := ht.sub; have := ht.lt; omega
 have hN2 := ht.len
 have hNb := ht.bd
 have hq1 : (N : Int) - 1 = (n : Int) := ht.sub
 have hnN : n ≤ cf := by
  have := row_form h.frs
  obtain ⟨sf, cf', e, h2, _⟩ := this
  rw [hfv] at e
  injection e with _ e2 e3
  omega
 have hev1 : x.cs[1]? = some (.slice se x.f.ends.length ce) := by rw [← hev]; rfl
 have HEV := zh hev
 clear h ht hgl himm hxm hem hev
 subst hfv
 go_enter Tryz.func69, Tryz.ntmps69
 go_wp2_with fail
 refine (top_any HS.out HT.out).mono ?_
 rintro en w1 ⟨rfl, hb1⟩
 have HS1 := zh (HS.out.later hb1)
 have HB1 := zh hb1
 have hce : w1.cell? ⟨fb, n * 4 + 1, none⟩ = some (.slice se x.f.ends.length ce) := frame_cell HS1.out HT.out hev1
 have hch : w1.cell? ⟨fb, n * 4 + 2, none⟩ = some (.int .i64 x.f.ht) := frame_cell HS1.out HT.out rfl
 clear hb1
 go_wp2_with fail
 refine wp_region_b [(0, true), (1, true), (2, true), (3, true), (4, true), (5, true), (6, true), (7, true), (9, true), (10, true), (11, true), (12, true), (8, false), (13, true), (14, true)] (by kernel_rfl) (by kernel_rfl) (fun _ _ d _ _ h => by cases d <;> exact h) ?_
 intro V hbV
 replace hce := keepc hbV hce
 replace hch := keepc hbV hch
 have hS0 : Below V.heap.size V V := Below.refl _ _
 repeat (first | (refine hs_take (v := ?_) rfl rfl (fun w' hw' => ?_) ?_; rotate_left; (focus (have q0 := keepc hw' hce; have q1 := keepc hw' hch; clear hw'; (try simp only [Act.put, sA, sB, sC]); go_simp; (try go_bits); (try (with_reducible rfl)))); (try simp only [Act.put, sA, sB, sC])) | (refine hs_skip rfl rfl ?_; (try simp only [Act.put, sA, sB, sC])))
 refine hs_run rfl (fun K hK => ?_)
 rw [if_pos (show Region.wanted _ _ = true from rfl)]
 go_simp
 refine (left_any (HS1.out.later hbV) hne hbd hm (HIM.out.sl.later (bt HB1.out hbV)) hel).mono ?_
 rintro en V1 ⟨rfl, hB1⟩
 rw [← hc]
 have hS1 := bt hS0 hB1
 refine hK.out _ _ hS1 ?_
 clear hK K hS0
 (try simp only [Act.put, sA, sB, sC])
 by_cases hL : left s x.f.ends = some x.f.ht
 ·have hcv : c = (x.f.ht : Int) := by rw [hc, hL]; rfl
  subst hcv
  have HLL := zh hL
  clear hc hL
  repeat (first | (refine hs_take (v := ?_) rfl rfl (fun w' hw' => ?_) ?_; rotate_left; (focus (have q0 := keepc hw' hce; have q1 := keepc hw' hch; clear hw'; (try simp only [Act.put, sA, sB, sC]); go_simp; (try go_bits); (try (with_reducible rfl)))); (try simp only [Act.put, sA, sB, sC])) | (refine hs_skip rfl rfl ?_; (try simp only [Act.put, sA, sB, sC])))
  refine hs_done ?_
  have HS2 := zh (HS1.out.later (bt hbV hB1))
  have HB2 := zh (bt HB1.out (bt hbV hB1))
  replace hce : V1.cell? ⟨fb, n * 4 + 1, none⟩ = some (.slice se x.f.ends.length ce) := frame_cell HS2.out HT.out hev1
  replace hch : V1.cell? ⟨fb, n * 4 + 2, none⟩ = some (.int .i64 x.f.ht) := frame_cell HS2.out HT.out rfl
  have hc0 : V1.cell? ⟨sb, 0, none⟩ = some (.slice sl s.l.length cl) := HS2.out.cell.cell 0
  clear hB1 hS1 hbV HS1 HB1
  go_wp2_with fail
  go_still_tail 12, (by kernel_rfl)
  change wpList _ _ _ _ _ V1.drew
  have hd : Below V1.heap.size V1 V1.drew := (Below.refl _ _).drew
  have HS3 := zh (HS2.out.later hd)
  have HB3 := zh (bt HB2.out hd)
  clear hc0 hce hch hd HS2 HB2
  generalize V1.drew = w2 at HS3 HB3 ⊢
  go_wp2_with (first | (refine wl_fld (c0 := [.slice sl s.l.length cl, .slice (some ⟨fb, 0, none⟩) N cf, .int .i64 s.most]) HS3.out.cell _ _ rfl rfl rfl rfl [.slice sl x.f.ht cl] [.slice sl x.f.ht cl, .slice (some ⟨fb, 0, none⟩) N cf, .int .i64 s.most] rfl size_l8 (by simp [Value.oneCell']) (by simp) rfl (fun w3 hl3 hf3 => ?_); have HC3 := zh (HS3.out.cut rfl (k := x.f.ht) hle (fun f hf => by rw [HGL.out] at hf; obtain rfl := Option.some.inj hf; exact Nat.le_refl _) hl3 hf3); clear hl3 hf3; try simp only [Act.put]))
  have hwr : IntKind.i64.wrap (n : Int) = (n : Int) := wrap_ok (by omega)
  have hc1 : w3.cell? ⟨sb, 1, none⟩ = some (.slice (some ⟨fb, 0, none⟩) N cf) := HC3.out.1.cell.cell 1
  go_still_tail 14, (by kernel_rfl)
  change wpList _ _ _ _ _ w3.drew
  have hd : Below w3.heap.size w3 w3.drew := (Below.refl _ _).drew
  have HS4 := zh (HC3.out.1.later hd)
  have HF4 := zh (Fr.trans (Fr.trans (Fr.of_below HB3.out _) HC3.out.2) (Fr.of_below hd _))
  clear hc1 hd
  generalize w3.drew = w4 at HS4 HF4 ⊢
  go_wp2_with (first | (refine wl_fld (c0 := [.slice sl x.f.ht cl, .slice (some ⟨fb, 0, none⟩) N cf, .int .i64 s.most]) HS4.out.cell _ _ rfl rfl rfl rfl [.slice (some ⟨fb, 0, none⟩) n cf] [.slice sl x.f.ht cl, .slice (some ⟨fb, 0, none⟩) n cf, .int .i64 s.most] rfl size_lf (by simp [Value.oneCell']) (by simp) rfl (fun w5 hl5 hf5 => ?_); have HC5 := zh (HS4.out.dropf hN2 hN hl5 hf5 (HINV.out.drop HGL.out)); clear hl5 hf5; try simp only [Act.put]))
  go_ret2
  rw [close_yes HGL.out HLL.out]
  refine ⟨_, .slice sl x.f.ht cl, .slice (some ⟨fb, 0, none⟩) n cf, rfl, HC5.out.1, ?_, ?_, by cases sl <;> rfl, rfl⟩
  ·have := HC5.out.2.2 x (List.mem_of_getElem? HT.out.at_)
   rw [HEV.out] at this
   exact this
  ·exact Fr.trans HF4.out (HC5.out.2.1.mono fun k _ e => by cases sl <;> exact e)
 ·have hcv : ¬ c = (x.f.ht : Int) := by
   rw [hc]
   intro e
   cases hl2 : left s x.f.ends with
   | none => rw [hl2] at e; simp only [leftV] at e; omega
   | some k => rw [hl2] at e hL; simp only [leftV] at e; exact hL (by rw [show k = x.f.ht by omega])
  have hcb : (c == (x.f.ht : Int)) = false := by simpa using hcv
  repeat (first | (refine hs_take (v := ?_) rfl rfl (fun w' hw' => ?_) ?_; rotate_left; (focus (have q0 := keepc hw' hce; have q1 := keepc hw' hch; clear hw'; (try simp only [Act.put, sA, sB, sC]); go_simp; (try go_bits); (try (with_reducible rfl)))); (try simp only [Act.put, sA, sB, sC])) | (refine hs_skip rfl rfl ?_; (try simp only [Act.put, sA, sB, sC])))
  refine hs_done ?_
  go_wp2_with fail
  go_ret2
  rw [close_no HGL.out hL]
  exact ⟨rfl, bt HB1.out (bt hbV hS1)⟩
end Go.Proofs.YtmgjcaikldeioaaGreat.Ty
