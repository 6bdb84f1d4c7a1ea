/- Space: Table, Mem, Global. -/
import Derived.Test.YtmgjcaikldeioaaGreatXUe
import Derived.Test.YtmgjcaikldeioaaGreatXGl
namespace Go.Proofs.YtmgjcaikldeioaaGreat.Ty
open Go Go.RowKit Go.Lib Kt Fm Gr

theorem row_max {w : World} {H sz n : Nat} {e : TypeId} {v : Value} {xs : List Value} (h : w.ownsRow H e sz v n xs) : n ≤ 9223372036854775807 := by
 rcases h.2 with ⟨_, rfl⟩ | ⟨g, cap, cur, _, _, _, h1, h2, _⟩
 ·omega
 ·unfold maxLen at h2; omega
/-- A space in memory, with the rows of which less is told. -/
def SpG (w : World) (S0 : Nat) (m : Mod) (GS : List Gt) (BS MS : List Lim) : Prop := ∃ (B : Nat) (TS : List Ft) (tv fv gv bv mv ev : Value), Sp w B S0 m TS ((allTy m).map (tyOf TS)) GS BS MS tv fv gv bv mv (fk m 0).length (fk m 1).length (fk m 2).length (fk m 3).length ev ∧ TS.map (fun x => (x.p, x.r)) = m.types.map (fun x => (x.p, x.r))
theorem SpG.of {w : World} {S0 : Nat} {m : Mod} (h : SpOf w S0 m) : ∃ GS BS MS, SpG w S0 m GS BS MS := by
 obtain ⟨B, TS, GS, BS, MS, tv, fv, gv, bv, mv, ev, h, hm⟩ := h
 exact ⟨GS, BS, MS, B, TS, tv, fv, gv, bv, mv, ev, h, hm⟩
section
variable {w w' : World} {S0 : Nat} {m : Mod} {GS : List Gt} {BS MS : List Lim}
theorem SpG.sp (h : SpG w S0 m GS BS MS) : SpOf w S0 m := by
 obtain ⟨B, TS, tv, fv, gv, bv, mv, ev, h, hm⟩ := h
 exact ⟨B, TS, GS, BS, MS, tv, fv, gv, bv, mv, ev, h, hm⟩
theorem SpG.later (h : SpG w S0 m GS BS MS) (hb : Below w.heap.size w w') : SpG w' S0 m GS BS MS := by
 obtain ⟨B, TS, tv, fv, gv, bv, mv, ev, h, hm⟩ := h
 exact ⟨B, TS, tv, fv, gv, bv, mv, ev, h.later hb, hm⟩
end
def nillim : List Value := [.int .u32 0, .int .i64 0]
def limC : Option Lim → List Value
 | some t => t.cs
 | none => nillim
set_option maxRecDepth 100000 in
set_option maxHeartbeats 4000000 in
theorem at_lim {W : World} {v : Value} {L : List Lim} (h : Sl W 2 Lim.cs v L) (hl : L.length ≤ 9223372036854775807) {i : Nat} (hi : i < 4294967296) :
  Calls Tryz.prog 108 #[v, .int .u32 i] W fun e w' => e = .returned (.tuple #[.agg (limC L[i]?).toArray, .bool (L[i]?).isSome]) ∧ Below W.heap.size W w' := by
 obtain ⟨s, cap, rfl, hs⟩ := h.form
 by_cases hlt : i < L.length
 ·have hlt' : ¬ L.length ≤ i := by omega
  obtain ⟨x, hx⟩ : ∃ x, L[i]? = some x := ⟨_, List.getElem?_eq_getElem hlt⟩
  obtain ⟨g, off, rfl, hg⟩ := hs (by intro e; simp [e] at hlt)
  have HO := zh (show (x.cs.toArray.all (·.oneCell')) = true by simp [Lim.cs, Value.oneCell'])
  have HR := zh (sl_range h hx)
  have HX := zh hx
  clear hx hs h
  go_enter Tryz.func108, Tryz.ntmps108
  go_wp2_with (first | (refine wpList_load_mid rfl 84 _ rfl g _ rfl x.cs _ (keepr ((Below.refl _ _).alloc (Nat.le_refl _) _) HR.out) Tryz.underlying84 rfl sizeLim ?_; simp only [Act.put, sA, sB, sC]) | (first | (refine wl_put (Lies.new _ _ _) x.cs _ _ rfl rfl rfl rfl rfl sizeLim HO.out (fun w5 hL5 hF5 => ?_); have HL5 := zh hL5; have HF5 := zh hF5; clear hL5 hF5; try simp only [Act.put]) | (refine wl_put ((Lies.new _ _ _).alloc _) x.cs _ _ rfl rfl rfl rfl rfl sizeLim HO.out (fun w5 hL5 hF5 => ?_); have HL5 := zh hL5; have HF5 := zh hF5; clear hL5 hF5; try simp only [Act.put])))
  (try simp only [Exit.inBlock, Exit.then])
  exact bodyPost_ret_by (results_ct rfl _ _ _ x.cs _ rfl HL5.out Tryz.underlying84 rfl sizeLim) rfl ⟨by rw [HX.out]; rfl, below_put ((Below.refl _ _).alloc (Nat.le_refl _) _) HF5.out (Nat.le_refl _)⟩
 ·have hlt' : L.length ≤ i := by omega
  have HX := zh (List.getElem?_eq_none hlt')
  have HO := zh (show (nillim.toArray.all (·.oneCell')) = true by simp [nillim, Value.oneCell'])
  clear hs h
  go_enter Tryz.func108, Tryz.ntmps108
  go_wp2_with (first | (refine wl_put (Lies.new _ _ _) nillim _ _ rfl rfl rfl rfl rfl sizeLim HO.out (fun w5 hL5 hF5 => ?_); have HL5 := zh hL5; have HF5 := zh hF5; clear hL5 hF5; try simp only [Act.put]) | (refine wl_put ((Lies.new _ _ _).alloc _) nillim _ _ rfl rfl rfl rfl rfl sizeLim HO.out (fun w5 hL5 hF5 => ?_); have HL5 := zh hL5; have HF5 := zh hF5; clear hL5 hF5; try simp only [Act.put]))
  (try simp only [Exit.inBlock, Exit.then])
  exact bodyPost_ret_by (results_ct rfl _ _ _ nillim _ rfl HL5.out Tryz.underlying84 rfl sizeLim) rfl ⟨by rw [HX.out]; rfl, below_put (((Below.refl _ _).alloc (Nat.le_refl _) _).alloc (by simp) _) HF5.out (Nat.le_refl _)⟩
def nilgt : List Value := [.int .u8 0, .bool false]
def gtC : Option Gt → List Value
 | some t => t.cs
 | none => nilgt
set_option maxRecDepth 100000 in
set_option maxHeartbeats 4000000 in
theorem at_gt {W : World} {v : Value} {L : List Gt} (h : Sl W 2 Gt.cs v L) (hl : L.length ≤ 9223372036854775807) {i : Nat} (hi : i < 4294967296) :
  Calls Tryz.prog 109 #[v, .int .u32 i] W fun e w' => e = .returned (.tuple #[.agg (gtC L[i]?).toArray, .bool (L[i]?).isSome]) ∧ Below W.heap.size W w' := by
 obtain ⟨s, cap, rfl, hs⟩ := h.form
 by_cases hlt : i < L.length
 ·have hlt' : ¬ L.length ≤ i := by omega
  obtain ⟨x, hx⟩ : ∃ x, L[i]? = some x := ⟨_, List.getElem?_eq_getElem hlt⟩
  obtain ⟨g, off, rfl, hg⟩ := hs (by intro e; simp [e] at hlt)
  have HO := zh (show (x.cs.toArray.all (·.oneCell')) = true by simp [Gt.cs, Value.oneCell'])
  have HR := zh (sl_range h hx)
  have HX := zh hx
  clear hx hs h
  go_enter Tryz.func109, Tryz.ntmps109
  go_wp2_with (first | (refine wpList_load_mid rfl 78 _ rfl g _ rfl x.cs _ (keepr ((Below.refl _ _).alloc (Nat.le_refl _) _) HR.out) Tryz.underlying78 rfl sizeGt ?_; simp only [Act.put, sA, sB, sC]) | (first | (refine wl_put (Lies.new _ _ _) x.cs _ _ rfl rfl rfl rfl rfl sizeGt HO.out (fun w5 hL5 hF5 => ?_); have HL5 := zh hL5; have HF5 := zh hF5; clear hL5 hF5; try simp only [Act.put]) | (refine wl_put ((Lies.new _ _ _).alloc _) x.cs _ _ rfl rfl rfl rfl rfl sizeGt HO.out (fun w5 hL5 hF5 => ?_); have HL5 := zh hL5; have HF5 := zh hF5; clear hL5 hF5; try simp only [Act.put])))
  (try simp only [Exit.inBlock, Exit.then])
  exact bodyPost_ret_by (results_ct rfl _ _ _ x.cs _ rfl HL5.out Tryz.underlying78 rfl sizeGt) rfl ⟨by rw [HX.out]; rfl, below_put ((Below.refl _ _).alloc (Nat.le_refl _) _) HF5.out (Nat.le_refl _)⟩
 ·have hlt' : L.length ≤ i := by omega
  have HX := zh (List.getElem?_eq_none hlt')
  have HO := zh (show (nilgt.toArray.all (·.oneCell')) = true by simp [nilgt, Value.oneCell'])
  clear hs h
  go_enter Tryz.func109, Tryz.ntmps109
  go_wp2_with (first | (refine wl_put (Lies.new _ _ _) nilgt _ _ rfl rfl rfl rfl rfl sizeGt HO.out (fun w5 hL5 hF5 => ?_); have HL5 := zh hL5; have HF5 := zh hF5; clear hL5 hF5; try simp only [Act.put]) | (refine wl_put ((Lies.new _ _ _).alloc _) nilgt _ _ rfl rfl rfl rfl rfl sizeGt HO.out (fun w5 hL5 hF5 => ?_); have HL5 := zh hL5; have HF5 := zh hF5; clear hL5 hF5; try simp only [Act.put]))
  (try simp only [Exit.inBlock, Exit.then])
  exact bodyPost_ret_by (results_ct rfl _ _ _ nilgt _ rfl HL5.out Tryz.underlying78 rfl sizeGt) rfl ⟨by rw [HX.out]; rfl, below_put (((Below.refl _ _).alloc (Nat.le_refl _) _).alloc (by simp) _) HF5.out (Nat.le_refl _)⟩
set_option maxRecDepth 100000 in
set_option maxHeartbeats 4000000 in
theorem table_any {W : World} {S0 : Nat} {m : Mod} {GS : List Gt} {BS MS : List Lim} (h : SpG W S0 m GS BS MS) {i : Nat} (hi : i < 4294967296) :
  Calls Tryz.prog 76 #[.pointer (some ⟨S0, 0, none⟩), .int .u32 i] W fun e w' => e = .returned (.tuple #[.agg (limC BS[i]?).toArray, .bool (BS[i]?).isSome]) ∧ Below W.heap.size W w' := by
 obtain ⟨B, TS, tv, fv, gv, bv, mv, ev, hS, _⟩ := h
 obtain ⟨sv, cv, hv, _, _⟩ := row_form hS.b
 subst hv
 have hc : W.cell? ⟨S0, 3, none⟩ = some (.slice sv BS.length cv) := hS.lies.cell 3
 have hlt0 := hS.lies.lt
 have HS := zh hS
 obtain ⟨cs, hcs⟩ : ∃ cs, cs = limC BS[i]? := ⟨_, rfl⟩
 have hone : (cs.toArray.all (·.oneCell')) = true := by
  rw [hcs]
  cases BS[i]? <;> simp [limC, nillim, Lim.cs, Value.oneCell']
 have hlen : cs.length = 2 := by
  rw [hcs]
  cases BS[i]? <;> rfl
 obtain ⟨a0, a1, rfl⟩ : ∃ a0 a1, cs = [a0, a1] := by
  match cs, hlen with
  | [a0, a1], _ => exact ⟨a0, a1, rfl⟩
 have HONE := zh hone
 rw [← hcs]
 have HCS := zh hcs
 clear hS hcs hone hlen
 go_enter Tryz.func76, Tryz.ntmps76
 go_wp2_with fail
 obtain ⟨w1, hw1⟩ : ∃ w1, w1 = W.alloc (.cells #[.int .u32 0, .int .i64 0] 84) := ⟨_, rfl⟩
 have hb1 : Below W.heap.size W w1 := hw1 ▸ (Below.refl _ _).alloc (Nat.le_refl _) _
 have HL1 := zh (show Lies w1 W.heap.size 84 nillim.toArray from hw1 ▸ Lies.new _ _ _)
 have HB1 := zh hb1
 rw [← hw1]
 clear hw1 hb1 hc
 refine (at_lim (own_sl Lim.len (ownsRow_keep HS.out.b HB1.out)) (row_max HS.out.b) hi).mono ?_
 rintro en w2 ⟨rfl, hb2⟩
 rw [← HCS.out]
 have HL2 := zh (HL1.out.below hb2 HL1.out.lt)
 have HB2 := zh (bt HB1.out hb2)
 clear hb2 HL1 HB1 HS
 go_wp2_with (refine wl_put HL2.out [a0, a1] _ _ rfl rfl rfl rfl rfl sizeLim HONE.out (fun w8 hL8 hF8 => ?_); have HL8 := zh hL8; have HF8 := zh hF8; clear hL8 hF8; try simp only [Act.put])
 (try simp only [Exit.inBlock, Exit.then])
 exact bodyPost_ret_by (results_ct rfl _ _ _ [a0, a1] _ rfl HL8.out Tryz.underlying84 rfl sizeLim) rfl ⟨rfl, below_put HB2.out HF8.out (Nat.le_refl _)⟩
set_option maxRecDepth 100000 in
set_option maxHeartbeats 4000000 in
theorem mem_any {W : World} {S0 : Nat} {m : Mod} {GS : List Gt} {BS MS : List Lim} (h : SpG W S0 m GS BS MS) {i : Nat} (hi : i < 4294967296) :
  Calls Tryz.prog 78 #[.pointer (some ⟨S0, 0, none⟩), .int .u32 i] W fun e w' => e = .returned (.tuple #[.agg (limC MS[i]?).toArray, .bool (MS[i]?).isSome]) ∧ Below W.heap.size W w' := by
 obtain ⟨B, TS, tv, fv, gv, bv, mv, ev, hS, _⟩ := h
 obtain ⟨sv, cv, hv, _, _⟩ := row_form hS.m
 subst hv
 have hc : W.cell? ⟨S0, 4, none⟩ = some (.slice sv MS.length cv) := hS.lies.cell 4
 have hlt0 := hS.lies.lt
 have HS := zh hS
 obtain ⟨cs, hcs⟩ : ∃ cs, cs = limC MS[i]? := ⟨_, rfl⟩
 have hone : (cs.toArray.all (·.oneCell')) = true := by
  rw [hcs]
  cases MS[i]? <;> simp [limC, nillim, Lim.cs, Value.oneCell']
 have hlen : cs.length = 2 := by
  rw [hcs]
  cases MS[i]? <;> rfl
 obtain ⟨a0, a1, rfl⟩ : ∃ a0 a1, cs = [a0, a1] := by
  match cs, hlen with
  | [a0, a1], _ => exact ⟨a0, a1, rfl⟩
 have HONE := zh hone
 rw [← hcs]
 have HCS := zh hcs
 clear hS hcs hone hlen
 go_enter Tryz.func78, Tryz.ntmps78
 go_wp2_with fail
 obtain ⟨w1, hw1⟩ : ∃ w1, w1 = W.alloc (.cells #[.int .u32 0, .int .i64 0] 84) := ⟨_, rfl⟩
 have hb1 : Below W.heap.size W w1 := hw1 ▸ (Below.refl _ _).alloc (Nat.le_refl _) _
 have HL1 := zh (show Lies w1 W.heap.size 84 nillim.toArray from hw1 ▸ Lies.new _ _ _)
 have HB1 := zh hb1
 rw [← hw1]
 clear hw1 hb1 hc
 refine (at_lim (own_sl Lim.len (ownsRow_keep HS.out.m HB1.out)) (row_max HS.out.m) hi).mono ?_
 rintro en w2 ⟨rfl, hb2⟩
 rw [← HCS.out]
 have HL2 := zh (HL1.out.below hb2 HL1.out.lt)
 have HB2 := zh (bt HB1.out hb2)
 clear hb2 HL1 HB1 HS
 go_wp2_with (refine wl_put HL2.out [a0, a1] _ _ rfl rfl rfl rfl rfl sizeLim HONE.out (fun w8 hL8 hF8 => ?_); have HL8 := zh hL8; have HF8 := zh hF8; clear hL8 hF8; try simp only [Act.put])
 (try simp only [Exit.inBlock, Exit.then])
 exact bodyPost_ret_by (results_ct rfl _ _ _ [a0, a1] _ rfl HL8.out Tryz.underlying84 rfl sizeLim) rfl ⟨rfl, below_put HB2.out HF8.out (Nat.le_refl _)⟩
set_option maxRecDepth 100000 in
set_option maxHeartbeats 4000000 in
theorem glob_any {W : World} {S0 : Nat} {m : Mod} {GS : List Gt} {BS MS : List Lim} (h : SpG W S0 m GS BS MS) {i : Nat} (hi : i < 4294967296) :
  Calls Tryz.prog 79 #[.pointer (some ⟨S0, 0, none⟩), .int .u32 i] W fun e w' => e = .returned (.tuple #[.agg (gtC GS[i]?).toArray, .bool (GS[i]?).isSome]) ∧ Below W.heap.size W w' := by
 obtain ⟨B, TS, tv, fv, gv, bv, mv, ev, hS, _⟩ := h
 obtain ⟨sv, cv, hv, _, _⟩ := row_form hS.g
 subst hv
 have hc : W.cell? ⟨S0, 2, none⟩ = some (.slice sv GS.length cv) := hS.lies.cell 2
 have hlt0 := hS.lies.lt
 have HS := zh hS
 obtain ⟨cs, hcs⟩ : ∃ cs, cs = gtC GS[i]? := ⟨_, rfl⟩
 have hone : (cs.toArray.all (·.oneCell')) = true := by
  rw [hcs]
  cases GS[i]? <;> simp [gtC, nilgt, Gt.cs, Value.oneCell']
 have hlen : cs.length = 2 := by
  rw [hcs]
  cases GS[i]? <;> rfl
 obtain ⟨a0, a1, rfl⟩ : ∃ a0 a1, cs = [a0, a1] := by
  match cs, hlen with
  | [a0, a1], _ => exact ⟨a0, a1, rfl⟩
 have HONE := zh hone
 rw [← hcs]
 have HCS := zh hcs
 clear hS hcs hone hlen
 go_enter Tryz.func79, Tryz.ntmps79
 go_wp2_with fail
 obtain ⟨w1, hw1⟩ : ∃ w1, w1 = W.alloc (.cells #[.int .u8 0, .bool false] 78) := ⟨_, rfl⟩
 have hb1 : Below W.heap.size W w1 := hw1 ▸ (Below.refl _ _).alloc (Nat.le_refl _) _
 have HL1 := zh (show Lies w1 W.heap.size 78 nilgt.toArray from hw1 ▸ Lies.new _ _ _)
 have HB1 := zh hb1
 rw [← hw1]
 clear hw1 hb1 hc
 refine (at_gt (own_sl Gt.len (ownsRow_keep HS.out.g HB1.out)) (row_max HS.out.g) hi).mono ?_
 rintro en w2 ⟨rfl, hb2⟩
 rw [← HCS.out]
 have HL2 := zh (HL1.out.below hb2 HL1.out.lt)
 have HB2 := zh (bt HB1.out hb2)
 clear hb2 HL1 HB1 HS
 go_wp2_with (refine wl_put HL2.out [a0, a1] _ _ rfl rfl rfl rfl rfl sizeGt HONE.out (fun w8 hL8 hF8 => ?_); have HL8 := zh hL8; have HF8 := zh hF8; clear hL8 hF8; try simp only [Act.put])
 (try simp only [Exit.inBlock, Exit.then])
 exact bodyPost_ret_by (results_ct rfl _ _ _ [a0, a1] _ rfl HL8.out Tryz.underlying78 rfl sizeGt) rfl ⟨rfl, below_put HB2.out HF8.out (Nat.le_refl _)⟩
end Go.Proofs.YtmgjcaikldeioaaGreat.Ty
