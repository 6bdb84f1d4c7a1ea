/- Space: a type in memory of its own; what stands at a place; the imports of a kind. -/
import Derived.Test.YtmgjcaikldeioaaGreatXGb
import Derived.Test.YtmgjcaikldeioaaGreatXGc
import Derived.Test.YtmgjcaikldeioaaGreatXPs
namespace Go.Proofs.YtmgjcaikldeioaaGreat.Gr
open Go Go.RowKit Go.Lib Kt Fm

/-- .. the operation alone. -/
theorem wp_put {P : Program} {op : Oper} {a : Act} {w : World} {K : Act → World → Prop} {Q : Exit → Act → World → Prop} {ty : TypeId} {b : Nat} {c0 : Array Value} (hl : Lies w b ty c0) (cs : List Value) (x y : Operand) (ho : op.op = .store ty x y)
  (hx : a.eval x = .pointer (some ⟨b, 0, none⟩)) (hy : a.eval y = .agg cs.toArray) (hs : c0.size = cs.length) (hi : (P.info? ty).map (·.size) = some cs.length) (h1 : cs.toArray.all (·.oneCell') = true)
  (h : ∀ w', Lies w' b ty cs.toArray → Fr w w' (fun k => k = b) → K (a.put op.dst undef) w') : op.wp P a w K Q := by
 have ht : w.there b 0 cs.length := fun j hj => by
  rw [Nat.zero_add]
  exact ⟨by rw [hl.cell, Array.getElem?_eq_getElem (by omega)]; rfl, hl.frozen j⟩
 refine wp_store_mid ty x y ho b 0 cs.toArray hx hy (by simpa using ht) (by simpa using hi) h1 (h _ ?_ ⟨World.os_setCells _ _ _ _, tape_setCells _ _ _ _, World.output_setCells _ _ _ _, Nat.le_of_eq (size_setCells _ _ _ _).symm, fun k hk hn => World.heap_setCells_other w b _ cs hk hn⟩)
 obtain ⟨cur, g1, g2, _⟩ := heap_setCells cs 0 w c0 hl
 have hr := World.rangeAt_setCells_same w b 0 cs ht
 have hcur : cur = cs.toArray := by
  refine Array.ext_getElem? fun j => ?_
  by_cases hj : j < cs.length
  ·have := hr j cs[j] (List.getElem?_eq_getElem hj)
   rw [Nat.zero_add] at this
   have h2 : cur[j]? = some cs[j] := by simpa [World.cell?, g1] using this
   rw [h2]
   simp [hj]
  ·rw [Array.getElem?_eq_none (by omega), Array.getElem?_eq_none (by simpa using Nat.le_of_not_lt hj)]
 rw [hcur] at g1
 exact g1
/-- A result in a block. -/
theorem results_c {P : Program} {fn : Func} {p : Tmp} {ty : TypeId} (h : fn.results = #[.cell p ty]) (tmps : Array Value) (w : World) (g : Nat) (cs : List Value) (d : TypeDesc) (hp : tmps.getD p undef = .pointer (some ⟨g, 0, none⟩)) (hc : Lies w g ty cs.toArray)
  (hu : P.underlying ty = some d) (hd : d.isRow = true) (hi : (P.info? ty).map (·.size) = some cs.length) : (results fn tmps).run P w = .ok (.agg cs.toArray) w := by
 have hr : w.rangeAt g 0 cs := fun i u hi => by rw [Nat.zero_add, hc.cell]; simpa using hi
 have hv := run_loadVar_mid (P := P) w g 0 ty cs d hr hu hd hi
 have hp' : tmps[p]?.getD undef = .pointer (some ⟨g, 0, none⟩) := by simpa using hp
 simp [results, h, hp', asAddr, hv]
/-- The bytes lie in blocks from B on. -/
def FtAbove (B : Nat) (x : Ft) : Prop := (∀ k, x.pv.ownBlock = some k → B ≤ k) ∧ (∀ k, x.rv.ownBlock = some k → B ≤ k) ∧ ∀ k, x.pv.ownBlock = some k → x.rv.ownBlock ≠ some k
/-- A type whose bytes lie in blocks of bytes. -/
def FtOwn (w : World) (x : Ft) : Prop := WRow w (fun _ => True) 5 1 x.pv x.p.length (x.p.flatMap u8c) ∧ WRow w (fun _ => True) 5 1 x.rv x.r.length (x.r.flatMap u8c)
theorem FtOwn.ok {w : World} {x : Ft} (h : FtOwn w x) (hp : x.p.length ≤ Bd) (hr : x.r.length ≤ Bd) : FtOk w x := ⟨⟨h.1.sl (fun _ => rfl), fun _ _ => trivial, hp⟩, ⟨h.2.sl (fun _ => rfl), fun _ _ => trivial, hr⟩⟩
theorem FtOwn.later {w w' : World} {x : Ft} (h : FtOwn w x) (hb : Below w.heap.size w w') : FtOwn w' x := ⟨h.1.kept (m := fun _ => False) (Fr.of_below hb _) (fun _ _ _ h => h), h.2.kept (m := fun _ => False) (Fr.of_below hb _) (fun _ _ _ h => h)⟩
/-- .. stays where a block of another kind turns. -/
theorem FtOwn.grown {w w' : World} {x : Ft} {g : Option Nat} (h : FtOwn w x) (hg : w.grownBy w' g) (hty : ∀ k cur, g = some k → w.heap[k]? = some (.cells cur 5 (0, 0)) → False) : FtOwn w' x := by
 have hf : Fr w w' (fun k => some k = g) := Fr.of_grown hg
 refine ⟨h.1.kept hf (fun k _ hk e => ?_), h.2.kept hf (fun k _ hk e => ?_)⟩
 ·obtain ⟨_, _, cur, hc⟩ := wrow_lt h.1 hk.symm
  exact hty k cur e.symm hc
 ·obtain ⟨_, _, cur, hc⟩ := wrow_lt h.2 hk.symm
  exact hty k cur e.symm hc
theorem FtOwn.nil (w : World) : FtOwn w ⟨.slice none 0 0, [], .slice none 0 0, []⟩ := ⟨WRow.nil _ _ _ _, WRow.nil _ _ _ _⟩
theorem fr_cell {W W' : World} {m : Nat → Prop} {b o : Nat} {v : Value} (hf : Fr W W' m) (hn : ¬ m b) (h : W.cell? ⟨b, o, none⟩ = some v) : W'.cell? ⟨b, o, none⟩ = some v := by
 have hb := hf.block b (World.block_lt_of_cell? W _ h) hn
 simp only [World.cell?, hb]
 exact h
theorem own_sl {α : Type} {w : World} {base : Nat} {e : TypeId} {sz : Nat} {en : α → List Value} {v : Value} {L : List α} (hlen : ∀ x, (en x).length = sz) (h : w.ownsRow base e sz v L.length (L.flatMap en)) : Sl w sz en v L := (WRow.of_own (own := fun k => base ≤ k) h (fun _ h => h)).sl hlen

set_option maxRecDepth 100000 in
set_option maxHeartbeats 4000000 in
theorem own_any {W : World} {x : Ft} (hx : FtOk W x) :
  Calls Tryz.prog 56 #[.agg x.cs.toArray] W fun e w' => ∃ x', e = .returned (.agg x'.cs.toArray) ∧ FtOwn w' x' ∧ x'.p = x.p ∧ x'.r = x.r ∧ Below W.heap.size W w' ∧ FtAbove W.heap.size x' := by
 have HX := zh hx
 clear hx
 go_enter Tryz.func56, Tryz.ntmps56
 go_wp2_with (refine wl_box x.cs _ rfl rfl rfl (fun w1 hb1 hl1 => ?_); have HB1 := zh hb1; have HL1 := zh hl1; clear hb1 hl1; simp only [Act.put, sA, sB, sC])
 obtain ⟨w2, hw2⟩ : ∃ w2, w2 = w1.alloc (.cells #[.slice none 0 0, .slice none 0 0] 51) := ⟨_, rfl⟩
 have hb2 : Below w1.heap.size w1 w2 := hw2 ▸ (Below.refl _ _).alloc (Nat.le_refl _) _
 have hl2 : Lies w2 w1.heap.size 51 nilFt.toArray := hw2 ▸ Lies.new _ _ _
 rw [← hw2]
 clear hw2
 have hr : W.heap.size < w1.heap.size := HL1.out.lt
 have hc0 : w2.cell? ⟨W.heap.size, 0, none⟩ = some x.pv := keepc hb2 (HL1.out.cell 0)
 have hc1 : w2.cell? ⟨W.heap.size, 1, none⟩ = some x.rv := keepc hb2 (HL1.out.cell 1)
 have hB2 := bt HB1.out hb2
 clear hb2 HL1 HB1
 generalize w1.heap.size = r at hl2 hr ⊢
 refine wp_region_t [(0, 1), (1, 1), (3, 1), (4, 1), (2, 0), (5, 0), (6, 1), (7, 0)] (fun w' => w'.cell? ⟨W.heap.size, 0, none⟩ = some x.pv ∧ w'.cell? ⟨W.heap.size, 1, none⟩ = some x.rv) [] [] rfl (by kernel_rfl) (by kernel_rfl) (fun _ _ d _ _ h => by cases d <;> exact h) ⟨hc0, hc1⟩ (fun p hp => by cases hp) ?_
 replace hB2 : Below W.heap.size W w2.drew := ⟨hB2.os, hB2.tape, hB2.output, hB2.size, hB2.block⟩
 replace hl2 : Lies w2.drew r 51 nilFt.toArray := hl2
 replace hc0 : w2.drew.cell? ⟨W.heap.size, 0, none⟩ = some x.pv := hc0
 replace hc1 : w2.drew.cell? ⟨W.heap.size, 1, none⟩ = some x.rv := hc1
 generalize w2.drew = V at hB2 hl2 hc0 hc1 ⊢
 have HL := zh hl2
 have HB := zh hB2
 clear hl2 hB2
 repeat (first | (refine ts_take (v := ?_) rfl rfl (fun w' hw' => ?_) ?_; rotate_left; (focus (obtain ⟨q0, q1⟩ := hw'; (try simp only [Act.put, sA, sB, sC]); go_simp; (try go_bits); (try (with_reducible rfl)))); (try simp only [Act.put, sA, sB, sC])) | (refine ts_skip rfl rfl ?_; (try simp only [Act.put, sA, sB, sC])))
 refine ts_run rfl (fun K hK => ?_)
 go_simp
 refine (clone_u8 (HX.out.1.1.later HB.out) (Nat.le_trans HX.out.1.2.2 (by decide))).mono ?_
 rintro en w3 ⟨v1, rfl, ho1, hb3⟩
 replace hc0 := keepc hb3 hc0
 replace hc1 := keepc hb3 hc1
 have HL3 := zh (HL.out.below hb3 HL.out.lt)
 have HO1 := zh (WRow.of_own (own := fun k => r < k) ho1 (fun k hk => by have := HL.out.lt; omega))
 have HB3 := zh (bt HB.out hb3)
 refine hK.out _ _ ⟨hc0, hc1⟩ (still_none _ _) ?_
 clear hK K HL HB ho1 hb3
 (try simp only [Act.put, sA, sB, sC])
 refine ts_run rfl (fun K hK => ?_)
 go_simp
 refine (clone_u8 (HX.out.2.1.later HB3.out) (Nat.le_trans HX.out.2.2.2 (by decide))).mono ?_
 rintro en w4 ⟨v2, rfl, ho2, hb4⟩
 replace hc0 := keepc hb4 hc0
 replace hc1 := keepc hb4 hc1
 have HL4 := zh (HL3.out.below hb4 HL3.out.lt)
 have HO2 := zh (WRow.of_own (own := fun k => r < k) ho2 (fun k hk => by have := HL3.out.lt; omega))
 have HNE := zh (show ∀ k, v1.ownBlock = some k → v2.ownBlock ≠ some k from fun k h1 h2 => by have := (wrow_lt HO1.out h1).1; have := (wrow_lt (WRow.of_own (own := fun k => w3.heap.size ≤ k) ho2 (fun _ hk => hk)) h2).2.1; omega)
 have HO3 := zh (HO1.out.kept (m := fun _ => False) (Fr.of_below hb4 _) (fun _ _ _ h => h))
 have HB4 := zh (bt HB3.out hb4)
 refine hK.out _ _ ⟨hc0, hc1⟩ (still_none _ _) ?_
 clear hK K HL3 HB3 ho2 hb4 HO1
 (try simp only [Act.put, sA, sB, sC])
 obtain ⟨s1, c1, rfl, _⟩ := HO3.out.form
 obtain ⟨s2, c2, rfl, _⟩ := HO2.out.form
 repeat (first | (refine ts_take (v := ?_) rfl rfl (fun w' hw' => ?_) ?_; rotate_left; (focus (obtain ⟨q0, q1⟩ := hw'; (try simp only [Act.put, sA, sB, sC]); go_simp; (try go_bits); (try (with_reducible rfl)))); (try simp only [Act.put, sA, sB, sC])) | (refine ts_skip rfl rfl ?_; (try simp only [Act.put, sA, sB, sC])))
 refine ts_run1 rfl rfl (fun K hK => ?_)
 refine wp_put HL4.out (Ft.cs ⟨.slice s1 x.p.length c1, x.p, .slice s2 x.r.length c2, x.r⟩) _ _ rfl rfl rfl rfl sizeFt (by simp [Ft.cs, Value.oneCell']) (fun w5 hl5 hf5 => ?_)
 have hne : ¬ W.heap.size = r := by omega
 refine hK.out _ _ ⟨fr_cell hf5 hne hc0, fr_cell hf5 hne hc1⟩ (still_none _ _) ?_
 refine ts_done ?_
 have hk1 := (HO3.out.kept hf5 (fun k hk _ e => by omega)).mono (own' := fun _ => True) (fun _ _ _ => trivial)
 have hk2 := (HO2.out.kept hf5 (fun k hk _ e => by omega)).mono (own' := fun _ => True) (fun _ _ _ => trivial)
 have HF := zh (show FtOwn w5 ⟨.slice s1 x.p.length c1, x.p, .slice s2 x.r.length c2, x.r⟩ from ⟨hk1, hk2⟩)
 have HAB := zh (show FtAbove W.heap.size ⟨.slice s1 x.p.length c1, x.p, .slice s2 x.r.length c2, x.r⟩ from ⟨fun k hk => by have := (wrow_lt HO3.out hk).2.1; omega, fun k hk => by have := (wrow_lt HO2.out hk).2.1; omega, HNE.out⟩)
 have HL5 := zh hl5
 have HB5 := zh (below_put HB4.out hf5 (by omega))
 clear hK K hl5 hf5 hk1 hk2 HO2 HO3 HL4 HB4 hc0 hc1
 (try simp only [Act.put])
 go_wp2_with fail
 (try simp only [Exit.inBlock, Exit.then])
 exact bodyPost_ret_by (results_c rfl _ _ r _ _ rfl HL5.out Tryz.underlying51 rfl sizeFt) rfl ⟨_, rfl, HF.out, rfl, rfl, HB5.out, HAB.out⟩

set_option maxRecDepth 100000 in
set_option maxHeartbeats 4000000 in
theorem at_ft {W : World} {v : Value} {L : List Ft} (h : Sl W 2 Ft.cs v L) (hok : ∀ x ∈ L, FtOk W x) (hl : L.length ≤ 4194304) {i : Nat} (hi : i < 4294967296) :
  Calls Tryz.prog 62 #[v, .int .u32 i] W fun e w' => e = .returned (.tuple #[.agg (ftC L[i]?).toArray, .bool (L[i]?).isSome]) ∧ Below W.heap.size W w' := by
 obtain ⟨s, cap, rfl, hs⟩ := h.form
 by_cases hlt : i < L.length
 ·have hlt' : ¬ L.length ≤ i := by omega
  obtain ⟨x, hx⟩ : ∃ x, L[i]? = some x := ⟨_, List.getElem?_eq_getElem hlt⟩
  obtain ⟨g, off, rfl, hg⟩ := hs (by intro e; simp [e] at hlt)
  have HO := zh (oneFt (hok x (List.mem_of_getElem? hx)))
  have HR := zh (sl_range h hx)
  have HX := zh hx
  clear hx hs h hok
  go_enter Tryz.func62, Tryz.ntmps62
  go_wp2_with (first | (refine wpList_load_mid rfl 51 _ rfl g _ rfl x.cs _ (keepr ((Below.refl _ _).alloc (Nat.le_refl _) _) HR.out) Tryz.underlying51 rfl sizeFt ?_; simp only [Act.put, sA, sB, sC]) | (first | (refine wl_put (Lies.new _ _ _) x.cs _ _ rfl rfl rfl rfl rfl sizeFt HO.out (fun w5 hL5 hF5 => ?_); have HL5 := zh hL5; have HF5 := zh hF5; clear hL5 hF5; try simp only [Act.put]) | (refine wl_put ((Lies.new _ _ _).alloc _) x.cs _ _ rfl rfl rfl rfl rfl sizeFt HO.out (fun w5 hL5 hF5 => ?_); have HL5 := zh hL5; have HF5 := zh hF5; clear hL5 hF5; try simp only [Act.put])))
  (try simp only [Exit.inBlock, Exit.then])
  exact bodyPost_ret_by (results_ct rfl _ _ _ x.cs _ rfl HL5.out Tryz.underlying51 rfl sizeFt) rfl ⟨by rw [HX.out]; rfl, below_put ((Below.refl _ _).alloc (Nat.le_refl _) _) HF5.out (Nat.le_refl _)⟩
 ·have hlt' : L.length ≤ i := by omega
  have HX := zh (List.getElem?_eq_none hlt')
  clear hs h hok
  go_enter Tryz.func62, Tryz.ntmps62
  go_wp2_with (first | (refine wl_put (Lies.new _ _ _) nilFt _ _ rfl rfl rfl rfl rfl sizeFt oneNil (fun w5 hL5 hF5 => ?_); have HL5 := zh hL5; have HF5 := zh hF5; clear hL5 hF5; try simp only [Act.put]) | (refine wl_put ((Lies.new _ _ _).alloc _) nilFt _ _ rfl rfl rfl rfl rfl sizeFt oneNil (fun w5 hL5 hF5 => ?_); have HL5 := zh hL5; have HF5 := zh hF5; clear hL5 hF5; try simp only [Act.put]))
  (try simp only [Exit.inBlock, Exit.then])
  exact bodyPost_ret_by (results_ct rfl _ _ _ nilFt _ rfl HL5.out Tryz.underlying51 rfl sizeFt) rfl ⟨by rw [HX.out]; rfl, below_put (((Below.refl _ _).alloc (Nat.le_refl _) _).alloc (by simp) _) HF5.out (Nat.le_refl _)⟩

/-- A function's type, if it has one. -/
structure Ty where
 (ft : Ft) (ok : Bool)
def Ty.cs (x : Ty) : List Value := [x.ft.pv, x.ft.rv, .bool x.ok]
theorem Ty.len (x : Ty) : x.cs.length = 3 := rfl
def TyOk (w : World) (x : Ty) : Prop := FtOk w x.ft
def nilTy : List Value := [.slice none 0 0, .slice none 0 0, .bool false]
theorem oneNilTy : (nilTy.toArray.all (·.oneCell')) = true := by simp [nilTy, Value.oneCell']
theorem oneTy {w : World} {x : Ty} (h : TyOk w x) : (x.cs.toArray.all (·.oneCell')) = true := by
 obtain ⟨s1, c1, e1, _⟩ := h.1.1.form
 obtain ⟨s2, c2, e2, _⟩ := h.2.1.form
 simp [Ty.cs, e1, e2, Value.oneCell']
theorem sizeTy : (Tryz.prog.info? 129).map (·.size) = some 3 := by kernel_rfl
def tyC : Option Ty → List Value
 | some t => t.cs
 | none => nilTy

set_option maxRecDepth 100000 in
set_option maxHeartbeats 4000000 in
theorem at_ty {W : World} {v : Value} {L : List Ty} (h : Sl W 3 Ty.cs v L) (hok : ∀ x ∈ L, TyOk W x) (hl : L.length ≤ 4194304) {i : Nat} (hi : i < 4294967296) :
  Calls Tryz.prog 63 #[v, .int .u32 i] W fun e w' => e = .returned (.tuple #[.agg (tyC L[i]?).toArray, .bool (L[i]?).isSome]) ∧ Below W.heap.size W w' := by
 obtain ⟨s, cap, rfl, hs⟩ := h.form
 by_cases hlt : i < L.length
 ·have hlt' : ¬ L.length ≤ i := by omega
  obtain ⟨x, hx⟩ : ∃ x, L[i]? = some x := ⟨_, List.getElem?_eq_getElem hlt⟩
  obtain ⟨g, off, rfl, hg⟩ := hs (by intro e; simp [e] at hlt)
  have HO := zh (oneTy (hok x (List.mem_of_getElem? hx)))
  have HR := zh (sl_range h hx)
  have HX := zh hx
  clear hx hs h hok
  go_enter Tryz.func63, Tryz.ntmps63
  go_wp2_with (first | (refine wpList_load_mid rfl 129 _ rfl g _ rfl x.cs _ (keepr ((Below.refl _ _).alloc (Nat.le_refl _) _) HR.out) Tryz.underlying129 rfl sizeTy ?_; simp only [Act.put, sA, sB, sC]) | (first | (refine wl_put (Lies.new _ _ _) x.cs _ _ rfl rfl rfl rfl rfl sizeTy HO.out (fun w5 hL5 hF5 => ?_); have HL5 := zh hL5; have HF5 := zh hF5; clear hL5 hF5; try simp only [Act.put]) | (refine wl_put ((Lies.new _ _ _).alloc _) x.cs _ _ rfl rfl rfl rfl rfl sizeTy HO.out (fun w5 hL5 hF5 => ?_); have HL5 := zh hL5; have HF5 := zh hF5; clear hL5 hF5; try simp only [Act.put])))
  (try simp only [Exit.inBlock, Exit.then])
  exact bodyPost_ret_by (results_ct rfl _ _ _ x.cs _ rfl HL5.out Tryz.underlying129 rfl sizeTy) rfl ⟨by rw [HX.out]; rfl, below_put ((Below.refl _ _).alloc (Nat.le_refl _) _) HF5.out (Nat.le_refl _)⟩
 ·have hlt' : L.length ≤ i := by omega
  have HX := zh (List.getElem?_eq_none hlt')
  clear hs h hok
  go_enter Tryz.func63, Tryz.ntmps63
  go_wp2_with (first | (refine wl_put (Lies.new _ _ _) nilTy _ _ rfl rfl rfl rfl rfl sizeTy oneNilTy (fun w5 hL5 hF5 => ?_); have HL5 := zh hL5; have HF5 := zh hF5; clear hL5 hF5; try simp only [Act.put]) | (refine wl_put ((Lies.new _ _ _).alloc _) nilTy _ _ rfl rfl rfl rfl rfl sizeTy oneNilTy (fun w5 hL5 hF5 => ?_); have HL5 := zh hL5; have HF5 := zh hF5; clear hL5 hF5; try simp only [Act.put]))
  (try simp only [Exit.inBlock, Exit.then])
  exact bodyPost_ret_by (results_ct rfl _ _ _ nilTy _ rfl HL5.out Tryz.underlying129 rfl sizeTy) rfl ⟨by rw [HX.out]; rfl, below_put (((Below.refl _ _).alloc (Nat.le_refl _) _).alloc (by simp) _) HF5.out (Nat.le_refl _)⟩

set_option maxRecDepth 100000 in
theorem kind_function {W : World} (x : Imp) :
  Calls Tryz.prog 58 #[.agg x.cs.toArray] W fun e w' => e = .returned (.bool (x.kind == 0)) ∧ Below W.heap.size W w' := by
 have hq := u8b x.kind 0
 go_enter Tryz.func58, Tryz.ntmps58
 go_wp2_with (refine wl_box x.cs _ rfl rfl rfl (fun w1 hb1 hl1 => ?_); have HB1 := zh hb1; have hc : w1.cell? ⟨W.heap.size, 2, none⟩ = some (.int .u8 x.kind.toNat) := hl1.cell 2; clear hb1 hl1; simp only [Act.put, sA, sB, sC])
 go_ret
 exact ⟨congrArg (fun b => Ending.returned (.bool b)) hq, HB1.out⟩

set_option maxRecDepth 100000 in
theorem kind_table {W : World} (x : Imp) :
  Calls Tryz.prog 59 #[.agg x.cs.toArray] W fun e w' => e = .returned (.bool (x.kind == 1)) ∧ Below W.heap.size W w' := by
 have hq := u8b x.kind 1
 go_enter Tryz.func59, Tryz.ntmps59
 go_wp2_with (refine wl_box x.cs _ rfl rfl rfl (fun w1 hb1 hl1 => ?_); have HB1 := zh hb1; have hc : w1.cell? ⟨W.heap.size, 2, none⟩ = some (.int .u8 x.kind.toNat) := hl1.cell 2; clear hb1 hl1; simp only [Act.put, sA, sB, sC])
 go_ret
 exact ⟨congrArg (fun b => Ending.returned (.bool b)) hq, HB1.out⟩

set_option maxRecDepth 100000 in
theorem kind_memory {W : World} (x : Imp) :
  Calls Tryz.prog 60 #[.agg x.cs.toArray] W fun e w' => e = .returned (.bool (x.kind == 2)) ∧ Below W.heap.size W w' := by
 have hq := u8b x.kind 2
 go_enter Tryz.func60, Tryz.ntmps60
 go_wp2_with (refine wl_box x.cs _ rfl rfl rfl (fun w1 hb1 hl1 => ?_); have HB1 := zh hb1; have hc : w1.cell? ⟨W.heap.size, 2, none⟩ = some (.int .u8 x.kind.toNat) := hl1.cell 2; clear hb1 hl1; simp only [Act.put, sA, sB, sC])
 go_ret
 exact ⟨congrArg (fun b => Ending.returned (.bool b)) hq, HB1.out⟩

set_option maxRecDepth 100000 in
theorem kind_global {W : World} (x : Imp) :
  Calls Tryz.prog 61 #[.agg x.cs.toArray] W fun e w' => e = .returned (.bool (x.kind == 3)) ∧ Below W.heap.size W w' := by
 have hq := u8b x.kind 3
 go_enter Tryz.func61, Tryz.ntmps61
 go_wp2_with (refine wl_box x.cs _ rfl rfl rfl (fun w1 hb1 hl1 => ?_); have HB1 := zh hb1; have hc : w1.cell? ⟨W.heap.size, 2, none⟩ = some (.int .u8 x.kind.toNat) := hl1.cell 2; clear hb1 hl1; simp only [Act.put, sA, sB, sC])
 go_ret
 exact ⟨congrArg (fun b => Ending.returned (.bool b)) hq, HB1.out⟩
end Go.Proofs.YtmgjcaikldeioaaGreat.Gr
