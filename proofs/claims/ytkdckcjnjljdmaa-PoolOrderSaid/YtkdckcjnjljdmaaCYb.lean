/- world.New. -/
import Derived.Test.YtkdckcjnjljdmaaCYa
namespace Go.Proofs.Ytkdckcjnjljdmaa.Wd
open Go Go.RowKit Go.Lib Kt Fm Ad Kv Ac
open Po (bc)

section
variable {P : Program} {op : Oper} {a : Act} {w : World} {K : Act → World → Prop} {Q : Exit → Act → World → Prop}
theorem wp_box {ty : TypeId} (cs : List Value) (p : Operand) (ho : op.op = .box ty p) (hx : a.eval p = .agg cs.toArray)
    (hk : ∀ w1, Below w.heap.size w w1 → Lies w1 w.heap.size ty cs.toArray → K (a.put op.dst (.pointer (some ⟨w.heap.size, 0, none⟩))) w1) : op.wp P a w K Q := by
  unfold Oper.wp execOp
  simp only [ho, hx]
  go_simp
  exact hk _ ((Below.refl _ _).alloc (Nat.le_refl _) _) (Lies.new w _ _)
end
theorem gen_addr {w : World} {B : Nat} {c : A8} {s : Option Go.Addr} {n cap : Nat} (h : Lies w B 26 (Gen.cs c s n cap).toArray) : w.rangeAt B 0 c.cs := fun i u hi => by
  refine lies_range h i u ?_
  match i, hi with
  | 0, hi => exact hi
  | 1, hi => exact hi
  | 2, hi => exact hi
  | 3, hi => exact hi
  | 4, hi => exact hi
  | 5, hi => exact hi
  | 6, hi => exact hi
  | 7, hi => exact hi
  | i + 8, hi => cases hi
/-- What world.New tells of a genesis. -/
def NewSays (c : A8) (l : List Acc) (W : World) (e : Ending) (w' : World) : Prop :=
  ((gen l).1 ≠ 0 ∧ e = .returned (.tuple #[.pointer none, .int .i64 (gen l).1]) ∧ Below W.heap.size W w') ∨
  ((gen l).1 = 0 ∧ ∃ wp bl bm bk bb, e = .returned (.tuple #[.pointer (some ⟨wp, 0, none⟩), .int .i64 0]) ∧ WAt w' wp bl bm c bk bb (.slice none 0 0) (.slice none 0 0) (gen l).2 ∧ W.heap.size ≤ wp ∧ W.heap.size ≤ bl ∧ W.heap.size ≤ bm ∧ Below W.heap.size W w')
theorem genGo_bad {x : Acc} {r : List Acc} {p : Option A8} {L : List Ent} (h : (∃ q, p = some q ∧ ¬ Lib.compareBytes q.l x.e.a.l < 0) ∨ 0 < x.cl + x.sl) : genGo (x :: r) p L = (2, L) := by rw [genGo, if_pos h]
theorem genGo_good {x : Acc} {r : List Acc} {p : Option A8} {L : List Ent} (h : ¬ ((∃ q, p = some q ∧ ¬ Lib.compareBytes q.l x.e.a.l < 0) ∨ 0 < x.cl + x.sl)) : genGo (x :: r) p L = genGo r (some x.e.a) (put x.e L) := by rw [genGo, if_neg h]
theorem drop_more {α : Type} {l : List α} {k : Nat} {x : α} (h : l[k]? = some x) : l.drop k = x :: l.drop (k + 1) := by
  obtain ⟨h1, h2⟩ := List.getElem?_eq_some_iff.1 h
  rw [← h2]
  exact List.drop_eq_getElem_cons h1
theorem acc_at {w : World} {B : Nat} {x : Acc} (h : Lies w B 72 x.cs.toArray) : w.cell? ⟨B, 8, none⟩ = some (.int .u64 x.e.b) ∧ w.cell? ⟨B, 9, none⟩ = some (.int .u64 x.e.n) ∧ w.cell? ⟨B, 10, none⟩ = some (.slice x.cp x.cl x.cc) ∧ w.cell? ⟨B, 11, none⟩ = some (.slice x.sp x.sl x.sc) := ⟨h.cell 8, h.cell 9, h.cell 10, h.cell 11⟩
/-- The rounds' state. -/
structure NewAt (W : World) (c : A8) (l : List Acc) (s : Option Go.Addr) (cap Bg wp bl bm bk bb : Nat) (k : Nat) (L : List Ent) (wr : World) : Prop where
  eq : gen l = genGo (l.drop k) (prevA l k) L
  len : L.length ≤ k
  box : Lies wr Bg 26 (Gen.cs c s l.length cap).toArray
  at_ : WAt wr wp bl bm c bk bb (.slice none 0 0) (.slice none 0 0) L
  below : Below W.heap.size W wr
theorem NewAt.later {W : World} {c : A8} {l : List Acc} {s : Option Go.Addr} {cap Bg wp bl bm bk bb k : Nat} {L : List Ent} {wr w' : World} (h : NewAt W c l s cap Bg wp bl bm bk bb k L wr) (hb : Below wr.heap.size wr w') : NewAt W c l s cap Bg wp bl bm bk bb k L w' := ⟨h.eq, h.len, h.box.below hb h.box.lt, h.at_.later hb, bt h.below hb⟩
set_option maxRecDepth 100000 in
set_option maxHeartbeats 16000000 in
theorem wnew_any {W : World} {c : A8} {s : Option Go.Addr} {cap : Nat} {l : List Acc} (hs : Sl W 12 Acc.cs (.slice s l.length cap) l) (hok : ∀ x ∈ l, AccOk x) (hl : l.length ≤ 2000000000000) : Calls Try.prog 6 #[.agg (Gen.cs c s l.length cap).toArray] W fun e w' => NewSays c l W e w' := by
  have HS := Lib.hid hs
  have HO := Lib.hid hok
  obtain ⟨_, _, e0, hf⟩ := hs.form
  cases e0
  have HF := Lib.hid hf
  clear hs hok hf
  go_enter Try.func6, Try.ntmps6
  go_upto_region 1 with (refine wl_box (Gen.cs c s l.length cap) _ rfl rfl rfl (fun w1 hbw1 hlw1 => ?_); have HB1 := Lib.hid (hbw1); have HLB := Lib.hid hlw1; obtain ⟨B, hBw1⟩ : ∃ B, B = W.heap.size := ⟨_, rfl⟩; rw [← hBw1] at HLB ⊢; clear hBw1 hbw1 hlw1; (try simp only [Act.put, List.setIfInBounds_toArray, List.set_cons_zero, List.set_cons_succ]))
  refine wp_region_t [(0, 1), (1, 1), (2, 0), (3, 0), (4, 0), (5, 1), (6, 0), (7, 1)] (fun w' => Below w1.heap.size w1 w') [] [] rfl (by kernel_rfl) (by kernel_rfl) (fun _ _ d _ _ h => by cases d <;> exact h) (below_drew w1) (fun p hp => by cases hp) ?_
  have HB12 := Lib.hid (below_drew w1)
  generalize w1.drew = w2 at HB12 ⊢
  repeat (first | (refine ts_take (v := .agg c.cs.toArray) rfl rfl (fun w' hw' => exec_load (gen_addr (HLB.out.below hw' HLB.out.lt)) _ rfl rfl Try.underlying23 rfl Po.sizeAd) ?_; (try simp only [Act.put, List.setIfInBounds_toArray, List.set_cons_zero, List.set_cons_succ])) | (refine ts_take (v := ?_) rfl rfl (fun w' hw' => ?_) ?_; rotate_left; (focus (skip; (try simp only [Act.put, List.setIfInBounds_toArray, List.set_cons_zero, List.set_cons_succ]); go_simp; (try go_bits); (try (with_reducible rfl)))); (try simp only [Act.put, List.setIfInBounds_toArray, List.set_cons_zero, List.set_cons_succ])))
  refine ts_run1 rfl rfl (fun K hK => ?_)
  go_simp
  refine (Ac.new_any w2).mono ?_
  rintro en w3 ⟨bl, bm, rfl, hled, hbl, hbm, hb3⟩
  have HLD := Lib.hid hled
  have HB13 := Lib.hid (bt HB12.out hb3)
  have HBL := Lib.hid (show W.heap.size ≤ bl ∧ W.heap.size ≤ bm from ⟨Nat.le_trans (bt HB1.out HB12.out).size hbl, Nat.le_trans (bt HB1.out HB12.out).size hbm⟩)
  clear hled hbl hbm hb3
  refine hK.out _ _ HB13.out (still_none _ _) ?_
  clear hK K
  (try simp only [Act.put, List.setIfInBounds_toArray, List.set_cons_zero, List.set_cons_succ])
  refine ts_run1 rfl rfl (fun K hK => ?_)
  go_simp
  refine (kvnew w3).mono ?_
  rintro en w4 ⟨bk, rfl, hb4⟩
  have HLD4 := Lib.hid (HLD.out.later hb4)
  have HB14 := Lib.hid (bt HB13.out hb4)
  clear hb4
  refine hK.out _ _ HB14.out (still_none _ _) ?_
  clear hK K
  (try simp only [Act.put, List.setIfInBounds_toArray, List.set_cons_zero, List.set_cons_succ])
  refine ts_run1 rfl rfl (fun K hK => ?_)
  go_simp
  refine (bknew w4).mono ?_
  rintro en w5 ⟨bb, rfl, hb5⟩
  have HLD5 := Lib.hid (HLD4.out.later hb5)
  have HB15 := Lib.hid (bt HB14.out hb5)
  clear hb5
  refine hK.out _ _ HB15.out (still_none _ _) ?_
  clear hK K
  (try simp only [Act.put, List.setIfInBounds_toArray, List.set_cons_zero, List.set_cons_succ])
  refine ts_take (v := .agg (Wd.cs c bl bk bb (.slice none 0 0) (.slice none 0 0)).toArray) rfl rfl (fun w' hw' => by kernel_rfl) ?_
  (try simp only [Act.put, List.setIfInBounds_toArray, List.set_cons_zero, List.set_cons_succ])
  refine ts_run1 rfl rfl (fun K hK => ?_)
  refine wp_box (Wd.cs c bl bk bb (.slice none 0 0) (.slice none 0 0)) _ rfl rfl (fun w6 hb6 hl6 => ?_)
  have HLD6 := Lib.hid (HLD5.out.later hb6)
  have HB16 := Lib.hid (bt HB15.out hb6)
  have HWS := Lib.hid (show W.heap.size ≤ w5.heap.size from (bt HB1.out HB15.out).size)
  obtain ⟨wp, hwp⟩ : ∃ wp, wp = w5.heap.size := ⟨_, rfl⟩
  rw [← hwp] at hl6 HWS ⊢
  have HX6 := Lib.hid hl6
  clear hb6 hl6 hwp
  refine hK.out _ _ HB16.out (still_none _ _) ?_
  clear hK K
  (try simp only [Act.put, List.setIfInBounds_toArray, List.set_cons_zero, List.set_cons_succ])
  repeat (first | (refine ts_take (v := ?_) rfl rfl (fun w' hw' => ?_) ?_; rotate_left; (focus (skip; (try simp only [Act.put, List.setIfInBounds_toArray, List.set_cons_zero, List.set_cons_succ]); go_simp; (try go_bits); (try (with_reducible rfl)))); (try simp only [Act.put, List.setIfInBounds_toArray, List.set_cons_zero, List.set_cons_succ])) | (refine ts_skip rfl rfl ?_; (try simp only [Act.put, List.setIfInBounds_toArray, List.set_cons_zero, List.set_cons_succ])))
  refine ts_done ?_
  have HN := Lib.hid (show NewAt W c l s cap B wp bl bm bk bb 0 [] w6 from ⟨rfl, Nat.le_refl _, HLB.out.below HB16.out HLB.out.lt, ⟨HX6.out, HLD6.out⟩, bt HB1.out HB16.out⟩)
  clear HLB HB12 HB13 HB14 HB15 HB16 HLD HLD4 HLD5 HLD6 HX6 HB1
  have z8 : w6.cell? ⟨B, 8, none⟩ = some (.slice s l.length cap) := HN.out.box.cell 8
  go_wp2_with fail
  clear z8
  go_loopw [19] (fun iv wr => ∃ (k : Nat) (L : List Ent), k ≤ l.length ∧ iv = .int .i64 k ∧ NewAt W c l s cap B wp bl bm bk bb k L wr) (fun iv _ => l.length - (RowKit.intOf iv).toNat)
  case atStart => exact ⟨0, [], Nat.zero_le _, rfl, HN.out⟩
  case round =>
    obtain ⟨k, L, hk, rfl, hn⟩ := hrel
    have HR := Lib.hid hn
    clear hn
    obtain ⟨w7, hw7⟩ : ∃ w7, w7 = wr := ⟨_, rfl⟩
    rw [← hw7] at HR ⊢
    clear hw7
    by_cases hlt : k < l.length
    · have hlt2 : (k : Int) < (l.length : Int) := by omega
      obtain ⟨x, hx⟩ : ∃ x, l[k]? = some x := ⟨_, List.getElem?_eq_getElem hlt⟩
      obtain ⟨g, off, rfl, hgl⟩ := HF.out (by intro e; rw [e] at hlt; simp at hlt)
      have HX := Lib.hid hx
      have HAO := Lib.hid (HO.out x (List.mem_of_getElem? hx))
      clear hx
      go_upto_region 5 with (first | (refine wpList_load_mid rfl 72 _ rfl g (off + k * 12) rfl x.cs _ (Po.sl_range (HS.out.later HR.out.below) HX.out) Try.underlying72 rfl sizeAc ?_; (try simp only [Act.put, List.setIfInBounds_toArray, List.set_cons_zero, List.set_cons_succ])) | (refine wl_put (Lies.new _ _ _) x.cs _ _ rfl rfl rfl rfl rfl sizeAc x.one (fun w8 hl8 hf8 => ?_); have hb8 : Below w7.heap.size w7 w8 := below_put ((Below.refl w7.heap.size w7).alloc (Nat.le_refl _) _) hf8 (Nat.le_refl _); have HN8 := Lib.hid (HR.out.later hb8); obtain ⟨Bx, hBx⟩ : ∃ Bx, Bx = w7.heap.size := ⟨_, rfl⟩; rw [← hBx] at hl8 ⊢; have HX8 := Lib.hid hl8; clear hl8 hf8 hb8 hBx; (try simp only [Act.put])))
      obtain ⟨z0, z9, z10, z11⟩ := acc_at HX8.out
      have z8 : w8.cell? ⟨B, 8, none⟩ = some (.slice (some ⟨g, off, none⟩) l.length cap) := HN8.out.box.cell 8
      have hw0 : IntKind.i64.wrap ((x.cl : Int) + (x.sl : Int)) = (x.cl : Int) + (x.sl : Int) := IntWalk.i64_in _ (by have h1 := HAO.out.cl; have h2 := HAO.out.sl; omega)
      go_cut [48] from 20 to 60 (fun b wx => b = .bool (decide ((∃ q, prevA l k = some q ∧ ¬ Lib.compareBytes q.l x.e.a.l < 0) ∨ 0 < x.cl + x.sl)) ∧ Below w8.heap.size w8 wx)
      case first =>
        cases k with
        | zero =>
          have E := Lib.hid (show ((∃ q, prevA l 0 = some q ∧ ¬ Lib.compareBytes q.l x.e.a.l < 0) ∨ 0 < x.cl + x.sl) ↔ 0 < x.cl + x.sl from ⟨fun h => h.elim (fun ⟨q, e, _⟩ => by cases e) id, .inr⟩)
          by_cases hcs : 0 < x.cl + x.sl
          · have hcs2 : (0 : Int) < (x.cl : Int) + (x.sl : Int) := by omega
            refine wp_region_t [(0, 1), (1, 1), (2, 1), (3, 1), (4, 1), (5, 1), (6, 1), (7, 1), (8, 1), (9, 1), (10, 1), (11, 1), (12, 0), (13, 1), (14, 1), (15, 1), (16, 1), (17, 1), (18, 1), (19, 1), (20, 1), (21, 1), (22, 1), (23, 1), (24, 1)] (fun w' => Below w8.heap.size w8 w') [] [] rfl (by kernel_rfl) (by kernel_rfl) (fun _ _ d _ _ h => by cases d <;> exact h) (below_drew w8) (fun p hp => by cases hp) ?_
            have HB9 := Lib.hid (below_drew w8)
            generalize w8.drew = w9 at HB9 ⊢
            repeat (first | (refine ts_take (v := ?_) rfl rfl (fun w' hw' => ?_) ?_; rotate_left; (focus (have q0 := keepc hw' z8; have q10 := keepc hw' z10; have q11 := keepc hw' z11; (try simp only [Act.put, List.setIfInBounds_toArray, List.set_cons_zero, List.set_cons_succ]); go_simp; (try go_bits); (try (with_reducible rfl)))); (try simp only [Act.put, List.setIfInBounds_toArray, List.set_cons_zero, List.set_cons_succ])) | (refine ts_skip rfl rfl ?_; (try simp only [Act.put, List.setIfInBounds_toArray, List.set_cons_zero, List.set_cons_succ])))
            refine Po.ts_pass rfl rfl HB9.out (still_none _ _) ?_
            (try simp only [Act.put, List.setIfInBounds_toArray, List.set_cons_zero, List.set_cons_succ])
            repeat (first | (refine ts_take (v := ?_) rfl rfl (fun w' hw' => ?_) ?_; rotate_left; (focus (have q0 := keepc hw' z8; have q10 := keepc hw' z10; have q11 := keepc hw' z11; (try simp only [Act.put, List.setIfInBounds_toArray, List.set_cons_zero, List.set_cons_succ]); go_simp; (try go_bits); (try (with_reducible rfl)))); (try simp only [Act.put, List.setIfInBounds_toArray, List.set_cons_zero, List.set_cons_succ])) | (refine ts_skip rfl rfl ?_; (try simp only [Act.put, List.setIfInBounds_toArray, List.set_cons_zero, List.set_cons_succ])))
            refine ts_done ?_
            go_wp2_with fail
            go_meet
            exact ⟨congrArg Value.bool (decide_eq_true (E.out.2 hcs)).symm, HB9.out⟩
          · have hcs2 : ¬ (0 : Int) < (x.cl : Int) + (x.sl : Int) := by omega
            refine wp_region_t [(0, 1), (1, 1), (2, 1), (3, 1), (4, 1), (5, 1), (6, 1), (7, 1), (8, 1), (9, 1), (10, 1), (11, 1), (12, 0), (13, 1), (14, 1), (15, 1), (16, 1), (17, 1), (18, 1), (19, 1), (20, 1), (21, 1), (22, 1), (23, 1), (24, 1)] (fun w' => Below w8.heap.size w8 w') [] [] rfl (by kernel_rfl) (by kernel_rfl) (fun _ _ d _ _ h => by cases d <;> exact h) (below_drew w8) (fun p hp => by cases hp) ?_
            have HB9 := Lib.hid (below_drew w8)
            generalize w8.drew = w9 at HB9 ⊢
            repeat (first | (refine ts_take (v := ?_) rfl rfl (fun w' hw' => ?_) ?_; rotate_left; (focus (have q0 := keepc hw' z8; have q10 := keepc hw' z10; have q11 := keepc hw' z11; (try simp only [Act.put, List.setIfInBounds_toArray, List.set_cons_zero, List.set_cons_succ]); go_simp; (try go_bits); (try (with_reducible rfl)))); (try simp only [Act.put, List.setIfInBounds_toArray, List.set_cons_zero, List.set_cons_succ])) | (refine ts_skip rfl rfl ?_; (try simp only [Act.put, List.setIfInBounds_toArray, List.set_cons_zero, List.set_cons_succ])))
            refine Po.ts_pass rfl rfl HB9.out (still_none _ _) ?_
            (try simp only [Act.put, List.setIfInBounds_toArray, List.set_cons_zero, List.set_cons_succ])
            repeat (first | (refine ts_take (v := ?_) rfl rfl (fun w' hw' => ?_) ?_; rotate_left; (focus (have q0 := keepc hw' z8; have q10 := keepc hw' z10; have q11 := keepc hw' z11; (try simp only [Act.put, List.setIfInBounds_toArray, List.set_cons_zero, List.set_cons_succ]); go_simp; (try go_bits); (try (with_reducible rfl)))); (try simp only [Act.put, List.setIfInBounds_toArray, List.set_cons_zero, List.set_cons_succ])) | (refine ts_skip rfl rfl ?_; (try simp only [Act.put, List.setIfInBounds_toArray, List.set_cons_zero, List.set_cons_succ])))
            refine ts_done ?_
            go_wp2_with fail
            go_meet
            exact ⟨congrArg Value.bool (decide_eq_false (fun h => hcs (E.out.1 h))).symm, HB9.out⟩
        | succ j =>
          have hj0 : (0 : Int) < (j : Int) + 1 := by omega
          have hj1 : (j : Int) + 1 - 1 = (j : Int) := by omega
          have hj2 : (j : Int) < (l.length : Int) := by omega
          have hj3 : (0 : Int) ≤ (j : Int) := by omega
          obtain ⟨y, hy⟩ : ∃ y, l[j]? = some y := ⟨_, List.getElem?_eq_getElem (by omega)⟩
          have HY := Lib.hid hy
          have E := Lib.hid (show ((∃ q, prevA l (j + 1) = some q ∧ ¬ Lib.compareBytes q.l x.e.a.l < 0) ∨ 0 < x.cl + x.sl) ↔ ¬ Lib.compareBytes y.e.a.l x.e.a.l < 0 ∨ 0 < x.cl + x.sl from by
            have e : prevA l (j + 1) = some y.e.a := (show prevA l (j + 1) = (l[j]?).map (·.e.a) from rfl).trans (by rw [hy]; rfl)
            rw [e]
            exact ⟨fun h => h.elim (fun ⟨q, e, h⟩ => .inl (by cases e; exact h)) .inr, fun h => h.elim (fun h => .inl ⟨_, rfl, h⟩) .inr⟩)
          clear hy
          refine wp_region_t [(0, 1), (1, 1), (2, 1), (3, 1), (4, 1), (5, 1), (6, 1), (7, 1), (8, 1), (9, 1), (10, 1), (11, 1), (12, 0), (13, 1), (14, 1), (15, 1), (16, 1), (17, 1), (18, 1), (19, 1), (20, 1), (21, 1), (22, 1), (23, 1), (24, 1)] (fun w' => Below w8.heap.size w8 w') [] [] rfl (by kernel_rfl) (by kernel_rfl) (fun _ _ d _ _ h => by cases d <;> exact h) (below_drew w8) (fun p hp => by cases hp) ?_
          have HB9 := Lib.hid (below_drew w8)
          generalize w8.drew = w9 at HB9 ⊢
          repeat (first | (refine ts_take (v := ?_) rfl rfl (fun w' hw' => ?_) ?_; rotate_left; (focus (have q0 := keepc hw' z8; have q10 := keepc hw' z10; have q11 := keepc hw' z11; (try simp only [Act.put, List.setIfInBounds_toArray, List.set_cons_zero, List.set_cons_succ]); go_simp; (try go_bits); (try (with_reducible rfl)))); (try simp only [Act.put, List.setIfInBounds_toArray, List.set_cons_zero, List.set_cons_succ])) | (refine ts_skip rfl rfl ?_; (try simp only [Act.put, List.setIfInBounds_toArray, List.set_cons_zero, List.set_cons_succ])))
          refine ts_run1 rfl rfl (fun K hK => ?_)
          go_simp
          refine (Po.bcmp_any (sl_addr (Nat.lt_of_lt_of_le hgl (bt HN8.out.below HB9.out).size) (acc_addr (Po.sl_range (HS.out.later (bt HN8.out.below HB9.out)) HY.out))) (sl_addr (HX8.out.below HB9.out HX8.out.lt).lt (acc_addr (lies_range (HX8.out.below HB9.out HX8.out.lt))))).mono ?_
          rintro en w10 ⟨rfl, hb10⟩
          obtain ⟨cm, hcm⟩ : ∃ cm, cm = Lib.compareBytes y.e.a.l x.e.a.l := ⟨_, rfl⟩
          rw [← hcm]
          rw [← hcm] at E
          have HB10 := Lib.hid (bt HB9.out hb10)
          clear hcm hb10
          refine hK.out _ _ HB10.out (still_none _ _) ?_
          clear hK K
          (try simp only [Act.put, List.setIfInBounds_toArray, List.set_cons_zero, List.set_cons_succ])
          by_cases hneg : cm < 0
          · have hneg2 : ¬ (0 : Int) ≤ cm := by omega
            by_cases hcs : 0 < x.cl + x.sl
            · have hcs2 : (0 : Int) < (x.cl : Int) + (x.sl : Int) := by omega
              repeat (first | (refine ts_take (v := ?_) rfl rfl (fun w' hw' => ?_) ?_; rotate_left; (focus (have q0 := keepc hw' z8; have q10 := keepc hw' z10; have q11 := keepc hw' z11; (try simp only [Act.put, List.setIfInBounds_toArray, List.set_cons_zero, List.set_cons_succ]); go_simp; (try go_bits); (try (with_reducible rfl)))); (try simp only [Act.put, List.setIfInBounds_toArray, List.set_cons_zero, List.set_cons_succ])) | (refine ts_skip rfl rfl ?_; (try simp only [Act.put, List.setIfInBounds_toArray, List.set_cons_zero, List.set_cons_succ])))
              refine ts_done ?_
              go_wp2_with fail
              go_meet
              exact ⟨congrArg Value.bool (decide_eq_true (E.out.2 (.inr hcs))).symm, HB10.out⟩
            · have hcs2 : ¬ (0 : Int) < (x.cl : Int) + (x.sl : Int) := by omega
              repeat (first | (refine ts_take (v := ?_) rfl rfl (fun w' hw' => ?_) ?_; rotate_left; (focus (have q0 := keepc hw' z8; have q10 := keepc hw' z10; have q11 := keepc hw' z11; (try simp only [Act.put, List.setIfInBounds_toArray, List.set_cons_zero, List.set_cons_succ]); go_simp; (try go_bits); (try (with_reducible rfl)))); (try simp only [Act.put, List.setIfInBounds_toArray, List.set_cons_zero, List.set_cons_succ])) | (refine ts_skip rfl rfl ?_; (try simp only [Act.put, List.setIfInBounds_toArray, List.set_cons_zero, List.set_cons_succ])))
              refine ts_done ?_
              go_wp2_with fail
              go_meet
              exact ⟨congrArg Value.bool (decide_eq_false (fun h => (E.out.1 h).elim (fun h => absurd hneg (by omega)) hcs)).symm, HB10.out⟩
          · have hneg2 : (0 : Int) ≤ cm := by omega
            repeat (first | (refine ts_take (v := ?_) rfl rfl (fun w' hw' => ?_) ?_; rotate_left; (focus (have q0 := keepc hw' z8; have q10 := keepc hw' z10; have q11 := keepc hw' z11; (try simp only [Act.put, List.setIfInBounds_toArray, List.set_cons_zero, List.set_cons_succ]); go_simp; (try go_bits); (try (with_reducible rfl)))); (try simp only [Act.put, List.setIfInBounds_toArray, List.set_cons_zero, List.set_cons_succ])) | (refine ts_skip rfl rfl ?_; (try simp only [Act.put, List.setIfInBounds_toArray, List.set_cons_zero, List.set_cons_succ])))
            refine ts_done ?_
            go_wp2_with fail
            go_meet
            exact ⟨congrArg Value.bool (decide_eq_true (E.out.2 (.inl hneg))).symm, HB10.out⟩
      case rest =>
        obtain ⟨hb, hb9⟩ := hcut
        subst hb
        have HN9 := Lib.hid (HN8.out.later hb9)
        have HX9 := Lib.hid (HX8.out.below hb9 HX8.out.lt)
        clear hb9 HX8 HN8 z0 z9 z10 z11 z8 hw0
        by_cases hbad : (∃ q, prevA l k = some q ∧ ¬ Lib.compareBytes q.l x.e.a.l < 0) ∨ 0 < x.cl + x.sl
        · rw [decide_eq_true hbad]
          have HG := Lib.hid (show gen l = (2, L) from by rw [HN9.out.eq, drop_more HX.out, genGo_bad hbad])
          clear hbad
          go_wp2_with fail
          go_ret2
          exact .inl ⟨by rw [HG.out]; exact (by decide : (2 : Nat) ≠ 0), by rw [HG.out]; rfl, HN9.out.below⟩
        · rw [decide_eq_false hbad]
          have HG := Lib.hid (show gen l = genGo (l.drop (k + 1)) (prevA l (k + 1)) (put x.e L) from by rw [HN9.out.eq, drop_more HX.out, genGo_good hbad, show prevA l (k + 1) = (l[k]?).map (·.e.a) from rfl, HX.out]; rfl)
          clear hbad
          go_upto_region 7 with fail
          have hzw : wc.cell? ⟨wp, 8, none⟩ = some (.pointer (some ⟨bl, 0, none⟩)) := HN9.out.at_.box.cell 8
          refine wp_region_t [(0, 1), (1, 1), (2, 1), (3, 1), (4, 1), (5, 1), (6, 1), (7, 1), (8, 1), (9, 1), (10, 0)] (fun w' => Lies w' Bx 72 x.cs.toArray ∧ w'.cell? ⟨wp, 8, none⟩ = some (.pointer (some ⟨bl, 0, none⟩))) [] [] rfl (by kernel_rfl) (by kernel_rfl) (fun _ _ d _ _ h => by cases d <;> exact h) ⟨HX9.out.below (below_drew wc) HX9.out.lt, keepc (below_drew wc) hzw⟩ (fun p hp => by cases hp) ?_
          have HN10 := Lib.hid (HN9.out.later (below_drew wc))
          have HX10 := Lib.hid (HX9.out.below (below_drew wc) HX9.out.lt)
          clear hzw
          generalize wc.drew = w10 at HN10 HX10 ⊢
          repeat (first | (refine ts_take (v := .agg x.e.a.cs.toArray) rfl rfl (fun w' hw' => exec_load (acc_addr (lies_range hw'.1)) _ rfl rfl Try.underlying23 rfl Po.sizeAd) ?_; (try simp only [Act.put, List.setIfInBounds_toArray, List.set_cons_zero, List.set_cons_succ])) | (refine ts_take (v := ?_) rfl rfl (fun w' hw' => ?_) ?_; rotate_left; (focus (have q9 := (acc_at hw'.1).2.1; have q0 := (acc_at hw'.1).1; have qw := hw'.2; (try simp only [Act.put, List.setIfInBounds_toArray, List.set_cons_zero, List.set_cons_succ]); go_simp; (try go_bits); (try (with_reducible rfl)))); (try simp only [Act.put, List.setIfInBounds_toArray, List.set_cons_zero, List.set_cons_succ])) | (refine ts_skip rfl rfl ?_; (try simp only [Act.put, List.setIfInBounds_toArray, List.set_cons_zero, List.set_cons_succ])))
          refine ts_run1 rfl rfl (fun K hK => ?_)
          go_simp
          refine (Ac.set_any HN10.out.at_.led x.e HAO.out.b HAO.out.n).mono ?_
          rintro en w11 ⟨rfl, hl11, hg11⟩
          obtain ⟨es, ce, hmap, _⟩ := HN10.out.at_.led.map.block
          have HX11 := Lib.hid (HX10.out.kept hg11 (fun e => HX10.out.not_map hmap (Option.some.inj e)))
          have HW11 := Lib.hid (HN10.out.at_.box.kept hg11 (fun e => HN10.out.at_.box.not_map hmap (Option.some.inj e)))
          have HC11 := Lib.hid (HN10.out.box.kept hg11 (fun e => HN10.out.box.not_map hmap (Option.some.inj e)))
          have HN11 := Lib.hid (show NewAt W c l (some ⟨g, off, none⟩) cap B wp bl bm bk bb (k + 1) (put x.e L) w11 from ⟨HG.out, Nat.le_trans (put_len _ _) (Nat.succ_le_succ HN10.out.len), HC11.out, ⟨HW11.out, hl11⟩, HN10.out.below.grown hg11 HN10.out.below.size (fun q hq => by cases hq; exact HBL.out.2)⟩)
          clear hl11 hg11 hmap
          refine hK.out _ _ ⟨HX11.out, HW11.out.cell 8⟩ (still_none _ _) ?_
          clear hK K
          (try simp only [Act.put, List.setIfInBounds_toArray, List.set_cons_zero, List.set_cons_succ])
          refine ts_done ?_
          go_wp2_with fail
          go_roundw
          case rel => exact ⟨k + 1, put x.e L, hlt, by go_num, HN11.out⟩
          case measure => simp [RowKit.intOf]; omega
    · have hlt2 : ¬ (k : Int) < (l.length : Int) := by omega
      have HKL := Lib.hid (show k = l.length from by omega)
      have HG := Lib.hid (show gen l = (if (tot L).2 then 0 else 211, L) from by rw [HR.out.eq, HKL.out, List.drop_length]; rfl)
      have z8 : w7.cell? ⟨wp, 8, none⟩ = some (.pointer (some ⟨bl, 0, none⟩)) := HR.out.at_.box.cell 8
      go_wp2_with fail
      clear z8
      refine (Ac.total_any HR.out.at_.led (by have := HR.out.len; omega)).mono ?_
      rintro en w8 ⟨rfl, hb8⟩
      have HN8 := Lib.hid (HR.out.later hb8)
      clear hb8
      cases hq : (tot L).2 with
      | true =>
        have HG2 := Lib.hid (show gen l = (0, L) from by rw [HG.out, hq]; rfl)
        clear hq
        go_wp2_with fail
        go_ret2
        exact .inr ⟨by rw [HG2.out], wp, bl, bm, bk, bb, rfl, by rw [HG2.out]; exact HN8.out.at_, HWS.out, HBL.out.1, HBL.out.2, HN8.out.below⟩
      | false =>
        have HG2 := Lib.hid (show gen l = (211, L) from by rw [HG.out, hq]; rfl)
        clear hq
        go_wp2_with fail
        go_ret2
        exact .inl ⟨by rw [HG2.out]; exact (by decide : (211 : Nat) ≠ 0), by rw [HG2.out]; rfl, HN8.out.below⟩
end Go.Proofs.Ytkdckcjnjljdmaa.Wd
