/- The walk of the ledger's Set. -/
import Derived.Test.YtkdckcjnjljdmaaCAcB
import Derived.Test.YtkdckcjnjljdmaaCRt
import Derived.Laws.StructEq
namespace Go.Proofs.Ytkdckcjnjljdmaa.Ac
open Go Go.RowKit Kt Ad

set_option maxRecDepth 100000 in
set_option maxHeartbeats 1000000 in
theorem set_zero {W : World} {bl bm : Nat} {L : List Ent} (h : Led W bl bm L) (a : A8) :
    Calls Try.prog 23 #[.pointer (some ⟨bl, 0, none⟩), a.v, .int .u64 0, .int .u64 0] W fun e w' => e = .returned (.tuple #[]) ∧ Led w' bl bm (put ⟨a, 0, 0⟩ L) ∧ W.grownBy w' (some bm) := by
  have hc := h.cell.cell 0
  simp only [List.getElem?_toArray, List.getElem?_cons_zero] at hc
  have hlt := h.cell.lt
  simp only [A8.v]
  go_enter Try.func23, Try.ntmps23
  go_wp2_with fail
  refine wp_region_tail 5 (by kernel_rfl) (by kernel_rfl) (fun V hV => ?_)
  have hA : Lies V W.heap.size 23 a.cs.toArray := by rw [hV]; exact ((Lies.new W _ _).alloc _).drew
  have hE : Lies V (W.heap.size + 1) 108 #[.int .u64 0, .int .u64 0] := by
    rw [hV]
    have := (Lies.new (W.alloc (.cells a.cs.toArray 23)) 108 #[.int .u64 0, .int .u64 0]).drew
    rw [World.size_alloc] at this
    exact this
  have hL : Led V bl bm L := by rw [hV]; exact ((h.alloc _).alloc _).drew
  have hG : W.grownBy V (some bm) := by rw [hV]; exact grownBy_drew (grownBy_trans (World.grownBy_alloc W _ _) (World.grownBy_alloc _ _ _))
  obtain ⟨a0, a1, a2, a3, a4, a5, a6, a7⟩ := lies_addr hA
  have hc := hL.cell.cell 0
  have e0 := hE.cell 0
  have e1 := hE.cell 1
  simp only [List.getElem?_toArray, List.getElem?_cons_zero, List.getElem?_cons_succ] at hc e0 e1
  clear hV
  repeat still_step
  refine wpStill_nil ?_
  refine wpl_del encAddr Try.underlying97 hL.map a _ _ rfl rfl rfl rfl ?_
  intro w' m1 g1 s1
  have hL' : Led w' bl bm (put ⟨a, 0, 0⟩ L) := Led.struck (x := ⟨a, 0, 0⟩) h.ok (show (0 : Nat) < M64 by decide) (show (0 : Nat) < M64 by decide) rfl (hL.cell.kept g1 (by have := h.ne; simpa using this)) m1
  have hG' : W.grownBy w' (some bm) := grownBy_trans hG g1
  clear m1 g1 s1 h hL hG hA a0 a1 a2 a3 a4 a5 a6 a7 hc hE e0 e1
  go_wp2
  first | go_end0 | refine bodyPost_ret (results_none rfl _ _ _) rfl ?_
  exact ⟨rfl, hL', hG'⟩

set_option maxRecDepth 100000 in
set_option maxHeartbeats 1000000 in
theorem set_b {W : World} {bl bm : Nat} {L : List Ent} (h : Led W bl bm L) (a : A8) (b n : Nat) (hb : b < M64) (hn : n < M64) (hz : b ≠ 0) :
    Calls Try.prog 23 #[.pointer (some ⟨bl, 0, none⟩), a.v, .int .u64 b, .int .u64 n] W fun e w' => e = .returned (.tuple #[]) ∧ Led w' bl bm (put ⟨a, b, n⟩ L) ∧ W.grownBy w' (some bm) := by
  have HB := Lib.hid hb
  have HN := Lib.hid hn
  have HZ := Lib.hid (show zero ⟨a, b, n⟩ = false by simp [zero, hz])
  clear hb hn
  have hc := h.cell.cell 0
  simp only [List.getElem?_toArray, List.getElem?_cons_zero] at hc
  have hlt := h.cell.lt
  simp only [A8.v]
  go_enter Try.func23, Try.ntmps23
  go_wp2_with fail
  refine wp_region_tail 6 (by kernel_rfl) (by kernel_rfl) (fun V hV => ?_)
  have hA : Lies V W.heap.size 23 a.cs.toArray := by rw [hV]; exact ((Lies.new W _ _).alloc _).drew
  have hE : Lies V (W.heap.size + 1) 108 #[.int .u64 b, .int .u64 n] := by
    rw [hV]
    have := (Lies.new (W.alloc (.cells a.cs.toArray 23)) 108 #[.int .u64 b, .int .u64 n]).drew
    rw [World.size_alloc] at this
    exact this
  have hL : Led V bl bm L := by rw [hV]; exact ((h.alloc _).alloc _).drew
  have hG : W.grownBy V (some bm) := by rw [hV]; exact grownBy_drew (grownBy_trans (World.grownBy_alloc W _ _) (World.grownBy_alloc _ _ _))
  obtain ⟨a0, a1, a2, a3, a4, a5, a6, a7⟩ := lies_addr hA
  have hc := hL.cell.cell 0
  have e0 := hE.cell 0
  have e1 := hE.cell 1
  simp only [List.getElem?_toArray, List.getElem?_cons_zero, List.getElem?_cons_succ] at hc e0 e1
  clear hV
  repeat still_step
  refine wpStill_nil ?_
  refine wpl_store encAddr Try.underlying97 hL.map a _ _ _ rfl rfl rfl rfl _ rfl ?_
  intro w' m1 g1 s1
  have hL' : Led w' bl bm (put ⟨a, b, n⟩ L) := Led.stored (x := ⟨a, b, n⟩) h.ok HB.out HN.out HZ.out (hL.cell.kept g1 (by have := h.ne; simpa using this)) m1
  have hG' : W.grownBy w' (some bm) := grownBy_trans hG g1
  clear m1 g1 s1 h hL hG hA a0 a1 a2 a3 a4 a5 a6 a7 hc hE e0 e1
  go_wp2
  first | go_end0 | refine bodyPost_ret (results_none rfl _ _ _) rfl ?_
  exact ⟨rfl, hL', hG'⟩

set_option maxRecDepth 100000 in
set_option maxHeartbeats 1000000 in
theorem set_n {W : World} {bl bm : Nat} {L : List Ent} (h : Led W bl bm L) (a : A8) (n : Nat) (hb : 0 < M64) (hn : n < M64) (hz : n ≠ 0) :
    Calls Try.prog 23 #[.pointer (some ⟨bl, 0, none⟩), a.v, .int .u64 0, .int .u64 n] W fun e w' => e = .returned (.tuple #[]) ∧ Led w' bl bm (put ⟨a, 0, n⟩ L) ∧ W.grownBy w' (some bm) := by
  have HB := Lib.hid hb
  have HN := Lib.hid hn
  have HZ := Lib.hid (show zero ⟨a, 0, n⟩ = false by simp [zero, hz])
  clear hb hn
  have hc := h.cell.cell 0
  simp only [List.getElem?_toArray, List.getElem?_cons_zero] at hc
  have hlt := h.cell.lt
  simp only [A8.v]
  go_enter Try.func23, Try.ntmps23
  go_wp2_with fail
  refine wp_region_tail 6 (by kernel_rfl) (by kernel_rfl) (fun V hV => ?_)
  have hA : Lies V W.heap.size 23 a.cs.toArray := by rw [hV]; exact ((Lies.new W _ _).alloc _).drew
  have hE : Lies V (W.heap.size + 1) 108 #[.int .u64 0, .int .u64 n] := by
    rw [hV]
    have := (Lies.new (W.alloc (.cells a.cs.toArray 23)) 108 #[.int .u64 0, .int .u64 n]).drew
    rw [World.size_alloc] at this
    exact this
  have hL : Led V bl bm L := by rw [hV]; exact ((h.alloc _).alloc _).drew
  have hG : W.grownBy V (some bm) := by rw [hV]; exact grownBy_drew (grownBy_trans (World.grownBy_alloc W _ _) (World.grownBy_alloc _ _ _))
  obtain ⟨a0, a1, a2, a3, a4, a5, a6, a7⟩ := lies_addr hA
  have hc := hL.cell.cell 0
  have e0 := hE.cell 0
  have e1 := hE.cell 1
  simp only [List.getElem?_toArray, List.getElem?_cons_zero, List.getElem?_cons_succ] at hc e0 e1
  clear hV
  repeat still_step
  refine wpStill_nil ?_
  refine wpl_store encAddr Try.underlying97 hL.map a _ _ _ rfl rfl rfl rfl _ rfl ?_
  intro w' m1 g1 s1
  have hL' : Led w' bl bm (put ⟨a, 0, n⟩ L) := Led.stored (x := ⟨a, 0, n⟩) h.ok HB.out HN.out HZ.out (hL.cell.kept g1 (by have := h.ne; simpa using this)) m1
  have hG' : W.grownBy w' (some bm) := grownBy_trans hG g1
  clear m1 g1 s1 h hL hG hA a0 a1 a2 a3 a4 a5 a6 a7 hc hE e0 e1
  go_wp2
  first | go_end0 | refine bodyPost_ret (results_none rfl _ _ _) rfl ?_
  exact ⟨rfl, hL', hG'⟩

theorem set_any {W : World} {bl bm : Nat} {L : List Ent} (h : Led W bl bm L) (x : Ent) (hb : x.b < M64) (hn : x.n < M64) :
    Calls Try.prog 23 #[.pointer (some ⟨bl, 0, none⟩), x.a.v, .int .u64 x.b, .int .u64 x.n] W fun e w' => e = .returned (.tuple #[]) ∧ Led w' bl bm (put x L) ∧ W.grownBy w' (some bm) := by
  obtain ⟨a, b, n⟩ := x
  by_cases hz : b = 0
  · subst hz
    by_cases hn0 : n = 0
    · subst hn0
      exact set_zero h a
    · exact set_n h a n hb hn hn0
  · exact set_b h a b n hb hn hz

set_option maxRecDepth 100000 in
set_option maxHeartbeats 1000000 in
theorem set_nil (W : World) (a : A8) (b n : Nat) :
    Calls Try.prog 23 #[.pointer none, a.v, .int .u64 b, .int .u64 n] W fun e w' => e = .returned (.tuple #[]) ∧ Below W.heap.size W w' := by
  simp only [A8.v]
  go_enter Try.func23, Try.ntmps23
  go_wp2
  first | go_end0 | refine bodyPost_ret (results_none rfl _ _ _) rfl ?_
  exact ⟨rfl, (Below.refl _ _).alloc (Nat.le_refl _) _⟩
end Go.Proofs.Ytkdckcjnjljdmaa.Ac
