/- Space: are two types the same? -/
import Derived.Test.YtmgjcaikldeioaaGreatXGf
namespace Go.Proofs.YtmgjcaikldeioaaGreat.Gr
open Go Go.RowKit Kt Fm

theorem take_eq_succ {a b : List UInt8} {j : Nat} {x y : UInt8} (ha : a[j]? = some x) (hb : b[j]? = some y) (h : a.take j = b.take j) (hxy : x = y) : a.take (j + 1) = b.take (j + 1) := by rw [List.take_add_one, List.take_add_one, ha, hb, h, hxy]
set_option maxRecDepth 100000 in
set_option maxHeartbeats 4000000 in
theorem equal_u8 {W : World} {u v : Value} {a b : List UInt8} (ha : Sl W 1 u8c u a) (hb : Sl W 1 u8c v b) (hla : a.length ≤ 4194304) (hlb : b.length ≤ 4194304) :
  Calls Tryz.prog 81 #[u, v] W fun e w' => e = .returned (.bool (a == b)) ∧ Below W.heap.size W w' := by
 obtain ⟨s, c, rfl, hs⟩ := ha.form
 obtain ⟨s2, c2, rfl, hs2⟩ := hb.form
 have HA := zh ha
 have HB := zh hb
 have HS := zh hs
 have HS2 := zh hs2
 clear ha hb hs hs2
 by_cases hl : a.length = b.length
 ·have hl' : ((a.length : Int) != (b.length : Int)) = false := by rw [hl]; simp
  go_enter Tryz.func81, Tryz.ntmps81
  go_wp2_with fail
  go_loopw [5, 13] (fun _ i wr => ∃ j : Nat, j ≤ a.length ∧ i = .int .i64 j ∧ Below W.heap.size W wr ∧ a.take j = b.take j)
   (fun _ i _ => a.length - (intOf i).toNat)
  case atStart => exact ⟨0, by omega, rfl, Below.refl _ _, rfl⟩
  case round =>
   obtain ⟨j, hj, rfl, hbr, htk⟩ := hrel
   have HBR := zh hbr
   have HTK := zh htk
   clear hbr htk
   by_cases hlt : j < a.length
   ·have hlt2 : j < b.length := by omega
    obtain ⟨x, hx⟩ : ∃ x, a[j]? = some x := ⟨_, List.getElem?_eq_getElem hlt⟩
    obtain ⟨y, hy⟩ : ∃ y, b[j]? = some y := ⟨_, List.getElem?_eq_getElem hlt2⟩
    obtain ⟨g, off, rfl, hg⟩ := HS.out (by intro e; simp [e] at hlt)
    obtain ⟨g2, off2, rfl, hg2⟩ := HS2.out (by intro e; simp [e] at hlt2)
    have hcx := (HA.out.later HBR.out).cell hx (j := 0) rfl
    have hcy := (HB.out.later HBR.out).cell hy (j := 0) rfl
    rw [Nat.add_zero, Nat.mul_one] at hcx hcy
    have hq := u8b x y
    have HX := zh hx
    have HY := zh hy
    clear hx hy
    go_wp2_with fail
    refine wp_region_b [(0, true), (1, true), (2, true), (3, true), (4, true), (5, true), (6, true), (7, true), (8, true)] (by kernel_rfl) (by kernel_rfl) (fun _ _ d _ _ h => by cases d <;> exact h) ?_
    intro V hbV
    replace hcx := keepc hbV hcx
    replace hcy := keepc hbV hcy
    have hS0 : Below V.heap.size V V := Below.refl _ _
    repeat (first | (refine hs_take (v := ?_) rfl rfl (fun w' hw' => ?_) ?_; rotate_left; (focus (have q0 := keepc hw' hcx; have q1 := keepc hw' hcy; clear hw'; (try simp only [Act.put, sA, sB, sC]); go_simp; (try go_bits); (try (with_reducible rfl)))); (try simp only [Act.put, sA, sB, sC])) | (refine hs_skip rfl rfl ?_; (try simp only [Act.put, sA, sB, sC])))
    refine hs_done ?_
    cases hxy : x == y with
    | true =>
     rw [hxy] at hq
     go_wp2_with fail
     exact ⟨⟨j + 1, by omega, by go_num, bt HBR.out hbV, take_eq_succ HX.out HY.out HTK.out (by simpa using hxy)⟩, by simp [intOf]; omega⟩
    | false =>
     rw [hxy] at hq
     go_wp2_with fail
     go_ret
     refine ⟨?_, bt HBR.out hbV⟩
     have : (a == b) = false := by
      rw [beq_eq_false_iff_ne]
      rintro rfl
      have := HX.out.symm.trans HY.out
      injection this with this
      rw [this] at hxy
      simp at hxy
     rw [this]
     rfl
   ·obtain rfl : j = a.length := by omega
    go_wp2_with fail
    go_ret
    have h1 := HTK.out
    rw [List.take_length, hl, List.take_length] at h1
    rw [h1]
    exact ⟨by simp, HBR.out⟩
 ·have hl' : ((a.length : Int) != (b.length : Int)) = true := by
   rw [bne_iff_ne]; omega
  have hne : (a == b) = false := by rw [beq_eq_false_iff_ne]; rintro rfl; exact hl rfl
  go_enter Tryz.func81, Tryz.ntmps81
  go_wp2_with fail
  go_ret
  rw [hne]
  exact ⟨rfl, Below.refl _ _⟩
set_option maxRecDepth 100000 in
set_option maxHeartbeats 4000000 in
theorem same_any {W : World} {x y : Ft} (hx : FtOk W x) (hy : FtOk W y) :
  Calls Tryz.prog 45 #[.agg x.cs.toArray, .agg y.cs.toArray] W fun e w' => e = .returned (.bool (same x y)) ∧ Below W.heap.size W w' := by
 have HX := zh hx
 have HY := zh hy
 clear hx hy
 have le : Bd ≤ 4194304 := by decide
 go_enter Tryz.func45, Tryz.ntmps45
 go_wp2_with (first | (refine wl_box x.cs _ rfl rfl rfl (fun w1 hb1 hl1 => ?_); have HB1 := zh hb1; have HL1 := zh hl1; clear hb1 hl1; simp only [Act.put, sA, sB, sC]) | (refine wl_box y.cs _ rfl rfl rfl (fun w2 hb2 hl2 => ?_); have d0 : w2.cell? ⟨W.heap.size, 0, none⟩ = some x.pv := keepc hb2 (HL1.out.cell 0); have d1 : w2.cell? ⟨W.heap.size, 1, none⟩ = some x.rv := keepc hb2 (HL1.out.cell 1); have d2 : w2.cell? ⟨w1.heap.size, 0, none⟩ = some y.pv := hl2.cell 0; have d3 : w2.cell? ⟨w1.heap.size, 1, none⟩ = some y.rv := hl2.cell 1; have HB2 := zh (bt HB1.out hb2); clear hb2 hl2; simp only [Act.put, sA, sB, sC]))
 refine (equal_u8 (HX.out.1.1.later HB2.out) (HY.out.1.1.later HB2.out) (Nat.le_trans HX.out.1.2.2 le) (Nat.le_trans HY.out.1.2.2 le)).mono ?_
 rintro en w3 ⟨rfl, hb3⟩
 replace d1 := keepc hb3 d1
 replace d3 := keepc hb3 d3
 have HB3 := zh (bt HB2.out hb3)
 clear hb3 d0 d2
 cases hp : x.p == y.p with
 | false =>
  go_wp2_with fail
  go_ret
  refine ⟨?_, HB3.out⟩
  rw [same, hp, Bool.false_and]
  rfl
 | true =>
  go_wp2_with fail
  refine (equal_u8 (HX.out.2.1.later HB3.out) (HY.out.2.1.later HB3.out) (Nat.le_trans HX.out.2.2.2 le) (Nat.le_trans HY.out.2.2.2 le)).mono ?_
  rintro en w4 ⟨rfl, hb4⟩
  have HB4 := zh (bt HB3.out hb4)
  clear hb4
  go_wp2_with fail
  go_ret
  refine ⟨?_, HB4.out⟩
  rw [same, hp, Bool.true_and]
  rfl
end Go.Proofs.YtmgjcaikldeioaaGreat.Gr
