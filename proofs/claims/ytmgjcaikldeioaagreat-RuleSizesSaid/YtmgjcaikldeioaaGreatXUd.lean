/- Which instructions have bytes (instr.may). -/
import Derived.Test.YtmgjcaikldeioaaGreatXUc
namespace Go.Proofs.YtmgjcaikldeioaaGreat.Ty
open Go Go.RowKit Go.Lib Kt Fm Gr

theorem w32 (c : Int) : (c != wrap64 (wrap32 c)) = !decide (-2147483648 ≤ c ∧ c ≤ 2147483647) := by
  rw [Bool.eq_iff_iff, bne_iff_ne]
  simp only [Bool.not_eq_true', decide_eq_false_iff_not, wrap64, wrap32, ne_eq]
  omega
theorem lz (l : List Nat) : ((l.length : Int) == 0) = decide (l = []) := by cases l <;> simp; omega
set_option maxRecDepth 100000 in
set_option maxHeartbeats 16000000 in
theorem may_any {W : World} {x : Ins} (hx : ∃ s c, x.lv = .slice s x.ls.length c) :
    Calls Tryz.prog 87 #[.agg x.cs.toArray] W fun e w' => e = .returned (.bool (mayB x)) ∧ Below W.heap.size W w' := by
  obtain ⟨op, a, b, c, lv, ls⟩ := x
  obtain ⟨sl, cl, hlv⟩ := hx
  replace hlv : lv = .slice sl ls.length cl := hlv
  subst hlv
  have HF := zh (formN_cases op)
  obtain ⟨r, hr⟩ : ∃ r, r = mayB ⟨op, a, b, c, .slice sl ls.length cl, ls⟩ := ⟨_, rfl⟩
  rw [← hr]
  have HR := zh hr
  clear hr
  go_enter Tryz.func87, Tryz.ntmps87
  go_wp2_with (refine wl_box (Ins.cs ⟨op, a, b, c, .slice sl ls.length cl, ls⟩) _ rfl rfl rfl (fun w1 hb1 hl1 => ?_); have HB1 := zh hb1; have HX1 := zh hl1; have x0 : w1.cell? ⟨W.heap.size, 0, none⟩ = some (.int .u8 op.toNat) := hl1.cell 0; have x1 : w1.cell? ⟨W.heap.size, 1, none⟩ = some (.int .u32 a) := hl1.cell 1; have x2 : w1.cell? ⟨W.heap.size, 2, none⟩ = some (.int .u32 b) := hl1.cell 2; have x3 : w1.cell? ⟨W.heap.size, 3, none⟩ = some (.int .i64 c) := hl1.cell 3; have x4 : w1.cell? ⟨W.heap.size, 4, none⟩ = some (.slice sl ls.length cl) := hl1.cell 4; have hlt := hl1.lt; clear hb1 hl1; (try simp only [Act.put, sA, sB, sC]))
  refine (known_any op).mono ?_
  rintro en wx ⟨rfl, rfl⟩
  cases hk : knownB op with
  | false =>
    go_wp2_with fail
    go_ret
    exact ⟨by rw [HR.out]; simp [mayB, hk], HB1.out⟩
  | true =>
    go_wp2_with fail
    obtain ⟨w2, hw2⟩ : ∃ w2, w2 = wx.alloc (.cells #[.bool false, .bool false, .bool false, .bool false] 185) := ⟨_, rfl⟩
    obtain ⟨A, hA⟩ : ∃ A, A = wx.heap.size := ⟨_, rfl⟩
    obtain ⟨B3, hB3⟩ : ∃ B3, B3 = W.heap.size := ⟨_, rfl⟩
    have hb2 : Below wx.heap.size wx w2 := hw2 ▸ (Below.refl _ _).alloc (Nat.le_refl _) _
    have HL2 : Lies w2 A 185 #[.bool false, .bool false, .bool false, .bool false] := by rw [hw2, hA]; exact Lies.new _ _ _
    have HX2 := zh (HX1.out.below hb2 HX1.out.lt)
    have HB2 := zh (bt HB1.out hb2)
    rw [← hw2, ← hA, ← hB3]
    rw [← hB3] at HX2 HX1
    have hne : B3 < A := by rw [hA]; exact HX1.out.lt
    have HWA := zh (show W.heap.size ≤ A from by rw [hA]; exact HB1.out.size)
    clear hw2 hA hB3 hb2 x0 x1 x2 x3 x4 hlt
    have y0 : w2.cell? ⟨B3, 0, none⟩ = some (.int .u8 op.toNat) := HX2.out.cell 0
    have y1 : w2.cell? ⟨B3, 1, none⟩ = some (.int .u32 a) := HX2.out.cell 1
    have y2 : w2.cell? ⟨B3, 2, none⟩ = some (.int .u32 b) := HX2.out.cell 2
    have y3 : w2.cell? ⟨B3, 3, none⟩ = some (.int .i64 c) := HX2.out.cell 3
    have y4 : w2.cell? ⟨B3, 4, none⟩ = some (.slice sl ls.length cl) := HX2.out.cell 4
    have z0 : w2.cell? ⟨A, 0, none⟩ = some (.bool false) := HL2.cell 0
    have z1 : w2.cell? ⟨A, 1, none⟩ = some (.bool false) := HL2.cell 1
    have z2 : w2.cell? ⟨A, 2, none⟩ = some (.bool false) := HL2.cell 2
    have z3 : w2.cell? ⟨A, 3, none⟩ = some (.bool false) := HL2.cell 3
    have f0 := HL2.frozen 0
    have f1 := HL2.frozen 1
    have f2 := HL2.frozen 2
    have f3 := HL2.frozen 3
    have hltA := HL2.lt
    replace HL2 := zh HL2
    refine (form_any op).mono ?_
    rintro en wy ⟨rfl, rfl⟩
    rcases HF.out with hf | hf | hf | hf | hf | hf | hf | hf | hf | hf
    all_goals rw [hf]; clear HF
    all_goals
      go_wp2_with fail
    all_goals
      go_ret
    all_goals
      refine ⟨?_, ?_⟩
    all_goals first
      | exact HB2.out
      | exact (HB2.out.setCell HWA.out _)
      | exact ((HB2.out.setCell HWA.out _).setCell HWA.out _)
      | skip
    all_goals
      rw [HR.out]
      replace hf := congrArg Int.toNat hf
      simp only [Int.toNat_natCast, Int.reduceToNat] at hf
      refine congrArg (fun b => Ending.returned (.bool b)) ?_
      try clear y0
      try clear y1
      try clear y2
      try clear y3
      try clear y4
      try clear z0
      try clear z1
      try clear z2
      try clear z3
      try clear f0
      try clear f1
      try clear f2
      try clear f3
      try clear hltA
      try clear hne
      try clear HX2
      try clear HL2
      try clear HX1
      try clear HB2
      try clear HB1
      try clear HR
      try clear HWA
      simp only [mayB, hk, hf]
      first
        | (rw [lz]; simp [*]; done)
        | (simp [*]; done)
        | (have h64 : a = 64 := by omega
           subst h64
           rw [lz]; simp [*]; done)
        | (have h64 : a = 127 := by omega
           subst h64
           rw [lz]; simp [*]; done)
        | (simp only [bne_eq_false_iff_eq] at *
           have h64 : a = 126 := by omega
           subst h64
           rw [lz]; simp [*]; done)
        | (simp only [w32] at *; simp only [Bool.not_eq_true', decide_eq_false_iff_not, Bool.not_eq_false', decide_eq_true_eq] at *; first | (rw [lz]; simp [*]; done) | (simp [*]; done))
        | (simp only [bne_iff_ne, ne_eq] at *; rw [Bool.eq_iff_iff]; simp [*]; omega)
end Go.Proofs.YtmgjcaikldeioaaGreat.Ty
