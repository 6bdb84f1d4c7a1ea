/- A body's checker: drop, select, return and unreachable, branches. -/
import Derived.Test.YtmgjcaikldeioaaGreatXUg
import Derived.Test.YtmgjcaikldeioaaGreatXUh
namespace Go.Proofs.YtmgjcaikldeioaaGreat.Ty
open Go Go.RowKit Go.Lib Kt Fm Gr

theorem u8_maxd (a b : UInt8) : max a b = if a ≤ b then b else a := rfl
theorem u8_maxs (a : UInt8) : max a a = a := by rw [u8_maxd]; split <;> rfl
theorem u8_max0 (b : UInt8) : max 0 b = b := by rw [u8_maxd, if_pos (UInt8.le_iff_toNat_le.2 (Nat.zero_le _))]
theorem u8_max0' (b : UInt8) : max b 0 = b := by
 rw [u8_maxd]
 split
 ·rename_i h
  have := UInt8.le_iff_toNat_le.1 h
  rw [← UInt8.toNat_inj]
  show 0 = b.toNat
  have h2 : b.toNat ≤ 0 := this
  omega
 ·rfl
theorem nei {a b : Int} (h : ¬ a = b) : (a != b) = true := by simpa using h
theorem nez {a : UInt8} (h : a ≠ 0) : ¬ a.toNat = 0 := fun e => h (by rw [← UInt8.toNat_inj]; exact e)
theorem neab {a b : UInt8} (h : a ≠ b) : ¬ (a.toNat : Int) = (b.toNat : Int) := fun e => h (by rw [← UInt8.toNat_inj]; omega)
theorem want_most {t t' : Stk} {ts : Bts} (e : want t ts = some t') : t'.most = t.most ∧ t'.fs = t.fs := by
 unfold want at e
 cases hl : left t ts with
 | none => rw [hl] at e; cases e
 | some n => rw [hl] at e; obtain rfl := Option.some.inj e; exact ⟨rfl, rfl⟩
theorem pop_most {t t' : Stk} {a : UInt8} (e : pop t = some (a, t')) : t'.most = t.most ∧ t'.fs = t.fs := by
 refine ⟨?_, pop_fs e⟩
 unfold pop at e
 cases hf : t.fs.getLast? with
 | none => rw [hf] at e; cases e
 | some f =>
  rw [hf] at e
  simp only at e
  split at e
  ·cases hl : t.l.getLast? with
   | none => rw [hl] at e; cases e
   | some t' => rw [hl] at e; obtain ⟨_, rfl⟩ := Prod.mk.inj (Option.some.inj e); rfl
  ·split at e
   ·obtain ⟨_, rfl⟩ := Prod.mk.inj (Option.some.inj e); rfl
   ·cases e
theorem Sm.of {s s' : St} (h : Sm s) (e : s'.t.most = s.t.most ∧ s'.t.fs = s.t.fs) : Sm s' := ⟨by rw [e.2]; exact h.ne, by rw [e.1]; exact h.most, by rw [e.2]; exact h.fs, by rw [e.2]; exact h.lab⟩
theorem Sm.fs9 {s : St} (h : Sm s) : s.t.fs.length ≤ 1000000000 := Nat.le_trans h.fs (by decide)
theorem Sm.most9 {s : St} (h : Sm s) : s.t.most ≤ 1000000000 := Nat.le_trans h.most (by decide)
theorem Stm.labs {w : World} {H sb : Nat} {lv fv : Value} {FV : List Fv} {s : St} (h : Stm w H sb lv fv FV s.t) (hs : Sm s) : ∀ x ∈ FV, x.f.lab.length ≤ 4194304 ∧ x.f.ends.length ≤ 4194304 := fun x hx => by
 have := hs.lab x.f (by rw [← h.fs]; exact List.mem_map.2 ⟨x, hx, rfl⟩)
 omega
set_option maxRecDepth 100000 in
set_option maxHeartbeats 8000000 in
theorem drop_any {W0 w : World} {S0 kb sb : Nat} {fn : Ft} {c : Cod} {lv fv ov : Value} {FV : List Fv} {s : St} {x : Ins} (h : Ck W0 w S0 fn c kb sb lv fv ov FV s) (hs : Sm s) (hx : InsOk W0 x) :
  Calls Tryz.prog 99 #[.pointer (some ⟨kb, 0, none⟩), .agg x.cs.toArray] w fun e w' => StepSays W0 S0 fn c kb sb w' e (stepDrop s) := by
 have HC := zh h
 have HS := zh hs
 have HX := zh hx
 clear h hs hx
 go_enter Tryz.func99, Tryz.ntmps99
 go_wp2_with (refine wl_box x.cs _ rfl rfl rfl (fun w1 hb1 hl1 => ?_); have HC1 := zh (HC.out.later hb1); have HX1 := zh hl1; have HB1 := zh hb1; obtain ⟨B3, hB3⟩ : ∃ B3, B3 = w.heap.size := ⟨_, rfl⟩; rw [← hB3] at HX1 ⊢; clear hB3 hb1 hl1; have k0 : w1.cell? ⟨kb, 0, none⟩ = some (.pointer (some ⟨S0, 0, none⟩)) := HC1.out.cell.cell 0; have k5 : w1.cell? ⟨kb, 5, none⟩ = some (.pointer (some ⟨sb, 0, none⟩)) := HC1.out.cell.cell 5; have x0 : w1.cell? ⟨B3, 0, none⟩ = some (.int .u8 x.op.toNat) := HX1.out.cell 0; have x1 : w1.cell? ⟨B3, 1, none⟩ = some (.int .u32 x.a) := HX1.out.cell 1; (try simp only [Act.put, sA, sB, sC]))
 refine (pop_any HC1.out.stm HS.out.ne HS.out.fs9 HS.out.most9).mono ?_
 intro en w2 hp
 cases hpo : pop s.t with
 | none =>
  rw [hpo] at hp
  obtain ⟨t, rfl, _, hb2⟩ := hp
  have HC2 := zh (HC1.out.later hb2)
  have HX2 := zh (HX1.out.below hb2 HX1.out.lt)
  clear k0 k5 x0 x1 hb2
  have k0 : w2.cell? ⟨kb, 0, none⟩ = some (.pointer (some ⟨S0, 0, none⟩)) := HC2.out.cell.cell 0
  have k5 : w2.cell? ⟨kb, 5, none⟩ = some (.pointer (some ⟨sb, 0, none⟩)) := HC2.out.cell.cell 5
  have x0 : w2.cell? ⟨B3, 0, none⟩ = some (.int .u8 x.op.toNat) := HX2.out.cell 0
  have x1 : w2.cell? ⟨B3, 1, none⟩ = some (.int .u32 x.a) := HX2.out.cell 1
  go_wp2_with fail
  refine (typed_any false).mono ?_
  rintro en wt ⟨rfl, rfl⟩
  go_wp2_with fail
  go_ret
  unfold stepDrop
  rw [hpo]
  exact ⟨rfl, HC2.out.bel⟩
 | some q =>
  obtain ⟨t, s2⟩ := q
  rw [hpo] at hp
  obtain ⟨rfl, lv2, hs2, hf2, hv2⟩ := hp
  have HX2 := zh (HC1.out.keep HX1.out (by decide) (by decide) (by decide) hf2)
  have HC2 := zh (HC1.out.stack hs2 hf2 (Or.inl hv2) (fun _ _ h => h))
  clear k0 k5 x0 x1 hs2 hf2 hv2
  have k0 : w2.cell? ⟨kb, 0, none⟩ = some (.pointer (some ⟨S0, 0, none⟩)) := HC2.out.cell.cell 0
  have k5 : w2.cell? ⟨kb, 5, none⟩ = some (.pointer (some ⟨sb, 0, none⟩)) := HC2.out.cell.cell 5
  have x0 : w2.cell? ⟨B3, 0, none⟩ = some (.int .u8 x.op.toNat) := HX2.out.cell 0
  have x1 : w2.cell? ⟨B3, 1, none⟩ = some (.int .u32 x.a) := HX2.out.cell 1
  go_wp2_with fail
  refine (typed_any true).mono ?_
  rintro en wt ⟨rfl, rfl⟩
  go_wp2_with fail
  go_ret
  unfold stepDrop
  rw [hpo]
  exact ⟨rfl, _, _, _, _, HC2.out⟩
set_option maxRecDepth 100000 in
set_option maxHeartbeats 8000000 in
theorem choose_any {W0 w : World} {S0 kb sb : Nat} {fn : Ft} {c : Cod} {lv fv ov : Value} {FV : List Fv} {s : St} {x : Ins} (h : Ck W0 w S0 fn c kb sb lv fv ov FV s) (hs : Sm s) (hx : InsOk W0 x) :
  Calls Tryz.prog 100 #[.pointer (some ⟨kb, 0, none⟩), .agg x.cs.toArray] w fun e w' => StepSays W0 S0 fn c kb sb w' e (stepSel s) := by
 have HC := zh h
 have HS := zh hs
 have HX := zh hx
 clear h hs hx
 go_enter Tryz.func100, Tryz.ntmps100
 go_wp2_with (refine wl_box x.cs _ rfl rfl rfl (fun w1 hb1 hl1 => ?_); have HC1 := zh (HC.out.later hb1); have HX1 := zh hl1; have HB1 := zh hb1; obtain ⟨B3, hB3⟩ : ∃ B3, B3 = w.heap.size := ⟨_, rfl⟩; rw [← hB3] at HX1 ⊢; clear hB3 hb1 hl1; have k0 : w1.cell? ⟨kb, 0, none⟩ = some (.pointer (some ⟨S0, 0, none⟩)) := HC1.out.cell.cell 0; have k5 : w1.cell? ⟨kb, 5, none⟩ = some (.pointer (some ⟨sb, 0, none⟩)) := HC1.out.cell.cell 5; have x0 : w1.cell? ⟨B3, 0, none⟩ = some (.int .u8 x.op.toNat) := HX1.out.cell 0; have x1 : w1.cell? ⟨B3, 1, none⟩ = some (.int .u32 x.a) := HX1.out.cell 1; (try simp only [Act.put, sA, sB, sC]))
 obtain ⟨w2, hw2⟩ : ∃ w2, w2 = w1.alloc (.cells #[.int .u8 127] 5) := ⟨_, rfl⟩
 have hb2 : Below w1.heap.size w1 w2 := hw2 ▸ (Below.refl _ _).alloc (Nat.le_refl _) _
 have HU2 := zh (show Sl w2 1 u8c (.slice (some ⟨w1.heap.size, 0, none⟩) 1 1) [127] by rw [hw2]; exact sl_one (Lies.new w1 _ _))
 rw [← hw2]
 clear hw2
 have HC2 := zh (HC1.out.later hb2)
 have HX2 := zh (HX1.out.below hb2 HX1.out.lt)
 clear k0 k5 x0 x1 hb2
 have k0 : w2.cell? ⟨kb, 0, none⟩ = some (.pointer (some ⟨S0, 0, none⟩)) := HC2.out.cell.cell 0
 have k5 : w2.cell? ⟨kb, 5, none⟩ = some (.pointer (some ⟨sb, 0, none⟩)) := HC2.out.cell.cell 5
 have x0 : w2.cell? ⟨B3, 0, none⟩ = some (.int .u8 x.op.toNat) := HX2.out.cell 0
 have x1 : w2.cell? ⟨B3, 1, none⟩ = some (.int .u32 x.a) := HX2.out.cell 1
 have HS2 := HS
 refine (want_any HC2.out.stm HS2.out.ne HS2.out.fs9 HS2.out.most9 HU2.out (by decide)).mono ?_
 intro en w3 hw
 cases hw3a : want s.t [127] with
 | none =>
  rw [hw3a] at hw
  obtain ⟨rfl, hb3⟩ := hw
  have HC3 := zh (HC2.out.later hb3)
  have HX3 := zh (HX2.out.below hb3 HX2.out.lt)
  clear k0 k5 x0 x1 hb3
  have k0 : w3.cell? ⟨kb, 0, none⟩ = some (.pointer (some ⟨S0, 0, none⟩)) := HC3.out.cell.cell 0
  have k5 : w3.cell? ⟨kb, 5, none⟩ = some (.pointer (some ⟨sb, 0, none⟩)) := HC3.out.cell.cell 5
  have x0 : w3.cell? ⟨B3, 0, none⟩ = some (.int .u8 x.op.toNat) := HX3.out.cell 0
  have x1 : w3.cell? ⟨B3, 1, none⟩ = some (.int .u32 x.a) := HX3.out.cell 1
  go_wp2_with fail
  go_ret
  unfold stepSel
  rw [hw3a]
  exact ⟨rfl, HC3.out.bel⟩
 | some t3 =>
  rw [hw3a] at hw
  obtain ⟨rfl, lv3, hs3, hf3, hv3⟩ := hw
  have HX3 := zh (HC2.out.keep HX2.out (by decide) (by decide) (by decide) (hf3.mono fun _ _ e => Or.inl e))
  have HC3 := zh (HC2.out.stack hs3 (hf3.mono fun _ _ e => Or.inl e) (Or.inl hv3) (fun _ _ h => h))
  clear k0 k5 x0 x1 hs3 hf3 hv3
  have k0 : w3.cell? ⟨kb, 0, none⟩ = some (.pointer (some ⟨S0, 0, none⟩)) := HC3.out.cell.cell 0
  have k5 : w3.cell? ⟨kb, 5, none⟩ = some (.pointer (some ⟨sb, 0, none⟩)) := HC3.out.cell.cell 5
  have x0 : w3.cell? ⟨B3, 0, none⟩ = some (.int .u8 x.op.toNat) := HX3.out.cell 0
  have x1 : w3.cell? ⟨B3, 1, none⟩ = some (.int .u32 x.a) := HX3.out.cell 1
  have HS3 := zh (Sm.of (s' := ⟨t3, s.o⟩) HS2.out (want_most hw3a))
  go_wp2_with fail
  refine (pop_any HC3.out.stm HS3.out.ne HS3.out.fs9 HS3.out.most9).mono ?_
  intro en w4 hp
  cases hpo : pop t3 with
  | none =>
   rw [hpo] at hp
   obtain ⟨a, rfl, _, hb4⟩ := hp
   have HC4 := zh (HC3.out.later hb4)
   have HX4 := zh (HX3.out.below hb4 HX3.out.lt)
   clear k0 k5 x0 x1 hb4
   have k0 : w4.cell? ⟨kb, 0, none⟩ = some (.pointer (some ⟨S0, 0, none⟩)) := HC4.out.cell.cell 0
   have k5 : w4.cell? ⟨kb, 5, none⟩ = some (.pointer (some ⟨sb, 0, none⟩)) := HC4.out.cell.cell 5
   have x0 : w4.cell? ⟨B3, 0, none⟩ = some (.int .u8 x.op.toNat) := HX4.out.cell 0
   have x1 : w4.cell? ⟨B3, 1, none⟩ = some (.int .u32 x.a) := HX4.out.cell 1
   go_wp2_with fail
   refine (pop_any HC4.out.stm HS3.out.ne HS3.out.fs9 HS3.out.most9).mono ?_
   intro en w5 hp
   rw [hpo] at hp
   obtain ⟨a2, rfl, _, hb5⟩ := hp
   have HC5 := zh (HC4.out.later hb5)
   have HX5 := zh (HX4.out.below hb5 HX4.out.lt)
   clear k0 k5 x0 x1 hb5
   have k0 : w5.cell? ⟨kb, 0, none⟩ = some (.pointer (some ⟨S0, 0, none⟩)) := HC5.out.cell.cell 0
   have k5 : w5.cell? ⟨kb, 5, none⟩ = some (.pointer (some ⟨sb, 0, none⟩)) := HC5.out.cell.cell 5
   have x0 : w5.cell? ⟨B3, 0, none⟩ = some (.int .u8 x.op.toNat) := HX5.out.cell 0
   have x1 : w5.cell? ⟨B3, 1, none⟩ = some (.int .u32 x.a) := HX5.out.cell 1
   go_wp2_with fail
   go_ret
   unfold stepSel
   rw [hw3a]
   simp only [hpo]
   exact ⟨rfl, HC5.out.bel⟩
  | some q =>
   obtain ⟨a, t4⟩ := q
   rw [hpo] at hp
   obtain ⟨rfl, lv4, hs4, hf4, hv4⟩ := hp
   have HX4 := zh (HC3.out.keep HX3.out (by decide) (by decide) (by decide) hf4)
   have HC4 := zh (HC3.out.stack hs4 hf4 (Or.inl hv4) (fun _ _ h => h))
   clear k0 k5 x0 x1 hs4 hf4 hv4
   have k0 : w4.cell? ⟨kb, 0, none⟩ = some (.pointer (some ⟨S0, 0, none⟩)) := HC4.out.cell.cell 0
   have k5 : w4.cell? ⟨kb, 5, none⟩ = some (.pointer (some ⟨sb, 0, none⟩)) := HC4.out.cell.cell 5
   have x0 : w4.cell? ⟨B3, 0, none⟩ = some (.int .u8 x.op.toNat) := HX4.out.cell 0
   have x1 : w4.cell? ⟨B3, 1, none⟩ = some (.int .u32 x.a) := HX4.out.cell 1
   have HS4 := zh (Sm.of (s' := ⟨t4, s.o⟩) HS3.out (pop_most hpo))
   go_wp2_with fail
   refine (pop_any HC4.out.stm HS4.out.ne HS4.out.fs9 HS4.out.most9).mono ?_
   intro en w5 hp
   cases hpo2 : pop t4 with
   | none =>
    rw [hpo2] at hp
    obtain ⟨a2, rfl, _, hb5⟩ := hp
    have HC5 := zh (HC4.out.later hb5)
    have HX5 := zh (HX4.out.below hb5 HX4.out.lt)
    clear k0 k5 x0 x1 hb5
    have k0 : w5.cell? ⟨kb, 0, none⟩ = some (.pointer (some ⟨S0, 0, none⟩)) := HC5.out.cell.cell 0
    have k5 : w5.cell? ⟨kb, 5, none⟩ = some (.pointer (some ⟨sb, 0, none⟩)) := HC5.out.cell.cell 5
    have x0 : w5.cell? ⟨B3, 0, none⟩ = some (.int .u8 x.op.toNat) := HX5.out.cell 0
    have x1 : w5.cell? ⟨B3, 1, none⟩ = some (.int .u32 x.a) := HX5.out.cell 1
    go_wp2_with fail
    go_ret
    unfold stepSel
    rw [hw3a]
    simp only [hpo, hpo2]
    exact ⟨rfl, HC5.out.bel⟩
   | some q =>
    obtain ⟨b, t5⟩ := q
    rw [hpo2] at hp
    obtain ⟨rfl, lv5, hs5, hf5, hv5⟩ := hp
    have HX5 := zh (HC4.out.keep HX4.out (by decide) (by decide) (by decide) hf5)
    have HC5 := zh (HC4.out.stack hs5 hf5 (Or.inl hv5) (fun _ _ h => h))
    clear k0 k5 x0 x1 hs5 hf5 hv5
    have k0 : w5.cell? ⟨kb, 0, none⟩ = some (.pointer (some ⟨S0, 0, none⟩)) := HC5.out.cell.cell 0
    have k5 : w5.cell? ⟨kb, 5, none⟩ = some (.pointer (some ⟨sb, 0, none⟩)) := HC5.out.cell.cell 5
    have x0 : w5.cell? ⟨B3, 0, none⟩ = some (.int .u8 x.op.toNat) := HX5.out.cell 0
    have x1 : w5.cell? ⟨B3, 1, none⟩ = some (.int .u32 x.a) := HX5.out.cell 1
    have HS5 := zh (Sm.of (s' := ⟨t5, s.o⟩) HS4.out (pop_most hpo2))
    by_cases hbad : a ≠ b ∧ a ≠ 0 ∧ b ≠ 0
    ·have e1 := neab hbad.1
     have e2 := nez hbad.2.1
     have e3 := nez hbad.2.2
     have f1 := nei e1
     have f2 := nei (a := (a.toNat : Int)) (b := 0) (by omega)
     have f3 := nei (a := (b.toNat : Int)) (b := 0) (by omega)
     go_wp2_with fail
     go_ret
     unfold stepSel
     rw [hw3a]
     simp only [hpo, hpo2]
     rw [if_pos hbad]
     exact ⟨rfl, HC5.out.bel⟩
    ·by_cases hab : a = b
     ·subst hab
      go_wp2_with fail
      obtain ⟨w6, hw6⟩ : ∃ w6, w6 = w5.alloc (.cells #[.int .u8 a.toNat] 5) := ⟨_, rfl⟩
      have hb6 : Below w5.heap.size w5 w6 := hw6 ▸ (Below.refl _ _).alloc (Nat.le_refl _) _
      have HU6 := zh (show Sl w6 1 u8c (.slice (some ⟨w5.heap.size, 0, none⟩) 1 1) [a] by rw [hw6]; exact sl_one (Lies.new w5 _ _))
      rw [← hw6]
      clear hw6
      have HC6 := zh (HC5.out.later hb6)
      have HX6 := zh (HX5.out.below hb6 HX5.out.lt)
      clear k0 k5 x0 x1 hb6
      have k0 : w6.cell? ⟨kb, 0, none⟩ = some (.pointer (some ⟨S0, 0, none⟩)) := HC6.out.cell.cell 0
      have k5 : w6.cell? ⟨kb, 5, none⟩ = some (.pointer (some ⟨sb, 0, none⟩)) := HC6.out.cell.cell 5
      have x0 : w6.cell? ⟨B3, 0, none⟩ = some (.int .u8 x.op.toNat) := HX6.out.cell 0
      have x1 : w6.cell? ⟨B3, 1, none⟩ = some (.int .u32 x.a) := HX6.out.cell 1
      refine (push_any HC6.out.stm HC6.out.bel.size HU6.out (by have := HS5.out.most; show t5.most + 1 ≤ _; have : t5.most ≤ 500000000 := this; omega)).mono ?_
      rintro en w7 ⟨rfl, lv7, hs7, hf7, hv7⟩
      have HX7 := zh (HC6.out.keep HX6.out (by decide) (by decide) (by decide) hf7)
      have HC7 := zh (HC6.out.stack hs7 hf7 (hv7.imp_right fun e k hk => by rw [e] at hk; injection hk with hk; omega) (fun _ _ h => h))
      clear k0 k5 x0 x1 hs7 hf7 hv7
      have k0 : w7.cell? ⟨kb, 0, none⟩ = some (.pointer (some ⟨S0, 0, none⟩)) := HC7.out.cell.cell 0
      have k5 : w7.cell? ⟨kb, 5, none⟩ = some (.pointer (some ⟨sb, 0, none⟩)) := HC7.out.cell.cell 5
      have x0 : w7.cell? ⟨B3, 0, none⟩ = some (.int .u8 x.op.toNat) := HX7.out.cell 0
      have x1 : w7.cell? ⟨B3, 1, none⟩ = some (.int .u32 x.a) := HX7.out.cell 1
      go_wp2_with fail
      go_ret
      unfold stepSel
      rw [hw3a]
      simp only [hpo, hpo2]
      rw [if_neg hbad, show max a a = a from by first | exact u8_maxs _ | exact u8_max0 _ | exact u8_max0' _]
      exact ⟨rfl, _, _, _, _, HC7.out⟩
     by_cases ha0 : a = 0
     ·subst ha0
      have e1 := neab hab
      have f1 := nei e1
      have e2 : ((0 : UInt8).toNat) = 0 := rfl
      go_wp2_with fail
      obtain ⟨w6, hw6⟩ : ∃ w6, w6 = w5.alloc (.cells #[.int .u8 b.toNat] 5) := ⟨_, rfl⟩
      have hb6 : Below w5.heap.size w5 w6 := hw6 ▸ (Below.refl _ _).alloc (Nat.le_refl _) _
      have HU6 := zh (show Sl w6 1 u8c (.slice (some ⟨w5.heap.size, 0, none⟩) 1 1) [b] by rw [hw6]; exact sl_one (Lies.new w5 _ _))
      rw [← hw6]
      clear hw6
      have HC6 := zh (HC5.out.later hb6)
      have HX6 := zh (HX5.out.below hb6 HX5.out.lt)
      clear k0 k5 x0 x1 hb6
      have k0 : w6.cell? ⟨kb, 0, none⟩ = some (.pointer (some ⟨S0, 0, none⟩)) := HC6.out.cell.cell 0
      have k5 : w6.cell? ⟨kb, 5, none⟩ = some (.pointer (some ⟨sb, 0, none⟩)) := HC6.out.cell.cell 5
      have x0 : w6.cell? ⟨B3, 0, none⟩ = some (.int .u8 x.op.toNat) := HX6.out.cell 0
      have x1 : w6.cell? ⟨B3, 1, none⟩ = some (.int .u32 x.a) := HX6.out.cell 1
      refine (push_any HC6.out.stm HC6.out.bel.size HU6.out (by have := HS5.out.most; show t5.most + 1 ≤ _; have : t5.most ≤ 500000000 := this; omega)).mono ?_
      rintro en w7 ⟨rfl, lv7, hs7, hf7, hv7⟩
      have HX7 := zh (HC6.out.keep HX6.out (by decide) (by decide) (by decide) hf7)
      have HC7 := zh (HC6.out.stack hs7 hf7 (hv7.imp_right fun e k hk => by rw [e] at hk; injection hk with hk; omega) (fun _ _ h => h))
      clear k0 k5 x0 x1 hs7 hf7 hv7
      have k0 : w7.cell? ⟨kb, 0, none⟩ = some (.pointer (some ⟨S0, 0, none⟩)) := HC7.out.cell.cell 0
      have k5 : w7.cell? ⟨kb, 5, none⟩ = some (.pointer (some ⟨sb, 0, none⟩)) := HC7.out.cell.cell 5
      have x0 : w7.cell? ⟨B3, 0, none⟩ = some (.int .u8 x.op.toNat) := HX7.out.cell 0
      have x1 : w7.cell? ⟨B3, 1, none⟩ = some (.int .u32 x.a) := HX7.out.cell 1
      go_wp2_with fail
      go_ret
      unfold stepSel
      rw [hw3a]
      simp only [hpo, hpo2]
      rw [if_neg hbad, show max 0 b = b from by first | exact u8_maxs _ | exact u8_max0 _ | exact u8_max0' _]
      exact ⟨rfl, _, _, _, _, HC7.out⟩
     ·obtain rfl : b = 0 := Decidable.byContradiction fun h => hbad ⟨hab, ha0, h⟩
      have e1 := neab hab
      have f1 := nei e1
      have e2 : ((0 : UInt8).toNat) = 0 := rfl
      have e3 := nez ha0
      have f3 := nei (a := (a.toNat : Int)) (b := 0) (by omega)
      go_wp2_with fail
      obtain ⟨w6, hw6⟩ : ∃ w6, w6 = w5.alloc (.cells #[.int .u8 a.toNat] 5) := ⟨_, rfl⟩
      have hb6 : Below w5.heap.size w5 w6 := hw6 ▸ (Below.refl _ _).alloc (Nat.le_refl _) _
      have HU6 := zh (show Sl w6 1 u8c (.slice (some ⟨w5.heap.size, 0, none⟩) 1 1) [a] by rw [hw6]; exact sl_one (Lies.new w5 _ _))
      rw [← hw6]
      clear hw6
      have HC6 := zh (HC5.out.later hb6)
      have HX6 := zh (HX5.out.below hb6 HX5.out.lt)
      clear k0 k5 x0 x1 hb6
      have k0 : w6.cell? ⟨kb, 0, none⟩ = some (.pointer (some ⟨S0, 0, none⟩)) := HC6.out.cell.cell 0
      have k5 : w6.cell? ⟨kb, 5, none⟩ = some (.pointer (some ⟨sb, 0, none⟩)) := HC6.out.cell.cell 5
      have x0 : w6.cell? ⟨B3, 0, none⟩ = some (.int .u8 x.op.toNat) := HX6.out.cell 0
      have x1 : w6.cell? ⟨B3, 1, none⟩ = some (.int .u32 x.a) := HX6.out.cell 1
      refine (push_any HC6.out.stm HC6.out.bel.size HU6.out (by have := HS5.out.most; show t5.most + 1 ≤ _; have : t5.most ≤ 500000000 := this; omega)).mono ?_
      rintro en w7 ⟨rfl, lv7, hs7, hf7, hv7⟩
      have HX7 := zh (HC6.out.keep HX6.out (by decide) (by decide) (by decide) hf7)
      have HC7 := zh (HC6.out.stack hs7 hf7 (hv7.imp_right fun e k hk => by rw [e] at hk; injection hk with hk; omega) (fun _ _ h => h))
      clear k0 k5 x0 x1 hs7 hf7 hv7
      have k0 : w7.cell? ⟨kb, 0, none⟩ = some (.pointer (some ⟨S0, 0, none⟩)) := HC7.out.cell.cell 0
      have k5 : w7.cell? ⟨kb, 5, none⟩ = some (.pointer (some ⟨sb, 0, none⟩)) := HC7.out.cell.cell 5
      have x0 : w7.cell? ⟨B3, 0, none⟩ = some (.int .u8 x.op.toNat) := HX7.out.cell 0
      have x1 : w7.cell? ⟨B3, 1, none⟩ = some (.int .u32 x.a) := HX7.out.cell 1
      go_wp2_with fail
      go_ret
      unfold stepSel
      rw [hw3a]
      simp only [hpo, hpo2]
      rw [if_neg hbad, show max a 0 = a from by first | exact u8_maxs _ | exact u8_max0 _ | exact u8_max0' _]
      exact ⟨rfl, _, _, _, _, HC7.out⟩
end Go.Proofs.YtmgjcaikldeioaaGreat.Ty
