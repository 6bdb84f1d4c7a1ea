/- A body's checker in memory; typed, takes. -/
import Derived.Test.YtmgjcaikldeioaaGreatXUf
namespace Go.Proofs.YtmgjcaikldeioaaGreat.Ty
open Go Go.RowKit Go.Lib Kt Fm Gr

/-- What a module's space tells, plain. -/
def spcOf (m : Mod) (GS : List Gt) (BS MS : List Lim) : Spc := ⟨ftype m, fun i => m.types[i]?, fun i => GS[i]?, (BS[0]?).isSome, (MS[0]?).isSome⟩
def ckCs (S0 sb : Nat) (fn : Ft) (c : Cod) (ov : Value) : List Value := [.pointer (some ⟨S0, 0, none⟩), fn.pv, fn.rv, c.lv, c.bv, .pointer (some ⟨sb, 0, none⟩), ov]
/-- A checker. -/
structure Ck (W0 w : World) (S0 : Nat) (fn : Ft) (c : Cod) (kb sb : Nat) (lv fv ov : Value) (FV : List Fv) (s : St) : Prop where
 bel : Below W0.heap.size W0 w
 cell : Lies w kb 140 (ckCs S0 sb fn c ov).toArray
 hkb : W0.heap.size ≤ kb
 stm : Stm w W0.heap.size sb lv fv FV s.t
 row : w.ownsRow W0.heap.size 5 1 ov s.o.length (s.o.flatMap u8c)
 ne : ∀ k, ov.ownBlock = some k → lv.ownBlock ≠ some k ∧ Sepn FV k
theorem lies_ne_rowb {w : World} {b : Nat} {t e : TypeId} {cs : Array Value} {H n sz : Nat} {v : Value} {xs : List Value} (hl : Lies w b t cs) (ho : w.ownsRow H e sz v n xs) (ht : t ≠ e) : ¬ some b = v.ownBlock := fun e => lies_ne_row hl ho ht b e.symm rfl
section
variable {W0 w w' w1 w2 : World} {S0 kb sb : Nat} {fn : Ft} {c : Cod} {lv fv ov lv' fv' ov' : Value} {FV FV' : List Fv} {s : St}
theorem Ck.later (h : Ck W0 w S0 fn c kb sb lv fv ov FV s) (hb : Below w.heap.size w w') : Ck W0 w' S0 fn c kb sb lv fv ov FV s :=
 ⟨h.bel.trans (hb.mono h.bel.size), h.cell.below hb h.cell.lt, h.hkb, h.stm.later hb, ownsRow_keep h.row hb, h.ne⟩
/-- What is no part of the stack stays while the stack is worked on. -/
theorem Ck.keep (h : Ck W0 w S0 fn c kb sb lv fv ov FV s) {b : Nat} {t : TypeId} {cs : Array Value} (hl : Lies w b t cs) (h1 : t ≠ 172) (h2 : t ≠ 5) (h3 : t ≠ 178) (hf : Fr w w' (Ms sb lv fv)) : Lies w' b t cs :=
 lies_fr hl hf fun e => by
  rcases e with e | e | e
  ·exact hl.ne h.stm.cell h1 e
  ·exact lies_ne_rowb hl h.stm.row h2 e
  ·exact lies_ne_rowb hl h.stm.frs h3 e
theorem Ck.bel' (h : Ck W0 w S0 fn c kb sb lv fv ov FV s) (hf : Fr w w' (Ms sb lv fv)) : Below W0.heap.size W0 w' := h.bel.trans (Ms_below h.stm h.bel.size hf)
/-- The stack has been worked on. -/
theorem Ck.stack {t' : Stk} (h : Ck W0 w S0 fn c kb sb lv fv ov FV s) (hs : Stm w' W0.heap.size sb lv' fv' FV' t') (hf : Fr w w' (Ms sb lv fv)) (hlv : lv'.ownBlock = lv.ownBlock ∨ ∀ k, lv'.ownBlock = some k → w.heap.size ≤ k) (hsep : ∀ k, k < w.heap.size → Sepn FV k → Sepn FV' k) :
  Ck W0 w' S0 fn c kb sb lv' fv' ov FV' { s with t := t' } := by
 refine ⟨h.bel' hf, h.keep h.cell (by decide) (by decide) (by decide) hf, h.hkb, hs, row_fr h.row hf fun k hk e => ?_, fun k hk => ⟨fun e => ?_, hsep k (row_block h.row hk).2.1 (h.ne k hk).2⟩⟩
 ·rcases e with e | e | e
  ·exact lies_ne_row h.stm.cell h.row (by decide) k hk e
  ·exact (h.ne k hk).1 e.symm
  ·obtain ⟨_, _, c1, hc1⟩ := row_block h.row hk
   obtain ⟨_, _, c2, hc2⟩ := row_block h.stm.frs e.symm
   rw [hc1] at hc2
   injection hc2 with hc2
   injection hc2 with _ h2 _
   exact absurd h2 (by decide)
 ·rcases hlv with hlv | hlv
  ·exact (h.ne k hk).1 (by rw [← hlv]; exact e)
  ·have := hlv k e
   have := (row_block h.row hk).2.1
   omega
/-- The stack stays while the checker's cell is worked on. -/
theorem Stm.frT {es : List TypeId} {H : Nat} {t : Stk} (h : Stm w H sb lv fv FV t) (hf : FrT es w w') (h1 : 172 ∉ es) (h2 : 5 ∉ es) (h3 : 178 ∉ es) : Stm w' H sb lv fv FV t :=
 ⟨lies_frT h.cell hf h1, h.hsb, row_frT h.row hf h2, row_frT h.frs hf h3, h.fs, fun x hx => ⟨wrow_frT (h.imm x hx).1 hf h2, wrow_frT (h.imm x hx).2 hf h2⟩, h.inv⟩
/-- The stack stays while a block of bytes turns that is none of its. -/
theorem Stm.off {H k : Nat} {t : Stk} {cur : Array Value} (h : Stm w H sb lv fv FV t) (hk : Lies w k 5 cur) (hf : Fr w w' (fun i => i = k)) (hl : lv.ownBlock ≠ some k) (hs : Sepn FV k) : Stm w' H sb lv fv FV t :=
 ⟨lies_fr h.cell hf (fun e => h.cell.ne hk (by decide) e), h.hsb, row_fr h.row hf (fun i hi e => hl (by rw [hi, e])), row_fr h.frs hf (fun i hi e => lies_ne_row hk h.frs (by decide) i hi e), h.fs,
  fun x hx => ⟨(h.imm x hx).1.kept hf (fun i _ hi e => (hs x hx).1 (by rw [← hi, e])), (h.imm x hx).2.kept hf (fun i _ hi e => (hs x hx).2 (by rw [← hi, e]))⟩, h.inv⟩
end
theorem sl_off {w w' : World} {v : Value} {L : Bts} {b : Nat} {t : TypeId} {lv fv : Value} {n : Int} (h : Sl w 1 u8c v L) (hl : Lies w b t #[lv, fv, .int .i64 n]) (h1 : ∃ s a c, lv = .slice s a c) (h2 : ∃ s a c, fv = .slice s a c) (hf : Fr w w' (fun k => k = b)) : Sl w' 1 u8c v L := by
 obtain ⟨s, c, rfl, hs⟩ := h
 refine ⟨s, c, rfl, fun hne => ?_⟩
 obtain ⟨g, off, e, hlt, hc⟩ := hs hne
 have hgb : g ≠ b := fun e => by
  subst e
  obtain ⟨x, hx⟩ : ∃ x, L[0]? = some x := ⟨_, List.getElem?_eq_getElem (List.length_pos_iff.2 hne)⟩
  have := hc 0 x hx 0 (.int .u8 x.toNat) rfl
  rw [hl.cell] at this
  obtain ⟨s1, a1, c1, rfl⟩ := h1
  obtain ⟨s2, a2, c2, rfl⟩ := h2
  rcases (by omega : off + 0 * 1 + 0 = 0 ∨ off + 0 * 1 + 0 = 1 ∨ off + 0 * 1 + 0 = 2 ∨ 3 ≤ off + 0 * 1 + 0) with e | e | e | e
  ·rw [e] at this; simp at this
  ·rw [e] at this; simp at this
  ·rw [e] at this; simp at this
  ·rw [Array.getElem?_eq_none (by simpa using e)] at this; cases this
 refine ⟨g, off, e, Nat.lt_of_lt_of_le hlt hf.size, fun i x hx j u hu => ?_⟩
 have h0 := hc i x hx j u hu
 have hb := hf.block g hlt (fun e => hgb e)
 simp only [World.cell?, hb]
 exact h0
/-- What a step tells and leaves. -/
def StepSays (W0 : World) (S0 : Nat) (fn : Ft) (c : Cod) (kb sb : Nat) (w' : World) (e : Ending) : R → Prop
 | .error n => e = .returned (.int .i64 n) ∧ Below W0.heap.size W0 w'
 | .ok s' => e = .returned (.int .i64 0) ∧ ∃ lv fv ov FV, Ck W0 w' S0 fn c kb sb lv fv ov FV s'
/-- What bounds a state. -/
structure Sm (s : St) : Prop where
 ne : s.t.fs ≠ []
 most : s.t.most ≤ 500000000
 fs : s.t.fs.length ≤ 1500000
 lab : ∀ f ∈ s.t.fs, f.lab.length ≤ 4000 ∧ f.ends.length ≤ 4000
theorem typed_any {W : World} (b : Bool) : Calls Tryz.prog 122 #[.bool b] W fun e w' => e = .returned (.int .i64 (if b then 0 else 100)) ∧ w' = W := by
 cases b
 ·go_enter Tryz.func122, Tryz.ntmps122
  go_wp2_with fail
  go_ret
  exact ⟨rfl, rfl⟩
 ·go_enter Tryz.func122, Tryz.ntmps122
  go_wp2_with fail
  go_ret
  exact ⟨rfl, rfl⟩
set_option maxRecDepth 100000 in
set_option maxHeartbeats 4000000 in
theorem takes_any {W0 w : World} {S0 kb sb : Nat} {fn : Ft} {c : Cod} {lv fv ov : Value} {FV : List Fv} {s : St} (h : Ck W0 w S0 fn c kb sb lv fv ov FV s) (hs : Sm s) {v1 v2 : Value} {ps rs : Bts} (h1 : Sl w 1 u8c v1 ps) (h2 : Sl w 1 u8c v2 rs) (hp : ps.length ≤ 4194304) (hr : rs.length ≤ 4194304) :
  Calls Tryz.prog 120 #[.pointer (some ⟨kb, 0, none⟩), v1, v2] w fun e w' => StepSays W0 S0 fn c kb sb w' e (takes s ps rs) := by
 have HC := zh h
 have H1 := zh h1
 have H2 := zh h2
 have HS := zh hs
 have k5 : w.cell? ⟨kb, 5, none⟩ = some (.pointer (some ⟨sb, 0, none⟩)) := h.cell.cell 5
 obtain ⟨sl, cl, hlv, _, _⟩ := row_form h.stm.row
 obtain ⟨sf, cf, hfv, _, _⟩ := row_form h.stm.frs
 have HLV := zh (show ∃ s a c, lv = .slice s a c from ⟨_, _, _, hlv⟩)
 have HFV := zh (show ∃ s a c, fv = .slice s a c from ⟨_, _, _, hfv⟩)
 clear h h1 h2 hs hlv hfv
 go_enter Tryz.func120, Tryz.ntmps120
 go_wp2_with fail
 refine (want_any HC.out.stm HS.out.ne (Nat.le_trans HS.out.fs (by decide)) (Nat.le_trans HS.out.most (by decide)) H1.out hp).mono ?_
 intro en w1 hw
 cases hwa : want s.t ps with
 | none =>
  rw [hwa] at hw
  obtain ⟨rfl, hb1⟩ := hw
  have HB := zh (HC.out.bel.trans (hb1.mono HC.out.bel.size))
  clear hb1
  go_wp2_with fail
  go_ret
  unfold takes
  rw [hwa]
  exact ⟨rfl, HB.out⟩
 | some t1 =>
  rw [hwa] at hw
  obtain ⟨rfl, lv1, hs1, hf1, hv1⟩ := hw
  have HC1 := zh (HC.out.stack hs1 (hf1.mono fun _ _ e => Or.inl e) (Or.inl hv1) (fun _ _ h => h))
  have H21 := zh (sl_off H2.out HC.out.stm.cell HLV.out HFV.out hf1)
  have hm1 : t1.most = s.t.most := by
   unfold want at hwa
   cases hl : left s.t ps with
   | none => rw [hl] at hwa; cases hwa
   | some n => rw [hl] at hwa; obtain rfl := Option.some.inj hwa; rfl
  clear k5 hs1 hf1 hv1
  have k5 : w1.cell? ⟨kb, 5, none⟩ = some (.pointer (some ⟨sb, 0, none⟩)) := HC1.out.cell.cell 5
  go_wp2_with fail
  refine (push_any HC1.out.stm HC1.out.bel.size H21.out (by show t1.most + _ ≤ _; have := HS.out.most; omega)).mono ?_
  rintro en w2 ⟨rfl, lv2, hs2, hf2, hv2⟩
  have HC2 := zh (HC1.out.stack hs2 hf2 (hv2.imp_right fun e k hk => by rw [e] at hk; injection hk with hk; omega) (fun _ _ h => h))
  clear k5 hs2 hf2 hv2
  go_wp2_with fail
  go_ret
  unfold takes
  rw [hwa]
  exact ⟨rfl, _, _, _, _, HC2.out⟩
end Go.Proofs.YtmgjcaikldeioaaGreat.Ty
