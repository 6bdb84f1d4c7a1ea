/- The blocks that are open (instr.marks): next. -/
import Derived.Test.YtmgjcaikldeioaaGreatXUb
namespace Go.Proofs.YtmgjcaikldeioaaGreat.Ty
open Go Go.RowKit Go.Lib Kt Fm Gr

theorem und_mk : Tryz.prog.underlying 164 = some (.slice 5) := by kernel_rfl
theorem siz_mk : (Tryz.prog.info? 164).map (·.size) = some 1 := by kernel_rfl
theorem bs_mk (n : Int) (w : World) : (Instr.buildSlice 164 1 #[(0, .int .u8 n)]).run Tryz.prog w = .ok (.slice (some ⟨w.heap.size, 0, none⟩) 1 1) (w.alloc (.cells [.int .u8 n].toArray 5)) := by kernel_rfl
theorem wl_bm {ops : Array Oper} {rest : List Oper} {op : Oper} {a : Act} {w : World} {Q : Exit → Act → World → Prop} (c : Int) (p0 : Operand) (hgd : op.guard = none) (ho : op.op = .buildSlice 164 1 #[(0, p0)]) (h0 : a.eval p0 = .int .u8 c)
  (hK : ∀ w1, Below w.heap.size w w1 → Sl w1 1 oc (.slice (some ⟨w.heap.size, 0, none⟩) 1 1) [.int .u8 c] → wpList Tryz.prog ops Q rest (a.put op.dst (.slice (some ⟨w.heap.size, 0, none⟩) 1 1)) w1) : wpList Tryz.prog ops Q (op :: rest) a w :=
 wl_bs1 (.int .u8 c) [.int .u8 c] (bs_mk c) p0 hgd ho h0 fun w1 h1 h2 => hK w1 h1 (sl_one (en := oc) h2)
theorem siz_u8' : (Tryz.prog.info? 5).map (·.size) = some 1 := by kernel_rfl
/-- What next tells and leaves. -/
def NextSays (W w' : World) (H mb : Nat) (v : Value) (e : Ending) : Option Bts → Prop
 | none => ∃ a b : Bool, e = .returned (.tuple #[.bool a, .bool b]) ∧ (a || b) = true ∧ w' = W
 | some o' => e = .returned (.tuple #[.bool false, .bool false]) ∧ ∃ v', Lies w' mb 164 #[v'] ∧ w'.ownsRow H 5 1 v' o'.length (o'.flatMap u8c) ∧ Fr W w' (fun k => k = mb ∨ some k = v.ownBlock) ∧ (v'.ownBlock = v.ownBlock ∨ ∀ k, v'.ownBlock = some k → W.heap.size ≤ k)
theorem lies_ne_row {w : World} {b : Nat} {t e : TypeId} {cs : Array Value} {H n sz : Nat} {v : Value} {xs : List Value} (hl : Lies w b t cs) (ho : w.ownsRow H e sz v n xs) (ht : t ≠ e) : ∀ k, v.ownBlock = some k → k ≠ b := fun k hk e => by
 subst e
 obtain ⟨_, _, cur, hc⟩ := row_block ho hk
 rw [show w.heap[k]? = _ from hl] at hc
 injection hc with hc
 injection hc with _ h2 _
 exact ht h2
theorem next_put {W w1 w2 w3 : World} {H mb : Nat} {v v' : Value} {o o' : Bts} (hl : Lies W mb 164 #[v]) (hr : W.ownsRow H 5 1 v o.length (o.flatMap u8c)) (hb : Below W.heap.size W w1) (hr2 : w2.ownsRow H 5 1 v' o'.length (o'.flatMap u8c)) (hg : w1.grownBy w2 v.ownBlock) (hv : v'.ownBlock = v.ownBlock ∨ v'.ownBlock = some w1.heap.size)
  (_ : Lies w3 mb 164 #[v']) (hf : Fr w2 w3 (fun k => k = mb)) : w3.ownsRow H 5 1 v' o'.length (o'.flatMap u8c) ∧ Fr W w3 (fun k => k = mb ∨ some k = v.ownBlock) ∧ (v'.ownBlock = v.ownBlock ∨ ∀ k, v'.ownBlock = some k → W.heap.size ≤ k) := by
 have hl2 : Lies w2 mb 164 #[v] := lies_frT (hl.below hb hl.lt) (FrT.grown (ownsRow_keep hr hb) hg) (by decide)
 refine ⟨row_fr hr2 hf (lies_ne_row hl2 hr2 (by decide)), ((Fr.of_below hb _).trans ((Fr.of_grown hg).mono fun k _ e => Or.inr e)).trans (hf.mono fun k _ e => Or.inl e), ?_⟩
 rcases hv with e | e
 ·exact Or.inl e
 ·exact Or.inr fun k hk => by rw [e] at hk; injection hk with hk; rw [← hk]; exact hb.size
set_option maxRecDepth 100000 in
set_option maxHeartbeats 8000000 in
theorem next_push {W : World} {H mb : Nat} {v : Value} {o : Bts} {op : UInt8} (hl : Lies W mb 164 #[v]) (hr : W.ownsRow H 5 1 v o.length (o.flatMap u8c)) (hH : H ≤ W.heap.size) (hbd : o.length ≤ 1000000000) (h2 : op = 2 ∨ op = 3 ∨ op = 4) :
  Calls Tryz.prog 86 #[.pointer (some ⟨mb, 0, none⟩), .int .u8 op.toNat] W fun e w' => NextSays W w' H mb v e (some (o ++ [op])) := by
 obtain ⟨sv, cv, rfl, hle, hsv⟩ := row_form hr
 have HL := zh hl
 have HR := zh hr
 have HH := zh hH
 have hc : W.cell? ⟨mb, 0, none⟩ = some (.slice sv o.length cv) := hl.cell 0
 clear hl hr hH
 rcases h2 with rfl | rfl | rfl
 all_goals
  go_enter Tryz.func86, Tryz.ntmps86
  go_wp2_with (first | (refine wl_bm _ _ rfl rfl rfl (fun w1 hb1 hl1 => ?_); have HB1 := zh hb1; have HS1 := zh hl1; have HR1 := zh (ownsRow_keep HR.out hb1); clear hb1 hl1; try simp only [Act.put, sA, sB, sC]) | (refine wl_app (by_ := 1) _ _ rfl rfl und_mk inf_u8 (by decide) rfl HR1.out (fun _ => rfl) rfl HS1.out (one_oc _) (by simp [maxLen]; omega) (by simp; omega) (Nat.le_trans HH.out HB1.out.size) (fun v2 w2 ho2 hg2 hv2 => ?_); obtain ⟨s2, c2, rfl, _, _⟩ := row_form ho2; have HO2 := zh ho2; have HG2 := zh hg2; have HV2 := zh hv2; have HL2 := zh (lies_frT (HL.out.below HB1.out HL.out.lt) (FrT.grown HR1.out hg2) (by decide)); clear ho2 hg2 hv2; try simp only [Act.put, sA, sB, sC]) | (refine wl_fld (c0 := [.slice sv o.length cv]) HL2.out _ _ rfl rfl rfl rfl [.slice s2 (o.length + 1) c2] [.slice s2 (o.length + 1) c2] rfl siz_mk (by intro u hu; obtain rfl := List.mem_singleton.1 hu; rfl) (by simp) rfl (fun w3 hl3 hf3 => ?_); have HL3 := zh hl3; have HF3 := zh hf3; clear hl3 hf3; try simp only [Act.put]))
  go_ret2
  obtain ⟨h1, h2, h3⟩ := next_put (o' := o ++ [_]) HL.out HR.out HB1.out (by rw [List.length_append, List.flatMap_append]; exact HO2.out) HG2.out HV2.out HL3.out HF3.out
  exact ⟨rfl, _, HL3.out, h1, h2, h3⟩
set_option maxRecDepth 100000 in
set_option maxHeartbeats 8000000 in
theorem next_else {W : World} {H mb : Nat} {v : Value} {o : Bts} (hl : Lies W mb 164 #[v]) (hr : W.ownsRow H 5 1 v o.length (o.flatMap u8c)) (hbd : o.length ≤ 1000000000) :
  Calls Tryz.prog 86 #[.pointer (some ⟨mb, 0, none⟩), .int .u8 5] W fun e w' => NextSays W w' H mb v e (if o.getLast? = some 4 then some (o.dropLast ++ [5]) else none) := by
 obtain ⟨sv, cv, rfl, hle, hsv⟩ := row_form hr
 have HL := zh hl
 have HR := zh hr
 have hc : W.cell? ⟨mb, 0, none⟩ = some (.slice sv o.length cv) := hl.cell 0
 clear hl
 rcases o.eq_nil_or_concat with rfl | ⟨ys, t, hoo⟩
 ·rw [if_neg (by simp)]
  clear hsv hr
  go_enter Tryz.func86, Tryz.ntmps86
  go_wp2_with fail
  go_ret2
  exact ⟨_, _, rfl, rfl, rfl⟩
 ·rw [List.concat_eq_append] at hoo
  subst hoo
  obtain ⟨g, rfl⟩ := hsv (by simp)
  obtain ⟨q, hq⟩ : ∃ q, q = ys.length := ⟨_, rfl⟩
  have hol : (ys ++ [t]).length = q + 1 := by rw [hq]; simp
  rw [hol] at hc hle hbd
  have hq1 : ((q + 1 : Nat) : Int) - 1 = (q : Int) := by omega
  have hwq := wrap_ok (q := q) (by omega)
  have hqn : ¬ (q : Int) < 0 := by omega
  have hcl : W.cell? ⟨g, q, none⟩ = some (.int .u8 t.toNat) := by
   have := row_at (en := u8c) (fun _ => rfl) hr (i := q) (x := t) (by rw [hq]; simp) 0 _ rfl
   rw [Nat.mul_one, Nat.add_zero] at this
   exact this
  rw [List.getLast?_concat, List.dropLast_concat]
  by_cases h4 : t = 4
  ·subst h4
   rw [if_pos rfl]
   have HQ := zh hq
   have HOL := zh hol
   have HR' := zh hr
   rw [hol] at HR'
   clear hr hq hol
   rw [HOL.out]
   go_enter Tryz.func86, Tryz.ntmps86
   go_wp2_with (refine wl_cell (v := .int .u8 5) (o := q) HR'.out (by rw [length_flat (m := 1) (fun _ => rfl), HOL.out]; omega) _ _ rfl rfl rfl rfl rfl siz_u8' rfl (fun w2 hr2 hg2 => ?_); have HR2 := zh hr2; have HG2 := zh hg2; clear hr2 hg2; try simp only [Act.put])
   go_ret2
   have hT := FrT.grown HR'.out HG2.out
   have e1 : ((ys ++ [4]).flatMap u8c).set q (.int .u8 5) = (ys ++ [5]).flatMap u8c := by
    have e0 : (ys.flatMap u8c).length = q := by rw [length_flat (m := 1) (fun _ => rfl), HQ.out, Nat.mul_one]
    rw [List.flatMap_append, List.flatMap_append, List.set_append_right _ _ (by rw [e0]; exact Nat.le_refl _), e0, Nat.sub_self]
    rfl
   have e2 : (ys ++ [5]).length = q + 1 := by rw [HQ.out]; simp
   refine ⟨rfl, _, ?_, ?_, (Fr.of_grown HG2.out).mono fun k _ e => Or.inr e, Or.inl rfl⟩
   ·have h := lies_frT HL.out hT (by decide)
    rw [HOL.out] at h
    exact h
   ·rw [e2, ← e1]
    exact HR2.out
  ·rw [if_neg (by intro e; injection e with e; exact h4 e)]
   have h4' : ¬ (t.toNat : Int) = 4 := fun e => h4 (by rw [← UInt8.toNat_inj]; show t.toNat = 4; omega)
   clear hr hq hsv
   rw [hol]
   go_enter Tryz.func86, Tryz.ntmps86
   go_wp2_with fail
   go_ret2
   exact ⟨_, _, rfl, rfl, rfl⟩
set_option maxRecDepth 100000 in
set_option maxHeartbeats 8000000 in
theorem next_end {W : World} {H mb : Nat} {v : Value} {o : Bts} (hl : Lies W mb 164 #[v]) (hr : W.ownsRow H 5 1 v o.length (o.flatMap u8c)) (hbd : o.length ≤ 1000000000) :
  Calls Tryz.prog 86 #[.pointer (some ⟨mb, 0, none⟩), .int .u8 11] W fun e w' => NextSays W w' H mb v e (if o = [] then none else some o.dropLast) := by
 obtain ⟨sv, cv, rfl, hle, hsv⟩ := row_form hr
 have HL := zh hl
 have hc : W.cell? ⟨mb, 0, none⟩ = some (.slice sv o.length cv) := hl.cell 0
 clear hl
 rcases o.eq_nil_or_concat with rfl | ⟨ys, t, hoo⟩
 ·rw [if_pos rfl]
  clear hsv hr
  go_enter Tryz.func86, Tryz.ntmps86
  go_wp2_with fail
  go_ret2
  exact ⟨_, _, rfl, rfl, rfl⟩
 ·rw [List.concat_eq_append] at hoo
  subst hoo
  obtain ⟨g, rfl⟩ := hsv (by simp)
  obtain ⟨q, hq⟩ : ∃ q, q = ys.length := ⟨_, rfl⟩
  have hol : (ys ++ [t]).length = q + 1 := by rw [hq]; simp
  have HR := zh hr
  rw [hol] at hc hle hbd HR HL ⊢
  have hq1 : ((q + 1 : Nat) : Int) - 1 = (q : Int) := by omega
  have hwq := wrap_ok (q := q) (by omega)
  have hqn : ¬ (q : Int) < 0 := by omega
  have hqc : q ≤ cv := by omega
  have hqc2 : (q : Int) ≤ (cv : Int) := by omega
  rw [if_neg (by simp), List.dropLast_concat]
  have HQ := zh hq
  clear hr hq hol hsv
  go_enter Tryz.func86, Tryz.ntmps86
  go_wp2_with (refine wl_fld (c0 := [.slice (some ⟨g, 0, none⟩) (q + 1) cv]) HL.out _ _ rfl rfl rfl rfl [.slice (some ⟨g, 0, none⟩) q cv] [.slice (some ⟨g, 0, none⟩) q cv] rfl siz_mk (by intro u hu; obtain rfl := List.mem_singleton.1 hu; rfl) (by simp) rfl (fun w3 hl3 hf3 => ?_); have HL3 := zh hl3; have HF3 := zh hf3; clear hl3 hf3; try simp only [Act.put])
  go_ret2
  have h1 := row_take (row_frT HR.out (FrT.field HL.out HF3.out) (by decide)) (k := q) (by omega)
  have e1 : ((ys ++ [t]).flatMap u8c).take q = ys.flatMap u8c := by
   have e0 : (ys.flatMap u8c).length = q := by rw [length_flat (m := 1) (fun _ => rfl), HQ.out, Nat.mul_one]
   rw [List.flatMap_append, List.take_append_of_le_length (by rw [e0]; exact Nat.le_refl _), List.take_of_length_le (by rw [e0]; exact Nat.le_refl _)]
  rw [e1] at h1
  exact ⟨rfl, _, HL3.out, by rw [← HQ.out]; exact h1, HF3.out.mono fun k _ e => Or.inl e, Or.inl rfl⟩
set_option maxRecDepth 100000 in
set_option maxHeartbeats 8000000 in
theorem next_other {W : World} {H mb : Nat} {v : Value} {o : Bts} {op : UInt8} (hl : Lies W mb 164 #[v]) (hr : W.ownsRow H 5 1 v o.length (o.flatMap u8c)) (h2 : ¬ (op.toNat : Int) = 2) (h3 : ¬ (op.toNat : Int) = 3) (h4 : ¬ (op.toNat : Int) = 4) (h5 : ¬ (op.toNat : Int) = 5) (h11 : ¬ (op.toNat : Int) = 11) :
  Calls Tryz.prog 86 #[.pointer (some ⟨mb, 0, none⟩), .int .u8 op.toNat] W fun e w' => NextSays W w' H mb v e (some o) := by
 obtain ⟨sv, cv, rfl, hle, hsv⟩ := row_form hr
 have HL := zh hl
 have HR := zh hr
 have hc : W.cell? ⟨mb, 0, none⟩ = some (.slice sv o.length cv) := hl.cell 0
 clear hl hr hsv
 go_enter Tryz.func86, Tryz.ntmps86
 go_wp2_with fail
 go_ret2
 exact ⟨rfl, _, HL.out, HR.out, Fr.refl _ _, Or.inl rfl⟩
theorem next_any {W : World} {H mb : Nat} {v : Value} {o : Bts} {op : UInt8} (hl : Lies W mb 164 #[v]) (hr : W.ownsRow H 5 1 v o.length (o.flatMap u8c)) (hH : H ≤ W.heap.size) (hbd : o.length ≤ 1000000000) :
  Calls Tryz.prog 86 #[.pointer (some ⟨mb, 0, none⟩), .int .u8 op.toNat] W fun e w' => NextSays W w' H mb v e (mark o op) := by
 unfold mark
 by_cases h2 : op = 2 ∨ op = 3 ∨ op = 4
 ·rw [if_pos h2]
  exact next_push hl hr hH hbd h2
 ·rw [if_neg h2]
  by_cases h5 : op = 5
  ·rw [if_pos h5]
   subst h5
   exact next_else hl hr hbd
  ·rw [if_neg h5]
   by_cases h11 : op = 11
   ·rw [if_pos h11]
    subst h11
    exact next_end hl hr hbd
   ·rw [if_neg h11]
    have one : ∀ n : UInt8, op ≠ n → ¬ (op.toNat : Int) = (n.toNat : Int) := fun n h e => h (by rw [← UInt8.toNat_inj]; omega)
    exact next_other hl hr (one 2 fun e => h2 (Or.inl e)) (one 3 fun e => h2 (Or.inr (Or.inl e))) (one 4 fun e => h2 (Or.inr (Or.inr e))) (one 5 h5) (one 11 h11)
end Go.Proofs.YtmgjcaikldeioaaGreat.Ty
