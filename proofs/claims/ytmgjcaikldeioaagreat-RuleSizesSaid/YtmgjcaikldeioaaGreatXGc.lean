/- slices.Clone of what a slice shows. -/
import Derived.Test.YtmgjcaikldeioaaGreatXGa
import Derived.Lib.Walk
namespace Go.Proofs.YtmgjcaikldeioaaGreat.Gr
open Go Go.RowKit Go.Lib Kt Fm

theorem info_of {P : Program} {ty : TypeId} {sz b : Nat} (h : (P.info? ty).map (fun i => (i.zero.map (·.cells.size), i.size, i.bytes)) = some (some sz, sz, b)) : ∃ i z, P.info? ty = some i ∧ i.zero = some z ∧ i.size = sz ∧ i.bytes = b ∧ z.cells.size = sz := by
 cases hq : P.info? ty with
 | none => simp [hq] at h
 | some i =>
  cases hz : i.zero with
  | none => simp [hq, hz] at h
  | some z =>
   simp [hq, hz] at h
   exact ⟨i, z, rfl, hz, h.2.1, h.2.2, h.1⟩
/-- The cells that a slice shows, one after the other. -/
theorem sl_flat {α : Type} {W : World} {sz : Nat} {en : α → List Value} {L : List α} {a : Addr} {n c : Nat} (hlen : ∀ x, (en x).length = sz) (h : Sl W sz en (.slice (some a) n c) L) : ∀ j u, (L.flatMap en)[j]? = some u → W.cell? (a.add j) = some u := by
 intro j u hj
 have hjl : j < L.length * sz := by rw [← length_flat hlen]; exact (List.getElem?_eq_some_iff.1 hj).1
 have hpos : 0 < sz := by
  rcases Nat.eq_zero_or_pos sz with h0 | h0
  ·rw [h0] at hjl; omega
  ·exact h0
 have hi : j / sz < L.length := Nat.div_lt_of_lt_mul (by rw [Nat.mul_comm]; exact hjl)
 have hm : j % sz < sz := Nat.mod_lt _ hpos
 have hL := List.getElem?_eq_getElem hi
 have hf := getElem?_flat hlen hL hm
 have hjj : j / sz * sz + j % sz = j := by rw [Nat.mul_comm]; exact Nat.div_add_mod j sz
 rw [hjj, hj] at hf
 obtain ⟨s, cap, e, hs⟩ := h
 injection e with e1
 obtain ⟨g, off, e2, _, hc⟩ := hs (by intro e; rw [e] at hi; simp at hi)
 subst e1
 injection e2 with e2
 subst e2
 rw [Addr.add_lit, ← hjj, ← Nat.add_assoc]
 exact hc _ _ hL _ _ hf.symm
theorem info_u8 : (Tryz.prog.info? 5).map (fun i => (i.zero.map (·.cells.size), i.size, i.bytes)) = some (some 1, 1, 1) := by kernel_rfl
theorem eql_u8 (w : World) (a : Option Addr) (n c n' c' : Nat) : (binOp .eql 49 (.slice a n c) (.slice none n' c')).run Tryz.prog w = .ok (.bool a.isNone) w := Lib.run_eql_slice_nil w _ _ a n c n' c' Tryz.underlying49
set_option maxHeartbeats 2000000 in
set_option maxRecDepth 100000 in
theorem clone_u8 {W : World} {v : Value} {L : List UInt8} (h : Sl W 1 u8c v L) (hn : L.length ≤ 4194304) :
  Calls Tryz.prog 82 #[v] W fun e w' => ∃ v', e = .returned v' ∧ w'.ownsRow W.heap.size 5 1 v' L.length (L.flatMap u8c) ∧ Below W.heap.size W w' := by
 have q := eql_u8
 obtain ⟨s, cap, rfl, hb⟩ := h.form
 cases s with
 | none =>
  have hb0 : L = [] := by
   by_cases h0 : L = []
   ·exact h0
   ·obtain ⟨g, off, e, _⟩ := hb h0; cases e
  subst hb0
  clear hb h
  go_enter Tryz.func82, Tryz.ntmps82
  go_wp2
  go_ret
  exact ⟨_, rfl, World.ownsRow_nil _ _ _ _, Below.refl _ _⟩
 | some a =>
  obtain ⟨i0, z, hi, hz0, hz1, hz2, hz3⟩ := info_of info_u8
  have A := zh (sl_flat (sz := 1) (en := u8c) (fun _ => rfl) h)
  clear hb h
  go_enter Tryz.func82, Tryz.ntmps82
  go_wp2_with (at_builtin; refine wpList_append_own _ rfl _ _ 49 rfl W.heap.size 5 i0 z 1 1 Tryz.underlying49 hi hz0 hz1 hz2 hz3 (by decide) _ _ _ rfl (World.ownsRow_made W #[] 0 (Nat.le_refl _) (Nat.zero_le _) rfl) a L.length cap (L.flatMap u8c) rfl ?qc1 ?qc2 ?qc3 ?qc4 ?qc5 ?qc6 ?_)
  case qc1 => exact length_flat (enc := u8c) (m := 1) (fun _ => rfl) L
  case qc2 => exact fun j u hj => Lib.cell?_alloc_some _ (A.out j u hj)
  case qc3 =>
   intro u hu
   obtain ⟨x, _, hu⟩ := List.mem_flatMap.1 hu
   simp only [u8c, List.mem_cons, List.not_mem_nil, or_false] at hu
   subst hu; rfl
  case qc4 => unfold maxLen; omega
  case qc5 => omega
  case qc6 => simp
  intro v' w1 hown hgrow _
  obtain ⟨s', c', hs'⟩ : ∃ s' c', v' = .slice s' L.length c' := by
   rcases hown.2 with ⟨rfl, h0⟩ | ⟨g, cap, cur, rfl, _⟩
   ·exact ⟨none, 0, by rw [show L.length = 0 by omega]⟩
   ·exact ⟨_, _, rfl⟩
  have HO := zh hown
  have HG := zh hgrow
  subst hs'
  clear hown hgrow
  go_wp2
  go_ret
  refine ⟨_, rfl, ?_, ((Below.refl _ W).alloc (Nat.le_refl _) _).grown HG.out (by simp) (by intro k hk; simp [Value.ownBlock] at hk; omega)⟩
  have := HO.out
  simpa using this
theorem info_imp : (Tryz.prog.info? 88).map (fun i => (i.zero.map (·.cells.size), i.size, i.bytes)) = some (some 8, 8, 64) := by kernel_rfl
theorem eql_imp (w : World) (a : Option Addr) (n c n' c' : Nat) : (binOp .eql 23 (.slice a n c) (.slice none n' c')).run Tryz.prog w = .ok (.bool a.isNone) w := Lib.run_eql_slice_nil w _ _ a n c n' c' Tryz.underlying23
set_option maxHeartbeats 2000000 in
set_option maxRecDepth 100000 in
theorem clone_imp {W : World} {v : Value} {L : List Imp} (h : Sl W 8 Imp.cs v L) (hn : L.length ≤ 4194304) :
  Calls Tryz.prog 84 #[v] W fun e w' => ∃ v', e = .returned v' ∧ w'.ownsRow W.heap.size 88 8 v' L.length (L.flatMap Imp.cs) ∧ Below W.heap.size W w' := by
 have q := eql_imp
 obtain ⟨s, cap, rfl, hb⟩ := h.form
 cases s with
 | none =>
  have hb0 : L = [] := by
   by_cases h0 : L = []
   ·exact h0
   ·obtain ⟨g, off, e, _⟩ := hb h0; cases e
  subst hb0
  clear hb h
  go_enter Tryz.func84, Tryz.ntmps84
  go_wp2
  go_ret
  exact ⟨_, rfl, World.ownsRow_nil _ _ _ _, Below.refl _ _⟩
 | some a =>
  obtain ⟨i0, z, hi, hz0, hz1, hz2, hz3⟩ := info_of info_imp
  have A := zh (sl_flat (sz := 8) (en := Imp.cs) (fun _ => rfl) h)
  clear hb h
  go_enter Tryz.func84, Tryz.ntmps84
  go_wp2_with (at_builtin; refine wpList_append_own _ rfl _ _ 23 rfl W.heap.size 88 i0 z 8 64 Tryz.underlying23 hi hz0 hz1 hz2 hz3 (by decide) _ _ _ rfl (World.ownsRow_made W #[] 0 (Nat.le_refl _) (Nat.zero_le _) rfl) a L.length cap (L.flatMap Imp.cs) rfl ?qc1 ?qc2 ?qc3 ?qc4 ?qc5 ?qc6 ?_)
  case qc1 => exact length_flat (enc := Imp.cs) (m := 8) (fun _ => rfl) L
  case qc2 => exact fun j u hj => Lib.cell?_alloc_some _ (A.out j u hj)
  case qc3 =>
   intro u hu
   obtain ⟨x, _, hu⟩ := List.mem_flatMap.1 hu
   simp only [Imp.cs, List.mem_cons, List.not_mem_nil, or_false] at hu
   rcases hu with rfl | rfl | rfl | rfl | rfl | rfl | rfl | rfl <;> rfl
  case qc4 => unfold maxLen; omega
  case qc5 => omega
  case qc6 => simp
  intro v' w1 hown hgrow _
  obtain ⟨s', c', hs'⟩ : ∃ s' c', v' = .slice s' L.length c' := by
   rcases hown.2 with ⟨rfl, h0⟩ | ⟨g, cap, cur, rfl, _⟩
   ·exact ⟨none, 0, by rw [show L.length = 0 by omega]⟩
   ·exact ⟨_, _, rfl⟩
  have HO := zh hown
  have HG := zh hgrow
  subst hs'
  clear hown hgrow
  go_wp2
  go_ret
  refine ⟨_, rfl, ?_, ((Below.refl _ W).alloc (Nat.le_refl _) _).grown HG.out (by simp) (by intro k hk; simp [Value.ownBlock] at hk; omega)⟩
  have := HO.out
  simpa using this
theorem info_exp : (Tryz.prog.info? 61).map (fun i => (i.zero.map (·.cells.size), i.size, i.bytes)) = some (some 3, 3, 24) := by kernel_rfl
theorem eql_exp (w : World) (a : Option Addr) (n c n' c' : Nat) : (binOp .eql 27 (.slice a n c) (.slice none n' c')).run Tryz.prog w = .ok (.bool a.isNone) w := Lib.run_eql_slice_nil w _ _ a n c n' c' Tryz.underlying27
set_option maxHeartbeats 2000000 in
set_option maxRecDepth 100000 in
theorem clone_exp {W : World} {v : Value} {L : List Exp} (h : Sl W 3 Exp.cs v L) (hn : L.length ≤ 4194304) :
  Calls Tryz.prog 55 #[v] W fun e w' => ∃ v', e = .returned v' ∧ w'.ownsRow W.heap.size 61 3 v' L.length (L.flatMap Exp.cs) ∧ Below W.heap.size W w' := by
 have q := eql_exp
 obtain ⟨s, cap, rfl, hb⟩ := h.form
 cases s with
 | none =>
  have hb0 : L = [] := by
   by_cases h0 : L = []
   ·exact h0
   ·obtain ⟨g, off, e, _⟩ := hb h0; cases e
  subst hb0
  clear hb h
  go_enter Tryz.func55, Tryz.ntmps55
  go_wp2
  go_ret
  exact ⟨_, rfl, World.ownsRow_nil _ _ _ _, Below.refl _ _⟩
 | some a =>
  obtain ⟨i0, z, hi, hz0, hz1, hz2, hz3⟩ := info_of info_exp
  have A := zh (sl_flat (sz := 3) (en := Exp.cs) (fun _ => rfl) h)
  clear hb h
  go_enter Tryz.func55, Tryz.ntmps55
  go_wp2_with (at_builtin; refine wpList_append_own _ rfl _ _ 27 rfl W.heap.size 61 i0 z 3 24 Tryz.underlying27 hi hz0 hz1 hz2 hz3 (by decide) _ _ _ rfl (World.ownsRow_made W #[] 0 (Nat.le_refl _) (Nat.zero_le _) rfl) a L.length cap (L.flatMap Exp.cs) rfl ?qc1 ?qc2 ?qc3 ?qc4 ?qc5 ?qc6 ?_)
  case qc1 => exact length_flat (enc := Exp.cs) (m := 3) (fun _ => rfl) L
  case qc2 => exact fun j u hj => Lib.cell?_alloc_some _ (A.out j u hj)
  case qc3 =>
   intro u hu
   obtain ⟨x, _, hu⟩ := List.mem_flatMap.1 hu
   simp only [Exp.cs, List.mem_cons, List.not_mem_nil, or_false] at hu
   rcases hu with rfl | rfl | rfl <;> rfl
  case qc4 => unfold maxLen; omega
  case qc5 => omega
  case qc6 => simp
  intro v' w1 hown hgrow _
  obtain ⟨s', c', hs'⟩ : ∃ s' c', v' = .slice s' L.length c' := by
   rcases hown.2 with ⟨rfl, h0⟩ | ⟨g, cap, cur, rfl, _⟩
   ·exact ⟨none, 0, by rw [show L.length = 0 by omega]⟩
   ·exact ⟨_, _, rfl⟩
  have HO := zh hown
  have HG := zh hgrow
  subst hs'
  clear hown hgrow
  go_wp2
  go_ret
  refine ⟨_, rfl, ?_, ((Below.refl _ W).alloc (Nat.le_refl _) _).grown HG.out (by simp) (by intro k hk; simp [Value.ownBlock] at hk; omega)⟩
  have := HO.out
  simpa using this
end Go.Proofs.YtmgjcaikldeioaaGreat.Gr
