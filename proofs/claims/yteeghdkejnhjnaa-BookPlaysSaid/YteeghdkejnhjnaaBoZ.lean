/- The walk of the document's Events. -/
import Derived.Test.YteeghdkejnhjnaaBoR
import Derived.Test.YteeghdkejnhjnaaBoW
import Derived.Test.YteeghdkejnhjnaaBoQ
import Derived.Deep.MidRow
import Derived.Deep.WholeRow
import Derived.Lib.Walk
import Derived.Test.YteeghdkejnhjnaaKit
namespace Go.Proofs.Yteeghdkejnhjnaa.Bo
open Go Go.RowKit Go.Lib Kt Ad

theorem own_form {w : World} {base sz n : Nat} {t : TypeId} {v : Value} {xs : List Value} (h : w.ownsRow base t sz v n xs) : ∃ (s : Option Addr) (cap : Nat), v = .slice s n cap := by
  rcases h.2 with ⟨rfl, h0⟩ | ⟨g, cap, cur, rfl, _⟩
  · exact ⟨none, 0, by rw [h0]⟩
  · exact ⟨_, cap, rfl⟩
theorem sizeEv : (Try.prog.info? 66).map (·.size) = some 9 := by kernel_rfl
theorem wl_loadEv {ops : Array Oper} {rest : List Oper} {op : Oper} {a : Act} {w : World} {Q : Exit → Act → World → Prop} (x : Ev) (b o : Nat) (h : w.rangeAt b o x.cs) (p : Operand) (hgd : op.guard = none) (ho : op.op = .load 66 p)
    (hx : a.eval p = .pointer (some ⟨b, o, none⟩)) (hk : wpList Try.prog ops Q rest (a.put op.dst (.agg x.cs.toArray)) w) : wpList Try.prog ops Q (op :: rest) a w :=
  wpList_load_mid hgd 66 p ho b o hx x.cs _ h Try.underlying66 rfl sizeEv hk
theorem wl_bsliceEv {ops : Array Oper} {rest : List Oper} {op : Oper} {a : Act} {w : World} {Q : Exit → Act → World → Prop} (x : A8) (s : Option Addr) (n c : Nat) (b : List UInt8) (p0 : Operand) (hgd : op.guard = none) (ho : op.op = .buildSlice 51 1 #[(0, p0)]) (h0 : a.eval p0 = .agg (Ev.cs ⟨x, .slice s n c, b⟩).toArray)
    (hk : wpList Try.prog ops Q rest (a.put op.dst (.slice (some ⟨w.heap.size, 0, none⟩) 1 1)) (w.alloc (.cells (Ev.cs ⟨x, .slice s n c, b⟩).toArray 66))) : wpList Try.prog ops Q (op :: rest) a w :=
  wpList_plain hgd fun _ hK => wp_bslice x s n c b p0 ho h0 (hK _ _ hk)

set_option maxRecDepth 100000 in
set_option maxHeartbeats 4000000 in
theorem revents_neg {W : World} {own : Nat → Prop} {br : Nat} {vl vc : Value} {E : List Ev} {C : Cs} (h : Rk W own br vl vc E C) (k : Int) (hk : k < 0) :
    Calls Try.prog 35 #[.pointer (some ⟨br, 0, none⟩), .int .i64 k] W fun e w' => e = .returned (.slice none 0 0) ∧ w' = W := by
  obtain ⟨s, cap, rfl, _⟩ := h.row.form
  have hc := h.cell.cell 0
  simp only [List.getElem?_toArray, List.getElem?_cons_zero] at hc
  clear h
  go_enter Try.func35, Try.ntmps35
  go_wp2_with fail
  refine wp_loop_rounds 1 ?_
  rw [rounds_succ]
  by_cases h0 : 0 < E.length
  · go_wp2_with fail
    go_ret
    exact ⟨rfl, rfl⟩
  · have h1 : E.length = 0 := by omega
    go_wp2_with fail
    go_ret
    exact ⟨rfl, rfl⟩

set_option maxRecDepth 100000 in
set_option maxHeartbeats 4000000 in
theorem revents_in {W : World} {own : Nat → Prop} {br : Nat} {vl vc : Value} {E : List Ev} {C : Cs} (h : Rk W own br vl vc E C) (hN : E.length ≤ 1000000) (k : Nat) :
    Calls Try.prog 35 #[.pointer (some ⟨br, 0, none⟩), .int .i64 k] W fun e w' => ∃ v, e = .returned v ∧ Shows w' v (E.drop k) ∧ Below W.heap.size W w' := by
  obtain ⟨i0, hi, hz0, hz1, hz2⟩ := info_parts infoEv
  obtain ⟨s, cap, rfl, hle, hs⟩ := h.row.form
  have HS := Lib.hid hs
  have HR := Lib.hid (h.mono (own' := fun i => own i ∧ i < W.heap.size) (fun k hk ho => ⟨ho, hk⟩))
  clear h hs hle
  go_enter Try.func35, Try.ntmps35
  go_wp2_with fail
  go_loopw [5, 6] (fun o i wr => ∃ (j : Nat) (F : List Ev), j ≤ E.length ∧ i = .int .i64 j ∧ F = (E.take j).drop k ∧ wr.ownsRow W.heap.size 66 9 o F.length (F.flatMap Ev.cs) ∧ Rk wr (fun i => own i ∧ i < W.heap.size) br (.slice s E.length cap) vc E C ∧ Below W.heap.size W wr)
    (fun _ i _ => E.length - (intOf i).toNat)
  case atStart => exact ⟨0, [], by omega, rfl, by simp, World.ownsRow_nil _ _ _ _, HR.out, Below.refl _ _⟩
  case round =>
    clear HR
    obtain ⟨j, F, hj, rfl, hF, hO, hR, hB⟩ := hrel
    obtain ⟨so, co, rfl⟩ := own_form hO
    have HF := Lib.hid hF
    have HO := Lib.hid hO
    have HR := Lib.hid hR
    have HB := Lib.hid hB
    have hc := hR.cell.cell 0
    have hbr := hR.cell.lt
    simp only [List.getElem?_toArray, List.getElem?_cons_zero] at hc
    have hlF : F.length ≤ 1000000 := by rw [hF, List.length_drop, List.length_take]; omega
    clear hF hO hR hB
    by_cases hlt : j < E.length
    · obtain ⟨x, hx⟩ : ∃ x, E[j]? = some x := ⟨_, List.getElem?_eq_getElem hlt⟩
      have htk : E.take (j + 1) = E.take j ++ [x] := by rw [List.take_add_one, hx]; rfl
      by_cases hkj : k ≤ j
      · as_aux_lemma =>
          obtain ⟨g, rfl, _⟩ := HS.out (by omega)
          have HRE := Lib.hid (show wr.rangeAt g (j * 9) x.cs from fun t v hv => by
            have ht : t < 9 := by have := (List.getElem?_eq_some_iff.1 hv).1; rwa [Ev.len] at this
            exact (wrow_cell Ev.len HR.out.row hx ht).trans hv)
          obtain ⟨sv, cv, hxv⟩ := (HR.out.evs x (List.mem_of_getElem? hx)).form
          have HFN := Lib.hid (show F ++ [x] = (E.take (j + 1)).drop k from by rw [HF.out, htk, List.drop_append_of_le_length (by rw [List.length_take]; omega)])
          obtain ⟨xa, xv, xb⟩ := x
          simp only at hxv
          subst hxv
          clear hx htk HF
          go_wp2_with (first | (refine wl_loadEv ⟨xa, .slice sv xb.length cv, xb⟩ g (j * 9) HRE.out _ rfl rfl rfl ?_; simp only [Act.put, List.setIfInBounds_toArray, List.set_cons_zero, List.set_cons_succ]) | (refine wl_bsliceEv xa sv xb.length cv xb _ rfl rfl rfl ?_; simp only [Act.put, List.setIfInBounds_toArray, List.set_cons_zero, List.set_cons_succ]) | (at_builtin; refine wpList_append_own _ rfl _ _ 51 rfl W.heap.size 66 i0 _ 9 32 Try.underlying51 hi hz0 hz1 hz2 rfl (by decide) _ _ _ rfl (HO.out.alloc _) ⟨wr.heap.size, 0, none⟩ 1 1 (Ev.cs ⟨xa, .slice sv xb.length cv, xb⟩) rfl rfl (cells_new _ _ _) (fun u hu => by simp only [Ev.cs, List.mem_cons, List.not_mem_nil, or_false] at hu; rcases hu with rfl | rfl | rfl | rfl | rfl | rfl | rfl | rfl | rfl <;> rfl) (by unfold maxLen; omega) (by omega) (by have := HB.out.size; simp; omega) ?_; intro v' w1 hown hgrow _; obtain ⟨s5, c5, rfl⟩ := own_form hown; have HOW := Lib.hid hown; have HGR := Lib.hid hgrow; clear hown hgrow))
          go_roundw
          case rel =>
            refine ⟨j + 1, F ++ [⟨xa, .slice sv xb.length cv, xb⟩], by omega, by go_num, HFN.out, ?_, ?_, ?_⟩
            · rw [List.length_append, List.flatMap_append]
              simpa using HOW.out
            · exact (HR.out.later ((Below.refl _ _).alloc (Nat.le_refl _) _)).kept (Fr.of_grown HGR.out) (fun i hi e => by have := (HO.out.lt i e.symm).1; omega)
            · exact (HB.out.alloc HB.out.size _).grown HGR.out (by have := HB.out.size; simp; omega) (fun i e => (HO.out.lt i e).1)
          case measure => simp [intOf]; omega
      · as_aux_lemma =>
          have HFN := Lib.hid (show F = (E.take (j + 1)).drop k from by
            rw [HF.out, List.drop_of_length_le (by rw [List.length_take]; omega), List.drop_of_length_le (by rw [List.length_take]; omega)])
          clear hx htk
          go_wp2_with fail
          go_roundw
          case rel => exact ⟨j + 1, F, by omega, by go_num, HFN.out, HO.out, HR.out, HB.out⟩
          case measure => simp [intOf]; omega
    · obtain rfl : j = E.length := by omega
      go_wp2_with fail
      go_ret
      have hF := HF.out
      rw [List.take_length] at hF
      rw [← hF]
      refine ⟨.slice so F.length co, rfl, WRow.shows (WRow.of_own (own := fun _ => True) HO.out (fun _ _ => trivial)) (fun x hx => (HR.out.evs x (List.mem_of_mem_drop (hF ▸ hx))).byt), HB.out⟩

theorem revents_any {W : World} {own : Nat → Prop} {br : Nat} {vl vc : Value} {E : List Ev} {C : Cs} (h : Rk W own br vl vc E C) (hN : E.length ≤ 1000000) (k : Int) :
    Calls Try.prog 35 #[.pointer (some ⟨br, 0, none⟩), .int .i64 k] W fun e w' => ∃ v, e = .returned v ∧ Shows w' v (if k < 0 then [] else E.drop k.toNat) ∧ Below W.heap.size W w' := by
  by_cases h0 : k < 0
  · refine (revents_neg h k h0).mono ?_
    rintro e w' ⟨rfl, rfl⟩
    rw [if_pos h0]
    exact ⟨_, rfl, ⟨⟨none, 0, rfl, fun h => absurd rfl h⟩, by simp⟩, Below.refl _ _⟩
  · obtain ⟨n, rfl⟩ : ∃ n : Nat, k = n := ⟨k.toNat, by omega⟩
    rw [if_neg h0, Int.toNat_natCast]
    exact revents_in h hN n
end Go.Proofs.Yteeghdkejnhjnaa.Bo
