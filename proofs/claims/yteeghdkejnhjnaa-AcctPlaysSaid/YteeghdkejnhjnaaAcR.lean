/- The walks of the document's Add, Sub, Bump, Move, Total. -/
import Derived.Test.YteeghdkejnhjnaaAcQ
import Derived.Deep.MidRow
import Derived.Deep.WholeRow
import Derived.IntWalk
namespace Go.Proofs.Yteeghdkejnhjnaa.Ac
open Go Go.RowKit Kt Ad

theorem sizeEnt : (Try.prog.info? 93).map (·.size) = some 10 := by kernel_rfl
theorem oneEnt (x : Ent) : x.cs.toArray.all (·.oneCell') = true := by simp [Ent.cs, Value.oneCell']
theorem we_store {ops : Array Oper} {rest : List Oper} {op : Oper} {a : Act} {w : World} {Q : Exit → Act → World → Prop} (x : Ent) (p y : Operand) {c0 : Array Value} (hgd : op.guard = none) (ho : op.op = .store 93 p y)
    (hx : a.eval p = .pointer (some ⟨w.heap.size, 0, none⟩)) (hy : a.eval y = .agg x.cs.toArray) (hs : c0.size = 10)
    (hk : wpList Try.prog ops Q rest (a.put op.dst undef) (w.alloc (.cells x.cs.toArray 93))) : wpList Try.prog ops Q (op :: rest) a (w.alloc (.cells c0 93)) := by
  refine wpList_plain hgd fun _ hK => ?_
  unfold Oper.wp execOp
  simp only [ho, hx, hy, run_storeAt_new (P := Try.prog) w 93 c0 x.cs.toArray sizeEnt hs (oneEnt x), Sem.run_bind, Sem.run_pure, Result.andThen_ok]
  exact hK _ _ hk
theorem we_load {ops : Array Oper} {rest : List Oper} {op : Oper} {a : Act} {w : World} {Q : Exit → Act → World → Prop} (x : Ent) (b o : Nat) (h : w.rangeAt b o x.cs) (p : Operand) (hgd : op.guard = none) (ho : op.op = .load 93 p)
    (hx : a.eval p = .pointer (some ⟨b, o, none⟩)) (hk : wpList Try.prog ops Q rest (a.put op.dst (.agg x.cs.toArray)) w) : wpList Try.prog ops Q (op :: rest) a w :=
  wpList_load_mid hgd 93 p ho b o hx x.cs _ h Try.underlying93 rfl sizeEnt hk
theorem range_new (w : World) (t : TypeId) (cs : List Value) : (w.alloc (.cells cs.toArray t)).rangeAt w.heap.size 0 cs := fun j v hv => by
  rw [Nat.zero_add, (Lies.new w t cs.toArray).cell]
  simpa using hv

set_option maxRecDepth 100000 in
set_option maxHeartbeats 4000000 in
theorem radd_any {W : World} {base br : Nat} {L : List Ent} (h : RLed W base br L) (hb : base ≤ W.heap.size) (hN : L.length ≤ 1000000) (a : A8) (k : Nat) :
    Calls Try.prog 51 #[.pointer (some ⟨br, 0, none⟩), a.v, .int .u64 k] W fun e w' => e = .returned (.int .i64 (addE L a k).1) ∧ RLed w' base br (addE L a k).2 ∧ W.grownBy w' (some br) := by
  have hlt := get_lt h.ok a
  have hRG := rget_any (h.alloc (.cells a.cs.toArray 24)) (by omega) a
  have HG0 := Lib.hid (show W.grownBy (W.alloc (.cells a.cs.toArray 24)) (some br) from World.grownBy_alloc _ _ _)
  have H1 := Lib.hid (h.alloc (.cells a.cs.toArray 24))
  have HB1 := Lib.hid (show base ≤ (W.alloc (.cells a.cs.toArray 24)).heap.size by simp only [World.size_alloc]; omega)
  obtain ⟨⟨b, n⟩, hg⟩ : ∃ p, get L a = p := ⟨_, rfl⟩
  rw [hg] at hlt hRG
  simp only [] at hlt hRG
  have HRG := Lib.hid hRG
  have HLT := Lib.hid hlt
  clear hRG h
  have hs : IntKind.u64.wrap (18446744073709551615 - (b : Int)) = 18446744073709551615 - (b : Int) := IntWalk.u64_in _ (by have := hlt.1; unfold M64 at this; omega)
  clear hlt
  by_cases ho : M64 ≤ b + k
  · have e1 : addE L a k = (211, L) := by unfold addE; rw [hg, if_pos ho]
    rw [e1]
    have hd : (18446744073709551615 : Int) - (b : Int) < (k : Int) := by unfold M64 at ho; omega
    clear ho
    clear hg e1
    simp only [A8.v]
    go_enter Try.func51, Try.ntmps51
    go_wp2_with fail
    refine HRG.out.mono ?_
    rintro en w2 ⟨rfl, hB⟩
    have H2 := Lib.hid (H1.out.later hB)
    have HG2 := Lib.hid (grownBy_trans HG0.out (grownBy_below hB (some br)))
    clear hB
    go_wp2_with (refine we_store ⟨a, b, n⟩ _ _ rfl rfl rfl rfl rfl ?_; simp only [Ent.cs, Act.put])
    go_ret
    exact ⟨rfl, H2.out.alloc _, grownBy_trans HG2.out (World.grownBy_alloc _ _ _)⟩
  · have e1 : addE L a k = (0, put ⟨a, b + k, n⟩ L) := by unfold addE; rw [hg, if_neg ho]
    rw [e1]
    have hd : ¬ (18446744073709551615 : Int) - (b : Int) < (k : Int) := by unfold M64 at ho; omega
    have hs2 : IntKind.u64.wrap ((b : Int) + (k : Int)) = ((b + k : Nat) : Int) := by rw [IntWalk.u64_in _ (by unfold M64 at ho; omega)]; omega
    clear hg e1
    simp only [A8.v]
    go_enter Try.func51, Try.ntmps51
    go_wp2_with fail
    refine HRG.out.mono ?_
    rintro en w2 ⟨rfl, hB⟩
    have H2 := Lib.hid (H1.out.later hB)
    have HG2 := Lib.hid (grownBy_trans HG0.out (grownBy_below hB (some br)))
    have HB2 := Lib.hid (Nat.le_trans HB1.out hB.size)
    clear hB
    go_wp2_with (first | (refine we_store ⟨a, b, n⟩ _ _ rfl rfl rfl rfl rfl ?_; simp only [Ent.cs, Act.put]) | (refine we_load ⟨a, b + k, n⟩ _ 0 (range_new w2 93 (Ent.cs ⟨a, b + k, n⟩)) _ rfl rfl rfl ?_; simp only [Ent.cs, Act.put, List.setIfInBounds_toArray, List.set_cons_zero, List.set_cons_succ]))
    have hp := rput_any (H2.out.alloc (.cells (Ent.cs ⟨a, b + k, n⟩).toArray 93)) (by have := HB2.out; simp only [World.size_alloc]; omega) hN ⟨a, b + k, n⟩ (by simp only []; omega) HLT.out.2
    have hg3 : w2.grownBy (w2.alloc (.cells (Ent.cs ⟨a, b + k, n⟩).toArray 93)) (some br) := World.grownBy_alloc _ _ _
    simp only [Ent.cs, Int.natCast_add] at hp hg3
    refine hp.mono ?_
    rintro en w4 ⟨rfl, hR4, hG4⟩
    have HG4 := Lib.hid (grownBy_trans HG2.out (grownBy_trans hg3 hG4))
    have HR4 := Lib.hid hR4
    clear hp hg3 hG4 hR4
    go_wp2_with fail
    go_ret
    exact ⟨rfl, HR4.out, HG4.out⟩

set_option maxRecDepth 100000 in
set_option maxHeartbeats 4000000 in
theorem rsub_any {W : World} {base br : Nat} {L : List Ent} (h : RLed W base br L) (hb : base ≤ W.heap.size) (hN : L.length ≤ 1000000) (a : A8) (k : Nat) :
    Calls Try.prog 53 #[.pointer (some ⟨br, 0, none⟩), a.v, .int .u64 k] W fun e w' => e = .returned (.int .i64 (subE L a k).1) ∧ RLed w' base br (subE L a k).2 ∧ W.grownBy w' (some br) := by
  have hlt := get_lt h.ok a
  have hRG := rget_any (h.alloc (.cells a.cs.toArray 24)) (by omega) a
  have HG0 := Lib.hid (show W.grownBy (W.alloc (.cells a.cs.toArray 24)) (some br) from World.grownBy_alloc _ _ _)
  have H1 := Lib.hid (h.alloc (.cells a.cs.toArray 24))
  have HB1 := Lib.hid (show base ≤ (W.alloc (.cells a.cs.toArray 24)).heap.size by simp only [World.size_alloc]; omega)
  obtain ⟨⟨b, n⟩, hg⟩ : ∃ p, get L a = p := ⟨_, rfl⟩
  rw [hg] at hlt hRG
  simp only [] at hlt hRG
  have HRG := Lib.hid hRG
  have HLT := Lib.hid hlt
  clear hRG h
  clear hlt
  by_cases ho : b < k
  · have e1 : subE L a k = (210, L) := by unfold subE; rw [hg, if_pos ho]
    rw [e1]
    clear hg e1
    simp only [A8.v]
    go_enter Try.func53, Try.ntmps53
    go_wp2_with fail
    refine HRG.out.mono ?_
    rintro en w2 ⟨rfl, hB⟩
    have H2 := Lib.hid (H1.out.later hB)
    have HG2 := Lib.hid (grownBy_trans HG0.out (grownBy_below hB (some br)))
    clear hB
    go_wp2_with (refine we_store ⟨a, b, n⟩ _ _ rfl rfl rfl rfl rfl ?_; simp only [Ent.cs, Act.put])
    go_ret
    exact ⟨rfl, H2.out.alloc _, grownBy_trans HG2.out (World.grownBy_alloc _ _ _)⟩
  · have e1 : subE L a k = (0, put ⟨a, b - k, n⟩ L) := by unfold subE; rw [hg, if_neg ho]
    rw [e1]
    have hs2 : IntKind.u64.wrap ((b : Int) - (k : Int)) = ((b - k : Nat) : Int) := by rw [IntWalk.u64_in _ (by have := HLT.out.1; unfold M64 at this; omega)]; omega
    clear hg e1
    simp only [A8.v]
    go_enter Try.func53, Try.ntmps53
    go_wp2_with fail
    refine HRG.out.mono ?_
    rintro en w2 ⟨rfl, hB⟩
    have H2 := Lib.hid (H1.out.later hB)
    have HG2 := Lib.hid (grownBy_trans HG0.out (grownBy_below hB (some br)))
    have HB2 := Lib.hid (Nat.le_trans HB1.out hB.size)
    clear hB
    go_wp2_with (first | (refine we_store ⟨a, b, n⟩ _ _ rfl rfl rfl rfl rfl ?_; simp only [Ent.cs, Act.put]) | (refine we_load ⟨a, b - k, n⟩ _ 0 (range_new w2 93 (Ent.cs ⟨a, b - k, n⟩)) _ rfl rfl rfl ?_; simp only [Ent.cs, Act.put, List.setIfInBounds_toArray, List.set_cons_zero, List.set_cons_succ]))
    have hp := rput_any (H2.out.alloc (.cells (Ent.cs ⟨a, b - k, n⟩).toArray 93)) (by have := HB2.out; simp only [World.size_alloc]; omega) hN ⟨a, b - k, n⟩ (by have := HLT.out.1; simp only []; omega) HLT.out.2
    have hg3 : w2.grownBy (w2.alloc (.cells (Ent.cs ⟨a, b - k, n⟩).toArray 93)) (some br) := World.grownBy_alloc _ _ _
    simp only [Ent.cs] at hp hg3
    refine hp.mono ?_
    rintro en w4 ⟨rfl, hR4, hG4⟩
    have HG4 := Lib.hid (grownBy_trans HG2.out (grownBy_trans hg3 hG4))
    have HR4 := Lib.hid hR4
    clear hp hg3 hG4 hR4
    go_wp2_with fail
    go_ret
    exact ⟨rfl, HR4.out, HG4.out⟩

set_option maxRecDepth 100000 in
set_option maxHeartbeats 4000000 in
theorem rbump_any {W : World} {base br : Nat} {L : List Ent} (h : RLed W base br L) (hb : base ≤ W.heap.size) (hN : L.length ≤ 1000000) (a : A8) :
    Calls Try.prog 57 #[.pointer (some ⟨br, 0, none⟩), a.v] W fun e w' => e = .returned (.int .i64 (bumpE L a).1) ∧ RLed w' base br (bumpE L a).2 ∧ W.grownBy w' (some br) := by
  have hlt := get_lt h.ok a
  have hRG := rget_any (h.alloc (.cells a.cs.toArray 24)) (by omega) a
  have HG0 := Lib.hid (show W.grownBy (W.alloc (.cells a.cs.toArray 24)) (some br) from World.grownBy_alloc _ _ _)
  have H1 := Lib.hid (h.alloc (.cells a.cs.toArray 24))
  have HB1 := Lib.hid (show base ≤ (W.alloc (.cells a.cs.toArray 24)).heap.size by simp only [World.size_alloc]; omega)
  obtain ⟨⟨b, n⟩, hg⟩ : ∃ p, get L a = p := ⟨_, rfl⟩
  rw [hg] at hlt hRG
  simp only [] at hlt hRG
  have HRG := Lib.hid hRG
  have HLT := Lib.hid hlt
  clear hRG h
  clear hlt
  by_cases ho : n = 18446744073709551615
  · have e1 : bumpE L a = (211, L) := by unfold bumpE; rw [hg, if_pos ho]
    rw [e1]
    have hd : ((n : Int) == 18446744073709551615) = true := by rw [ho]; rfl
    clear ho
    clear hg e1
    simp only [A8.v]
    go_enter Try.func57, Try.ntmps57
    go_wp2_with fail
    refine HRG.out.mono ?_
    rintro en w2 ⟨rfl, hB⟩
    have H2 := Lib.hid (H1.out.later hB)
    have HG2 := Lib.hid (grownBy_trans HG0.out (grownBy_below hB (some br)))
    clear hB
    go_wp2_with (refine we_store ⟨a, b, n⟩ _ _ rfl rfl rfl rfl rfl ?_; simp only [Ent.cs, Act.put])
    go_ret
    exact ⟨rfl, H2.out.alloc _, grownBy_trans HG2.out (World.grownBy_alloc _ _ _)⟩
  · have e1 : bumpE L a = (0, put ⟨a, b, n + 1⟩ L) := by unfold bumpE; rw [hg, if_neg ho]
    rw [e1]
    have hd : ((n : Int) == 18446744073709551615) = false := by rw [beq_eq_false_iff_ne]; omega
    have hs2 : IntKind.u64.wrap ((n : Int) + 1) = (n : Int) + 1 := IntWalk.u64_in _ (by have := HLT.out.2; unfold M64 at this; omega)
    clear hg e1
    simp only [A8.v]
    go_enter Try.func57, Try.ntmps57
    go_wp2_with fail
    refine HRG.out.mono ?_
    rintro en w2 ⟨rfl, hB⟩
    have H2 := Lib.hid (H1.out.later hB)
    have HG2 := Lib.hid (grownBy_trans HG0.out (grownBy_below hB (some br)))
    have HB2 := Lib.hid (Nat.le_trans HB1.out hB.size)
    clear hB
    go_wp2_with (first | (refine we_store ⟨a, b, n⟩ _ _ rfl rfl rfl rfl rfl ?_; simp only [Ent.cs, Act.put]) | (refine we_load ⟨a, b, n + 1⟩ _ 0 (range_new w2 93 (Ent.cs ⟨a, b, n + 1⟩)) _ rfl rfl rfl ?_; simp only [Ent.cs, Act.put, List.setIfInBounds_toArray, List.set_cons_zero, List.set_cons_succ]))
    have hp := rput_any (H2.out.alloc (.cells (Ent.cs ⟨a, b, n + 1⟩).toArray 93)) (by have := HB2.out; simp only [World.size_alloc]; omega) hN ⟨a, b, n + 1⟩ HLT.out.1 (by have := HLT.out.2; unfold M64 at *; simp only []; omega)
    have hg3 : w2.grownBy (w2.alloc (.cells (Ent.cs ⟨a, b, n + 1⟩).toArray 93)) (some br) := World.grownBy_alloc _ _ _
    simp only [Ent.cs, Int.natCast_add, Int.natCast_one] at hp hg3
    refine hp.mono ?_
    rintro en w4 ⟨rfl, hR4, hG4⟩
    have HG4 := Lib.hid (grownBy_trans HG2.out (grownBy_trans hg3 hG4))
    have HR4 := Lib.hid hR4
    clear hp hg3 hG4 hR4
    go_wp2_with fail
    go_ret
    exact ⟨rfl, HR4.out, HG4.out⟩

end Go.Proofs.Yteeghdkejnhjnaa.Ac
