/- The walks of the document's Put (whole), Add, Sub, Bump. -/
import Derived.Test.YteeghdkejnhjnaaAcO
namespace Go.Proofs.Yteeghdkejnhjnaa.Ac
open Go Go.RowKit Kt Ad

set_option maxRecDepth 100000 in
set_option maxHeartbeats 8000000 in
theorem rput_nil {W : World} {br : Nat} (hv : Lies W br 86 #[.slice none 0 0]) (x : Ent) :
    Calls Try.prog 49 #[.pointer (some ⟨br, 0, none⟩), .agg x.cs.toArray] W fun e w' => e = .returned (.tuple #[]) ∧ (∃ v, Lies w' br 86 #[v] ∧ w'.ownsRow W.heap.size 93 10 v (put x []).length ((put x []).flatMap Ent.cs)) ∧ W.grownBy w' (some br) := by
  obtain ⟨i0, hi, hz0, hz1, hz2⟩ := info_parts infoEnt
  have hV := hv.alloc (.cells x.cs.toArray 93)
  have hvc := hv.cell 0
  simp only [List.getElem?_toArray, List.getElem?_cons_zero] at hvc
  have hvl := hv.lt
  have hvf := hv.frozen 0
  obtain ⟨p, hp⟩ : ∃ p, ((x.b : Int) == 0) = p := ⟨_, rfl⟩
  obtain ⟨q, hq⟩ : ∃ q, ((x.n : Int) == 0) = q := ⟨_, rfl⟩
  have HZ := Lib.hid (show put x [] = putGo x (p && q) [] by
    unfold put zero
    rw [← hp, ← hq, show (0 : Int) = ((0 : Nat) : Int) from rfl, beq_u64, beq_u64])
  have hpq : p = false ∨ (p = true ∧ q = false) ∨ (p = true ∧ q = true) := by cases p <;> cases q <;> simp
  have HX := Lib.hid (Lies.new W 93 x.cs.toArray)
  have hW1 : ∀ W1, W1 = W.alloc (.cells x.cs.toArray 93) → W.grownBy W1 (some br) := fun W1 h => h ▸ World.grownBy_alloc _ _ _
  simp only [Ent.cs] at hV hW1
  have HV := Lib.hid hV
  have HW1 := Lib.hid hW1
  have HV0 := Lib.hid hv
  clear hv hV hW1
  simp only [Ent.cs]
  rcases hpq with rfl | ⟨rfl, rfl⟩ | ⟨rfl, rfl⟩
  case inr.inr =>
    have HP := Lib.hid (show put x [] = [] by rw [HZ.out]; rfl)
    go_enter Try.func49, Try.ntmps49
    go_wp2_with fail
    refine wp_loop_rounds 1 ?_
    rw [rounds_succ]
    go_wp2_with fail
    first | go_end0 | refine bodyPost_ret (results_none rfl _ _ _) rfl ?_
    refine ⟨rfl, ?_, grownBy_trans (grownBy_setCell' W br _) (World.grownBy_alloc _ _ _)⟩
    rw [HP.out]
    exact ⟨_, (HV0.out.set 0 _).alloc _, World.ownsRow_nil _ _ _ _⟩
  all_goals
    have HP := Lib.hid (show put x [] = [x] by rw [HZ.out]; rfl)
    go_enter Try.func49, Try.ntmps49
    go_wp2_with fail
    refine wp_loop_rounds 1 ?_
    rw [rounds_succ]
    go_wp2_with (at_builtin; refine wpList_append_own _ rfl _ _ 84 rfl W.heap.size 93 i0 _ 10 24 Try.underlying84 hi hz0 hz1 hz2 rfl (by decide) (.slice none 0 0) 0 [] rfl (World.ownsRow_nil _ _ _ _) ⟨W.heap.size + 1, 0, none⟩ 1 1 x.cs rfl rfl (by have := cells_new (W.alloc (.cells x.cs.toArray 93)) x.cs 93; rw [World.size_alloc] at this; exact this) (oneCellE x) (by unfold maxLen; omega) (by omega) (by simp; omega) ?_; intro v1 w1 hown1 hg1 _; obtain ⟨g9, cap9, rfl⟩ := ownsRow_succ hown1; have vV1 := (HV.out.alloc _).kept hg1 (by simp [Value.ownBlock]); have hvc1 := vV1.cell 0; have hfz1 := vV1.frozen 0; have hvl1 := vV1.lt; simp only [List.getElem?_toArray, List.getElem?_cons_zero] at hvc1)
    first | go_end0 | refine bodyPost_ret (results_none rfl _ _ _) rfl ?_
    refine ⟨rfl, ?_, grownBy_trans (grownBy_trans (grownBy_trans (HW1.out _ rfl) (World.grownBy_alloc _ _ _)) (grownBy_below ⟨hg1.os, hg1.tape, hg1.output, hg1.size, fun k hk => hg1.block k hk (by simp [Value.ownBlock])⟩ _)) (grownBy_setCell' _ br _)⟩
    rw [HP.out]
    refine ⟨_, vV1.set 0 _, ?_⟩
    have := hown1.kept (grownBy_setCell' w1 br (.slice (some ⟨g9, 0, none⟩) (0 + 1) cap9)) (.inr (Ne.symm (row_ne_lies hown1 vV1 (by decide))))
    simpa using this

theorem rput_any {W : World} {base br : Nat} {L : List Ent} (h : RLed W base br L) (hb : base ≤ W.heap.size) (hN : L.length ≤ 1000000) (x : Ent) (h1 : x.b < M64) (h2 : x.n < M64) :
    Calls Try.prog 49 #[.pointer (some ⟨br, 0, none⟩), .agg x.cs.toArray] W fun e w' => e = .returned (.tuple #[]) ∧ RLed w' base br (put x L) ∧ W.grownBy w' (some br) := by
  obtain ⟨v, hv, hrow⟩ := h.row
  rcases hrow.2 with ⟨rfl, h0⟩ | ⟨g, cap, cur, rfl, hbase, _⟩
  · obtain rfl : L = [] := List.eq_nil_of_length_eq_zero h0
    refine (rput_nil hv x).mono ?_
    rintro e w' ⟨rfl, ⟨v', a1, a2⟩, a3⟩
    exact ⟨rfl, ⟨⟨v', a1, ownsRow_base a2 hb⟩, h.ok.put h1 h2⟩, a3⟩
  · refine (rput_row hv hrow hN x).mono ?_
    rintro e w' ⟨rfl, ⟨v', a1, a2⟩, a3⟩
    exact ⟨rfl, ⟨⟨v', a1, ownsRow_base a2 hb⟩, h.ok.put h1 h2⟩, a3⟩
end Go.Proofs.Yteeghdkejnhjnaa.Ac
