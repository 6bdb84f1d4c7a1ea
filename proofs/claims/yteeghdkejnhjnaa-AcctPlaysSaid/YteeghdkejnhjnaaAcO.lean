/- The walk of the document's Put. -/
import Derived.Test.YteeghdkejnhjnaaAcN
import Derived.Test.YteeghdkejnhjnaaRt
import Derived.Deep.LoopGhost
namespace Go.Proofs.Yteeghdkejnhjnaa.Ac
open Go Go.RowKit Kt Ad

theorem infoEnt : (Try.prog.info? 93).map (fun i => (i.zero, i.size, i.bytes)) = some (some (.agg #[.int .u8 0, .int .u8 0, .int .u8 0, .int .u8 0, .int .u8 0, .int .u8 0, .int .u8 0, .int .u8 0, .int .u64 0, .int .u64 0]), 10, 24) := by kernel_rfl
theorem oneCellE (a : Ent) : ∀ u ∈ a.cs, u.oneCell' = true := by
  intro u hu
  simp only [Ent.cs, List.mem_cons, List.not_mem_nil, or_false] at hu
  rcases hu with rfl | rfl | rfl | rfl | rfl | rfl | rfl | rfl | rfl | rfl <;> rfl
theorem putGo_len (x : Ent) : ∀ (L : List Ent) (d : Bool), (putGo x d L).length ≤ L.length + 1
  | [], d => by cases d <;> simp [putGo]
  | y :: r, d => by
    have h1 := putGo_len x r (d || decide (x.a.num < y.a.num))
    rw [putGo]
    cases d with
    | true =>
      rw [Bool.true_or, putGo_true] at *
      have : (strikeE x.a r).length ≤ r.length := List.length_filter_le _ _
      by_cases hy : y.a = x.a <;> simp [hy] <;> omega
    | false =>
      by_cases hlt : x.a.num < y.a.num
      · simp only [hlt, decide_true, Bool.or_true, putGo_true] at *
        have : (strikeE x.a r).length ≤ r.length := List.length_filter_le _ _
        by_cases hy : y.a = x.a <;> simp [hy] <;> omega
      · simp only [hlt, decide_false, Bool.or_false] at *
        by_cases hy : y.a = x.a <;> simp [hy] <;> omega
theorem flat_snoc (l : List Ent) (e : Ent) : (l ++ [e]).flatMap Ent.cs = l.flatMap Ent.cs ++ e.cs := by simp

/-- one round of the loop -/
theorem go_skip {x y : Ent} {d : Bool} {r out T : List Ent} (h : out ++ putGo x d (y :: r) = T) (hd : d = true ∨ ¬ x.a.num < y.a.num) (hy : y.a = x.a) : out ++ putGo x d r = T := by
  rw [putGo] at h
  rcases hd with rfl | hd
  · simpa [hy] using h
  · simpa [hy, hd] using h
theorem go_one {x y : Ent} {d : Bool} {r out T : List Ent} (h : out ++ putGo x d (y :: r) = T) (hd : d = true ∨ ¬ x.a.num < y.a.num) (hy : y.a ≠ x.a) : (out ++ [y]) ++ putGo x d r = T := by
  rw [putGo] at h
  rcases hd with rfl | hd
  · simpa [hy] using h
  · simpa [hy, hd] using h
theorem go_two {x y : Ent} {r out T : List Ent} (h : out ++ putGo x false (y :: r) = T) (hd : x.a.num < y.a.num) : (out ++ [x] ++ [y]) ++ putGo x true r = T := by
  rw [putGo] at h
  have hy : y.a ≠ x.a := fun e => by rw [e] at hd; omega
  simpa [hy, hd] using h

theorem beq_u64 (a b : Nat) : ((a : Int) == (b : Int)) = decide (a = b) := by
  by_cases h : a = b
  · subst h; simp
  · simp [h]; omega

set_option maxRecDepth 100000 in
set_option maxHeartbeats 32000000 in
theorem rput_row {W : World} {base br : Nat} {L : List Ent} {g cap : Nat} (hv : Lies W br 86 #[.slice (some ⟨g, 0, none⟩) L.length cap]) (hrow : W.ownsRow base 93 10 (.slice (some ⟨g, 0, none⟩) L.length cap) L.length (L.flatMap Ent.cs)) (hN : L.length ≤ 1000000) (x : Ent) :
    Calls Try.prog 49 #[.pointer (some ⟨br, 0, none⟩), .agg x.cs.toArray] W fun e w' => e = .returned (.tuple #[]) ∧ (∃ v, Lies w' br 86 #[v] ∧ w'.ownsRow W.heap.size 93 10 v (put x L).length ((put x L).flatMap Ent.cs)) ∧ W.grownBy w' (some br) := by
  obtain ⟨i0, hi, hz0, hz1, hz2⟩ := info_parts infoEnt
  have HX := Lib.hid (Lies.new W 93 x.cs.toArray)
  have HV := Lib.hid (hv.alloc (.cells x.cs.toArray 93))
  have HROW := Lib.hid (hrow.alloc (.cells x.cs.toArray 93))
  have HW := Lib.hid ((Below.refl W.heap.size W).alloc (Nat.le_refl _) (.cells x.cs.toArray 93))
  have HLEN := Lib.hid (show (put x L).length ≤ L.length + 1 from putGo_len x L _)
  have hvc := hv.cell 0
  simp only [List.getElem?_toArray, List.getElem?_cons_zero] at hvc
  have hvl := hv.lt
  have hgl : g < W.heap.size := by
    rcases hrow.2 with ⟨h, _⟩ | ⟨g', _, _, h, _, hb, _⟩
    · cases h
    · cases h; exact (Array.getElem?_eq_some_iff.1 hb).1
  obtain ⟨p, hp⟩ : ∃ p, ((x.b : Int) == 0) = p := ⟨_, rfl⟩
  obtain ⟨q, hq⟩ : ∃ q, ((x.n : Int) == 0) = q := ⟨_, rfl⟩
  have HZ := Lib.hid (show put x L = putGo x (p && q) L by
    unfold put zero
    rw [← hp, ← hq, show (0 : Int) = ((0 : Nat) : Int) from rfl, beq_u64, beq_u64])
  clear hv hrow
  have hpq : p = false ∨ (p = true ∧ q = false) ∨ (p = true ∧ q = true) := by cases p <;> cases q <;> simp
  simp only [Ent.cs]
  rcases hpq with rfl | ⟨rfl, rfl⟩ | ⟨rfl, rfl⟩
  all_goals
    go_enter Try.func49, Try.ntmps49
    go_wp2_with fail
    go_loopw [4, 5, 6] (fun ov dv i wr => ∃ (k : Nat) (d : Bool) (out : List Ent) (o : Value), k ≤ L.length ∧ i = .int .i64 k ∧ dv = .bool d ∧ ov = o ∧ out ++ putGo x d (L.drop k) = put x L ∧ wr.ownsRow (W.heap.size + 1) 93 10 o out.length (out.flatMap Ent.cs) ∧ Lies wr br 86 #[.slice (some ⟨g, 0, none⟩) L.length cap] ∧ wr.ownsRow base 93 10 (.slice (some ⟨g, 0, none⟩) L.length cap) L.length (L.flatMap Ent.cs) ∧ Lies wr W.heap.size 93 x.cs.toArray ∧ Below W.heap.size W wr ∧ W.heap.size < wr.heap.size)
      (fun _ _ i _ => L.length - (intOf i).toNat)
    case atStart => exact ⟨0, _, [], _, by omega, rfl, rfl, rfl, by rw [HZ.out]; rfl, World.ownsRow_nil _ _ _ _, HV.out, HROW.out, HX.out, HW.out, by simp⟩
    case round =>
      obtain ⟨k, d, out, o, hk, rfl, rfl, rfl, hgo, hown, hV, hR, hX, hB, hsw⟩ := hrel
      have HOL := Lib.hid (show out.length ≤ 1000001 by have h1 := congrArg List.length hgo; have := HLEN.out; simp only [List.length_append] at h1; omega)
      have HGO := Lib.hid hgo
      have HOWN := Lib.hid hown
      have HV2 := Lib.hid hV
      have HR2 := Lib.hid hR
      have HX2 := Lib.hid hX
      have HB2 := Lib.hid hB
      have hvc := hV.cell 0
      simp only [List.getElem?_toArray, List.getElem?_cons_zero] at hvc
      obtain ⟨x0, x1, x2, x3, x4, x5, x6, x7, x8, x9⟩ := lies_ent hX
      clear HV HROW HX HW HZ hgo hown hX hB
      by_cases hlt : k < L.length
      · obtain ⟨y, hy⟩ : ∃ y, L[k]? = some y := ⟨_, List.getElem?_eq_getElem hlt⟩
        obtain ⟨c0, c1, c2, c3, c4, c5, c6, c7, c8, c9⟩ := ent_cells hR hy
        have HY := Lib.hid hy
        have HG := Lib.hid (show out ++ putGo x d (y :: L.drop (k + 1)) = put x L by rw [← HGO.out, List.drop_eq_getElem_cons hlt, (List.getElem?_eq_some_iff.1 hy).2])
        clear hV hR hy HGO
        cases d with
        | true =>
          by_cases hya : y.a = x.a
          · have HG2 := Lib.hid (go_skip HG.out (.inl rfl) hya)
            have HYA := Lib.hid hya
            clear HG hya
            go_wp2_with fail
            refine RP.region (RP.take 0 (RP.take 1 (RP.take 2 (RP.take 3 (RP.take 4 (RP.take 5 (RP.take 6 (RP.take 7 (RP.take 8 (RP.take 9 (RP.take 10 (RP.take 11 (RP.take 12 (RP.run 13 (RP.take 14 RP.done))))))))))))))) (fun w' => Lies w' br 86 #[.slice (some ⟨g, 0, none⟩) L.length cap] ∧ w'.ownsRow base 93 10 (.slice (some ⟨g, 0, none⟩) L.length cap) L.length (L.flatMap Ent.cs) ∧ Lies w' W.heap.size 93 x.cs.toArray ∧ Below wr.heap.size wr w') (by kernel_rfl) (by kernel_rfl) (fun _ _ d _ _ h => by cases d <;> exact h) ⟨HV2.out.drew, HR2.out.drew, HX2.out.drew, (Below.refl _ _).drew⟩ (fun hS => ?_)
            generalize hU : wr.drew = U0 at hS ⊢
            clear hU
            repeat (first | (refine RP.t_take (v := ?_) rfl rfl (fun w' hw' => ?_) ?_; rotate_left; (focus ((obtain ⟨hV, hR, hX, hB⟩ := hw'; have hvc := hV.cell 0; obtain ⟨x0, x1, x2, x3, x4, x5, x6, x7, x8, x9⟩ := lies_ent hX; obtain ⟨c0, c1, c2, c3, c4, c5, c6, c7, c8, c9⟩ := ent_cells hR HY.out; simp only [List.getElem?_toArray, List.getElem?_cons_zero] at hvc); go_simp; (try go_bits); (try (with_reducible rfl)))); (try simp only [Act.put, List.setIfInBounds_toArray, List.set_cons_zero, List.set_cons_succ])) | (refine RP.t_skip rfl rfl ?_; (try simp only [Act.put, List.setIfInBounds_toArray, List.set_cons_zero, List.set_cons_succ])))
            refine RP.t_run rfl (fun K hK => ?_)
            go_simp
            refine hK.out _ _ hS ?_
            clear hK K
            (try simp only [Act.put, List.setIfInBounds_toArray, List.set_cons_zero, List.set_cons_succ])
            repeat (first | (refine RP.t_take (v := ?_) rfl rfl (fun w' hw' => ?_) ?_; rotate_left; (focus ((obtain ⟨hV, hR, hX, hB⟩ := hw'; have hvc := hV.cell 0; obtain ⟨x0, x1, x2, x3, x4, x5, x6, x7, x8, x9⟩ := lies_ent hX; obtain ⟨c0, c1, c2, c3, c4, c5, c6, c7, c8, c9⟩ := ent_cells hR HY.out; simp only [List.getElem?_toArray, List.getElem?_cons_zero] at hvc); go_simp; (try go_bits); (try (with_reducible rfl)))); (try simp only [Act.put, List.setIfInBounds_toArray, List.set_cons_zero, List.set_cons_succ])) | (refine RP.t_skip rfl rfl ?_; (try simp only [Act.put, List.setIfInBounds_toArray, List.set_cons_zero, List.set_cons_succ])))
            refine RP.t_done ?_
            obtain ⟨uV, uR, uX, uB⟩ := hS
            have hO := ownsRow_keep HOWN.out uB
            have HBU := Lib.hid (HB2.out.trans (uB.mono HB2.out.size))
            have hus : W.heap.size < U0.heap.size := Nat.lt_of_lt_of_le hsw uB.size
            clear hvc x0 x1 x2 x3 x4 x5 x6 x7 x8 x9 c0 c1 c2 c3 c4 c5 c6 c7 c8 c9 uB
            have hvc := uV.cell 0
            simp only [List.getElem?_toArray, List.getElem?_cons_zero] at hvc
            obtain ⟨x0, x1, x2, x3, x4, x5, x6, x7, x8, x9⟩ := lies_ent uX
            obtain ⟨c0, c1, c2, c3, c4, c5, c6, c7, c8, c9⟩ := ent_cells uR HY.out
            have hya := HYA.out
            go_wp2_with fail
            go_quiet (fail)
            go_wp2_with fail
            go_roundw
            case rel => exact ⟨k + 1, true, out, _, by omega, by go_num, rfl, rfl, HG2.out, hO, uV, uR, uX, below_drewN HBU.out _, hus⟩
            case measure => simp [intOf]; omega
          · have HG2 := Lib.hid (go_one HG.out (.inl rfl) hya)
            clear HG
            go_wp2_with fail
            refine RP.region (RP.take 0 (RP.take 1 (RP.take 2 (RP.take 3 (RP.take 4 (RP.take 5 (RP.take 6 (RP.take 7 (RP.take 8 (RP.take 9 (RP.take 10 (RP.take 11 (RP.take 12 (RP.run 13 (RP.take 14 RP.done))))))))))))))) (fun w' => Lies w' br 86 #[.slice (some ⟨g, 0, none⟩) L.length cap] ∧ w'.ownsRow base 93 10 (.slice (some ⟨g, 0, none⟩) L.length cap) L.length (L.flatMap Ent.cs) ∧ Lies w' W.heap.size 93 x.cs.toArray ∧ Below wr.heap.size wr w') (by kernel_rfl) (by kernel_rfl) (fun _ _ d _ _ h => by cases d <;> exact h) ⟨HV2.out.drew, HR2.out.drew, HX2.out.drew, (Below.refl _ _).drew⟩ (fun hS => ?_)
            generalize hU : wr.drew = U0 at hS ⊢
            clear hU
            repeat (first | (refine RP.t_take (v := ?_) rfl rfl (fun w' hw' => ?_) ?_; rotate_left; (focus ((obtain ⟨hV, hR, hX, hB⟩ := hw'; have hvc := hV.cell 0; obtain ⟨x0, x1, x2, x3, x4, x5, x6, x7, x8, x9⟩ := lies_ent hX; obtain ⟨c0, c1, c2, c3, c4, c5, c6, c7, c8, c9⟩ := ent_cells hR HY.out; simp only [List.getElem?_toArray, List.getElem?_cons_zero] at hvc); go_simp; (try go_bits); (try (with_reducible rfl)))); (try simp only [Act.put, List.setIfInBounds_toArray, List.set_cons_zero, List.set_cons_succ])) | (refine RP.t_skip rfl rfl ?_; (try simp only [Act.put, List.setIfInBounds_toArray, List.set_cons_zero, List.set_cons_succ])))
            refine RP.t_run rfl (fun K hK => ?_)
            go_simp
            refine hK.out _ _ hS ?_
            clear hK K
            (try simp only [Act.put, List.setIfInBounds_toArray, List.set_cons_zero, List.set_cons_succ])
            repeat (first | (refine RP.t_take (v := ?_) rfl rfl (fun w' hw' => ?_) ?_; rotate_left; (focus ((obtain ⟨hV, hR, hX, hB⟩ := hw'; have hvc := hV.cell 0; obtain ⟨x0, x1, x2, x3, x4, x5, x6, x7, x8, x9⟩ := lies_ent hX; obtain ⟨c0, c1, c2, c3, c4, c5, c6, c7, c8, c9⟩ := ent_cells hR HY.out; simp only [List.getElem?_toArray, List.getElem?_cons_zero] at hvc); go_simp; (try go_bits); (try (with_reducible rfl)))); (try simp only [Act.put, List.setIfInBounds_toArray, List.set_cons_zero, List.set_cons_succ])) | (refine RP.t_skip rfl rfl ?_; (try simp only [Act.put, List.setIfInBounds_toArray, List.set_cons_zero, List.set_cons_succ])))
            refine RP.t_done ?_
            obtain ⟨uV, uR, uX, uB⟩ := hS
            have hO := ownsRow_keep HOWN.out uB
            have HBU := Lib.hid (HB2.out.trans (uB.mono HB2.out.size))
            have hus : W.heap.size < U0.heap.size := Nat.lt_of_lt_of_le hsw uB.size
            clear hvc x0 x1 x2 x3 x4 x5 x6 x7 x8 x9 c0 c1 c2 c3 c4 c5 c6 c7 c8 c9 uB
            have hvc := uV.cell 0
            simp only [List.getElem?_toArray, List.getElem?_cons_zero] at hvc
            obtain ⟨x0, x1, x2, x3, x4, x5, x6, x7, x8, x9⟩ := lies_ent uX
            obtain ⟨c0, c1, c2, c3, c4, c5, c6, c7, c8, c9⟩ := ent_cells uR HY.out
            go_wp2_with fail
            go_quiet (fail)
            have HB' := Lib.hid (below_drewN HBU.out nq)
            replace hO : (U0.drewN nq).ownsRow (W.heap.size + 1) 93 10 u4 out.length (out.flatMap Ent.cs) := hO
            replace uV : Lies (U0.drewN nq) br 86 #[.slice (some ⟨g, 0, none⟩) L.length cap] := uV
            replace uX : Lies (U0.drewN nq) W.heap.size 93 x.cs.toArray := uX
            replace uR : (U0.drewN nq).ownsRow base 93 10 (.slice (some ⟨g, 0, none⟩) L.length cap) L.length (L.flatMap Ent.cs) := uR
            replace hus : W.heap.size < (U0.drewN nq).heap.size := hus
            clear HBU hvc x0 x1 x2 x3 x4 x5 x6 x7 x8 x9 c0 c1 c2 c3 c4 c5 c6 c7 c8 c9
            generalize U0.drewN nq = U2 at *
            have hvc := True.intro; have x0 := hvc; have x1 := hvc; have x2 := hvc; have x3 := hvc; have x4 := hvc; have x5 := hvc; have x6 := hvc; have x7 := hvc; have x8 := hvc; have x9 := hvc; have c0 := hvc; have c1 := hvc; have c2 := hvc; have c3 := hvc; have c4 := hvc; have c5 := hvc; have c6 := hvc; have c7 := hvc; have c8 := hvc; have c9 := hvc
            clear hvc x0 x1 x2 x3 x4 x5 x6 x7 x8 x9 c0 c1 c2 c3 c4 c5 c6 c7 c8 c9
            have hvc := uV.cell 0
            simp only [List.getElem?_toArray, List.getElem?_cons_zero] at hvc
            obtain ⟨x0, x1, x2, x3, x4, x5, x6, x7, x8, x9⟩ := lies_ent uX
            obtain ⟨c0, c1, c2, c3, c4, c5, c6, c7, c8, c9⟩ := ent_cells uR HY.out
            go_wp2_with (at_builtin; refine wpList_append_own _ rfl _ _ 84 rfl (W.heap.size + 1) 93 i0 _ 10 24 Try.underlying84 hi hz0 hz1 hz2 rfl (by decide) u4 out.length _ rfl (hO.alloc _) ⟨U2.heap.size, 0, none⟩ 1 1 y.cs rfl rfl (cells_new _ _ _) (oneCellE y) (by unfold maxLen; have := HOL.out; omega) (by have := HOL.out; omega) (by have := hus; simp; omega) ?_; intro v1 w1 hown1 hg1 _)
            have hne1 : ∀ b, u4.ownBlock = some b → W.heap.size + 1 ≤ b := fun b e => (hO.lt b e).1
            have vV1 := (uV.alloc _).kept hg1 (fun e => row_ne_lies hO uV (by decide) e)
            have vX1 := (uX.alloc _).kept hg1 (fun e => by have := hne1 _ e.symm; omega)
            have vR1 := (uR.alloc _).kept hg1 (.inr (fun e => by have := hne1 _ (e.symm.trans (show (Value.slice (some ⟨g, 0, none⟩) L.length cap).ownBlock = some g from rfl)); omega))
            have HB1 := Lib.hid ((HB'.out.alloc HB'.out.size _).grown hg1 (by have := HB'.out.size; simp; omega) (fun b e => by have := hne1 b e; omega))
            have hs1 : W.heap.size < w1.heap.size := by have := hg1.size; simp at this; omega
            have hO1 : w1.ownsRow (W.heap.size + 1) 93 10 v1 (out ++ [y]).length ((out ++ [y]).flatMap Ent.cs) := by
              have := hown1
              simp only [List.flatMap_append, List.length_append, List.length_cons, List.length_nil, List.flatMap_append, List.flatMap_cons, List.flatMap_nil, List.append_nil] at this ⊢
              exact this
            go_roundw
            case rel => exact ⟨k + 1, true, (out ++ [y]), _, by omega, by go_num, rfl, rfl, HG2.out, hO1, vV1, vR1, vX1, HB1.out, hs1⟩
            case measure => simp [intOf]; omega
        | false =>
          by_cases hlt2 : x.a.num < y.a.num
          · have hya : y.a ≠ x.a := fun e => by rw [e] at hlt2; omega
            have HG2 := Lib.hid (go_two HG.out hlt2)
            clear HG
            have HLS := Lib.hid (fun w => less_any x.a y.a w)
            rw [show decide (x.a.num < y.a.num) = true by simpa using hlt2] at HLS
            have HLT := Lib.hid hlt2
            clear hlt2
            go_wp2_with fail
            refine RP.region (RP.take 0 (RP.take 1 (RP.take 2 (RP.take 3 (RP.take 4 (RP.take 5 (RP.take 6 (RP.take 7 (RP.take 8 (RP.take 9 (RP.take 10 (RP.take 11 (RP.take 12 (RP.run 13 (RP.take 14 RP.done))))))))))))))) (fun w' => Lies w' br 86 #[.slice (some ⟨g, 0, none⟩) L.length cap] ∧ w'.ownsRow base 93 10 (.slice (some ⟨g, 0, none⟩) L.length cap) L.length (L.flatMap Ent.cs) ∧ Lies w' W.heap.size 93 x.cs.toArray ∧ Below wr.heap.size wr w') (by kernel_rfl) (by kernel_rfl) (fun _ _ d _ _ h => by cases d <;> exact h) ⟨HV2.out.drew, HR2.out.drew, HX2.out.drew, (Below.refl _ _).drew⟩ (fun hS => ?_)
            generalize hU : wr.drew = U0 at hS ⊢
            clear hU
            repeat (first | (refine RP.t_take (v := ?_) rfl rfl (fun w' hw' => ?_) ?_; rotate_left; (focus ((obtain ⟨hV, hR, hX, hB⟩ := hw'; have hvc := hV.cell 0; obtain ⟨x0, x1, x2, x3, x4, x5, x6, x7, x8, x9⟩ := lies_ent hX; obtain ⟨c0, c1, c2, c3, c4, c5, c6, c7, c8, c9⟩ := ent_cells hR HY.out; simp only [List.getElem?_toArray, List.getElem?_cons_zero] at hvc); go_simp; (try go_bits); (try (with_reducible rfl)))); (try simp only [Act.put, List.setIfInBounds_toArray, List.set_cons_zero, List.set_cons_succ])) | (refine RP.t_skip rfl rfl ?_; (try simp only [Act.put, List.setIfInBounds_toArray, List.set_cons_zero, List.set_cons_succ])))
            refine RP.t_run rfl (fun K hK => ?_)
            go_simp
            refine (HLS.out _).mono ?_
            rintro en U1 ⟨rfl, hb1⟩
            replace hS := And.intro (hS.1.below hb1 hS.1.lt) (And.intro (ownsRow_keep hS.2.1 hb1) (And.intro (hS.2.2.1.below hb1 hS.2.2.1.lt) (hS.2.2.2.trans (hb1.mono hS.2.2.2.size))))
            refine hK.out _ _ hS ?_
            clear hK K hb1
            (try simp only [Act.put, List.setIfInBounds_toArray, List.set_cons_zero, List.set_cons_succ])
            repeat (first | (refine RP.t_take (v := ?_) rfl rfl (fun w' hw' => ?_) ?_; rotate_left; (focus ((obtain ⟨hV, hR, hX, hB⟩ := hw'; have hvc := hV.cell 0; obtain ⟨x0, x1, x2, x3, x4, x5, x6, x7, x8, x9⟩ := lies_ent hX; obtain ⟨c0, c1, c2, c3, c4, c5, c6, c7, c8, c9⟩ := ent_cells hR HY.out; simp only [List.getElem?_toArray, List.getElem?_cons_zero] at hvc); go_simp; (try go_bits); (try (with_reducible rfl)))); (try simp only [Act.put, List.setIfInBounds_toArray, List.set_cons_zero, List.set_cons_succ])) | (refine RP.t_skip rfl rfl ?_; (try simp only [Act.put, List.setIfInBounds_toArray, List.set_cons_zero, List.set_cons_succ])))
            refine RP.t_done ?_
            generalize U1 = U0 at hS ⊢
            obtain ⟨uV, uR, uX, uB⟩ := hS
            have hO := ownsRow_keep HOWN.out uB
            have HBU := Lib.hid (HB2.out.trans (uB.mono HB2.out.size))
            have hus : W.heap.size < U0.heap.size := Nat.lt_of_lt_of_le hsw uB.size
            clear hvc x0 x1 x2 x3 x4 x5 x6 x7 x8 x9 c0 c1 c2 c3 c4 c5 c6 c7 c8 c9 uB
            have hvc := uV.cell 0
            simp only [List.getElem?_toArray, List.getElem?_cons_zero] at hvc
            obtain ⟨x0, x1, x2, x3, x4, x5, x6, x7, x8, x9⟩ := lies_ent uX
            obtain ⟨c0, c1, c2, c3, c4, c5, c6, c7, c8, c9⟩ := ent_cells uR HY.out
            go_wp2_with (at_builtin; refine wpList_append_own _ rfl _ _ 84 rfl (W.heap.size + 1) 93 i0 _ 10 24 Try.underlying84 hi hz0 hz1 hz2 rfl (by decide) u4 out.length _ rfl (hO.alloc _) ⟨U0.heap.size, 0, none⟩ 1 1 x.cs rfl rfl (cells_new _ _ _) (oneCellE x) (by unfold maxLen; have := HOL.out; omega) (by have := HOL.out; omega) (by have := hus; simp; omega) ?_; intro v1 w1 hown1 hg1 _)
            have hne1 : ∀ b, u4.ownBlock = some b → W.heap.size + 1 ≤ b := fun b e => (hO.lt b e).1
            have vV1 := (uV.alloc _).kept hg1 (fun e => row_ne_lies hO uV (by decide) e)
            have vX1 := (uX.alloc _).kept hg1 (fun e => by have := hne1 _ e.symm; omega)
            have vR1 := (uR.alloc _).kept hg1 (.inr (fun e => by have := hne1 _ (e.symm.trans (show (Value.slice (some ⟨g, 0, none⟩) L.length cap).ownBlock = some g from rfl)); omega))
            have HB1 := Lib.hid ((HBU.out.alloc HBU.out.size _).grown hg1 (by have := HBU.out.size; simp; omega) (fun b e => by have := hne1 b e; omega))
            have hs1 : W.heap.size < w1.heap.size := by have := hg1.size; simp at this; omega
            have hO1 : w1.ownsRow (W.heap.size + 1) 93 10 v1 (out ++ [x]).length ((out ++ [x]).flatMap Ent.cs) := by
              have := hown1
              simp only [List.flatMap_append, List.length_append, List.length_cons, List.length_nil, List.flatMap_append, List.flatMap_cons, List.flatMap_nil, List.append_nil] at this ⊢
              exact this
            clear hvc x0 x1 x2 x3 x4 x5 x6 x7 x8 x9 c0 c1 c2 c3 c4 c5 c6 c7 c8 c9
            have hvc := vV1.cell 0
            simp only [List.getElem?_toArray, List.getElem?_cons_zero] at hvc
            obtain ⟨x0, x1, x2, x3, x4, x5, x6, x7, x8, x9⟩ := lies_ent vX1
            obtain ⟨c0, c1, c2, c3, c4, c5, c6, c7, c8, c9⟩ := ent_cells vR1 HY.out
            clear hown1 hg1 hne1
            go_quiet (fail)
            have HB' := Lib.hid (below_drewN HB1.out nq)
            replace hO1 : (w1.drewN nq).ownsRow (W.heap.size + 1) 93 10 v1 (out ++ [x]).length ((out ++ [x]).flatMap Ent.cs) := hO1
            replace vV1 : Lies (w1.drewN nq) br 86 #[.slice (some ⟨g, 0, none⟩) L.length cap] := vV1
            replace vX1 : Lies (w1.drewN nq) W.heap.size 93 x.cs.toArray := vX1
            replace vR1 : (w1.drewN nq).ownsRow base 93 10 (.slice (some ⟨g, 0, none⟩) L.length cap) L.length (L.flatMap Ent.cs) := vR1
            replace hs1 : W.heap.size < (w1.drewN nq).heap.size := hs1
            clear HB1 HBU hus hvc x0 x1 x2 x3 x4 x5 x6 x7 x8 x9 c0 c1 c2 c3 c4 c5 c6 c7 c8 c9
            generalize w1.drewN nq = U2 at *
            have hus := hs1
            have hvc := True.intro; have x0 := hvc; have x1 := hvc; have x2 := hvc; have x3 := hvc; have x4 := hvc; have x5 := hvc; have x6 := hvc; have x7 := hvc; have x8 := hvc; have x9 := hvc; have c0 := hvc; have c1 := hvc; have c2 := hvc; have c3 := hvc; have c4 := hvc; have c5 := hvc; have c6 := hvc; have c7 := hvc; have c8 := hvc; have c9 := hvc
            clear hvc x0 x1 x2 x3 x4 x5 x6 x7 x8 x9 c0 c1 c2 c3 c4 c5 c6 c7 c8 c9
            have hvc := vV1.cell 0
            simp only [List.getElem?_toArray, List.getElem?_cons_zero] at hvc
            obtain ⟨x0, x1, x2, x3, x4, x5, x6, x7, x8, x9⟩ := lies_ent vX1
            obtain ⟨c0, c1, c2, c3, c4, c5, c6, c7, c8, c9⟩ := ent_cells vR1 HY.out
            go_wp2_with (at_builtin; refine wpList_append_own _ rfl _ _ 84 rfl (W.heap.size + 1) 93 i0 _ 10 24 Try.underlying84 hi hz0 hz1 hz2 rfl (by decide) v1 (out ++ [x]).length _ rfl (hO1.alloc _) ⟨U2.heap.size, 0, none⟩ 1 1 y.cs rfl rfl (cells_new _ _ _) (oneCellE y) (by unfold maxLen; have := HOL.out; simp only [List.length_append, List.length_cons, List.length_nil]; omega) (by have := HOL.out; simp only [List.length_append, List.length_cons, List.length_nil]; omega) (by have := hus; simp; omega) ?_; intro v2 w2 hown2 hg2 _)
            have hne2 : ∀ b, v1.ownBlock = some b → W.heap.size + 1 ≤ b := fun b e => (hO1.lt b e).1
            have vV2 := (vV1.alloc _).kept hg2 (fun e => row_ne_lies hO1 vV1 (by decide) e)
            have vX2 := (vX1.alloc _).kept hg2 (fun e => by have := hne2 _ e.symm; omega)
            have vR2 := (vR1.alloc _).kept hg2 (.inr (fun e => by have := hne2 _ (e.symm.trans (show (Value.slice (some ⟨g, 0, none⟩) L.length cap).ownBlock = some g from rfl)); omega))
            have HB2' := Lib.hid ((HB'.out.alloc HB'.out.size _).grown hg2 (by have := HB'.out.size; simp; omega) (fun b e => by have := hne2 b e; omega))
            have hs2 : W.heap.size < w2.heap.size := by have := hg2.size; simp at this; omega
            have hO2 : w2.ownsRow (W.heap.size + 1) 93 10 v2 (out ++ [x] ++ [y]).length ((out ++ [x] ++ [y]).flatMap Ent.cs) := by
              have := hown2
              simp only [List.flatMap_append, List.length_append, List.length_cons, List.length_nil, List.flatMap_append, List.flatMap_cons, List.flatMap_nil, List.append_nil] at this ⊢
              exact this
            go_roundw
            case rel => exact ⟨k + 1, true, (out ++ [x] ++ [y]), _, by omega, by go_num, rfl, rfl, HG2.out, hO2, vV2, vR2, vX2, HB2'.out, hs2⟩
            case measure => simp [intOf]; omega
          · by_cases hya : y.a = x.a
            · have HG2 := Lib.hid (go_skip HG.out (.inr hlt2) hya)
              have HYA := Lib.hid hya
              clear HG hya
              have HLS := Lib.hid (fun w => less_any x.a y.a w)
              rw [show decide (x.a.num < y.a.num) = false by simpa using hlt2] at HLS
              have HLT := Lib.hid hlt2
              clear hlt2
              go_wp2_with fail
              refine RP.region (RP.take 0 (RP.take 1 (RP.take 2 (RP.take 3 (RP.take 4 (RP.take 5 (RP.take 6 (RP.take 7 (RP.take 8 (RP.take 9 (RP.take 10 (RP.take 11 (RP.take 12 (RP.run 13 (RP.take 14 RP.done))))))))))))))) (fun w' => Lies w' br 86 #[.slice (some ⟨g, 0, none⟩) L.length cap] ∧ w'.ownsRow base 93 10 (.slice (some ⟨g, 0, none⟩) L.length cap) L.length (L.flatMap Ent.cs) ∧ Lies w' W.heap.size 93 x.cs.toArray ∧ Below wr.heap.size wr w') (by kernel_rfl) (by kernel_rfl) (fun _ _ d _ _ h => by cases d <;> exact h) ⟨HV2.out.drew, HR2.out.drew, HX2.out.drew, (Below.refl _ _).drew⟩ (fun hS => ?_)
              generalize hU : wr.drew = U0 at hS ⊢
              clear hU
              repeat (first | (refine RP.t_take (v := ?_) rfl rfl (fun w' hw' => ?_) ?_; rotate_left; (focus ((obtain ⟨hV, hR, hX, hB⟩ := hw'; have hvc := hV.cell 0; obtain ⟨x0, x1, x2, x3, x4, x5, x6, x7, x8, x9⟩ := lies_ent hX; obtain ⟨c0, c1, c2, c3, c4, c5, c6, c7, c8, c9⟩ := ent_cells hR HY.out; simp only [List.getElem?_toArray, List.getElem?_cons_zero] at hvc); go_simp; (try go_bits); (try (with_reducible rfl)))); (try simp only [Act.put, List.setIfInBounds_toArray, List.set_cons_zero, List.set_cons_succ])) | (refine RP.t_skip rfl rfl ?_; (try simp only [Act.put, List.setIfInBounds_toArray, List.set_cons_zero, List.set_cons_succ])))
              refine RP.t_run rfl (fun K hK => ?_)
              go_simp
              refine (HLS.out _).mono ?_
              rintro en U1 ⟨rfl, hb1⟩
              replace hS := And.intro (hS.1.below hb1 hS.1.lt) (And.intro (ownsRow_keep hS.2.1 hb1) (And.intro (hS.2.2.1.below hb1 hS.2.2.1.lt) (hS.2.2.2.trans (hb1.mono hS.2.2.2.size))))
              refine hK.out _ _ hS ?_
              clear hK K hb1
              (try simp only [Act.put, List.setIfInBounds_toArray, List.set_cons_zero, List.set_cons_succ])
              repeat (first | (refine RP.t_take (v := ?_) rfl rfl (fun w' hw' => ?_) ?_; rotate_left; (focus ((obtain ⟨hV, hR, hX, hB⟩ := hw'; have hvc := hV.cell 0; obtain ⟨x0, x1, x2, x3, x4, x5, x6, x7, x8, x9⟩ := lies_ent hX; obtain ⟨c0, c1, c2, c3, c4, c5, c6, c7, c8, c9⟩ := ent_cells hR HY.out; simp only [List.getElem?_toArray, List.getElem?_cons_zero] at hvc); go_simp; (try go_bits); (try (with_reducible rfl)))); (try simp only [Act.put, List.setIfInBounds_toArray, List.set_cons_zero, List.set_cons_succ])) | (refine RP.t_skip rfl rfl ?_; (try simp only [Act.put, List.setIfInBounds_toArray, List.set_cons_zero, List.set_cons_succ])))
              refine RP.t_done ?_
              generalize U1 = U0 at hS ⊢
              obtain ⟨uV, uR, uX, uB⟩ := hS
              have hO := ownsRow_keep HOWN.out uB
              have HBU := Lib.hid (HB2.out.trans (uB.mono HB2.out.size))
              have hus : W.heap.size < U0.heap.size := Nat.lt_of_lt_of_le hsw uB.size
              clear hvc x0 x1 x2 x3 x4 x5 x6 x7 x8 x9 c0 c1 c2 c3 c4 c5 c6 c7 c8 c9 uB
              have hvc := uV.cell 0
              simp only [List.getElem?_toArray, List.getElem?_cons_zero] at hvc
              obtain ⟨x0, x1, x2, x3, x4, x5, x6, x7, x8, x9⟩ := lies_ent uX
              obtain ⟨c0, c1, c2, c3, c4, c5, c6, c7, c8, c9⟩ := ent_cells uR HY.out
              have hya := HYA.out
              go_wp2_with fail
              go_quiet (fail)
              go_wp2_with fail
              go_roundw
              case rel => exact ⟨k + 1, false, out, _, by omega, by go_num, rfl, rfl, HG2.out, hO, uV, uR, uX, below_drewN HBU.out _, hus⟩
              case measure => simp [intOf]; omega
            · have HG2 := Lib.hid (go_one HG.out (.inr hlt2) hya)
              clear HG
              have HLS := Lib.hid (fun w => less_any x.a y.a w)
              rw [show decide (x.a.num < y.a.num) = false by simpa using hlt2] at HLS
              have HLT := Lib.hid hlt2
              clear hlt2
              go_wp2_with fail
              refine RP.region (RP.take 0 (RP.take 1 (RP.take 2 (RP.take 3 (RP.take 4 (RP.take 5 (RP.take 6 (RP.take 7 (RP.take 8 (RP.take 9 (RP.take 10 (RP.take 11 (RP.take 12 (RP.run 13 (RP.take 14 RP.done))))))))))))))) (fun w' => Lies w' br 86 #[.slice (some ⟨g, 0, none⟩) L.length cap] ∧ w'.ownsRow base 93 10 (.slice (some ⟨g, 0, none⟩) L.length cap) L.length (L.flatMap Ent.cs) ∧ Lies w' W.heap.size 93 x.cs.toArray ∧ Below wr.heap.size wr w') (by kernel_rfl) (by kernel_rfl) (fun _ _ d _ _ h => by cases d <;> exact h) ⟨HV2.out.drew, HR2.out.drew, HX2.out.drew, (Below.refl _ _).drew⟩ (fun hS => ?_)
              generalize hU : wr.drew = U0 at hS ⊢
              clear hU
              repeat (first | (refine RP.t_take (v := ?_) rfl rfl (fun w' hw' => ?_) ?_; rotate_left; (focus ((obtain ⟨hV, hR, hX, hB⟩ := hw'; have hvc := hV.cell 0; obtain ⟨x0, x1, x2, x3, x4, x5, x6, x7, x8, x9⟩ := lies_ent hX; obtain ⟨c0, c1, c2, c3, c4, c5, c6, c7, c8, c9⟩ := ent_cells hR HY.out; simp only [List.getElem?_toArray, List.getElem?_cons_zero] at hvc); go_simp; (try go_bits); (try (with_reducible rfl)))); (try simp only [Act.put, List.setIfInBounds_toArray, List.set_cons_zero, List.set_cons_succ])) | (refine RP.t_skip rfl rfl ?_; (try simp only [Act.put, List.setIfInBounds_toArray, List.set_cons_zero, List.set_cons_succ])))
              refine RP.t_run rfl (fun K hK => ?_)
              go_simp
              refine (HLS.out _).mono ?_
              rintro en U1 ⟨rfl, hb1⟩
              replace hS := And.intro (hS.1.below hb1 hS.1.lt) (And.intro (ownsRow_keep hS.2.1 hb1) (And.intro (hS.2.2.1.below hb1 hS.2.2.1.lt) (hS.2.2.2.trans (hb1.mono hS.2.2.2.size))))
              refine hK.out _ _ hS ?_
              clear hK K hb1
              (try simp only [Act.put, List.setIfInBounds_toArray, List.set_cons_zero, List.set_cons_succ])
              repeat (first | (refine RP.t_take (v := ?_) rfl rfl (fun w' hw' => ?_) ?_; rotate_left; (focus ((obtain ⟨hV, hR, hX, hB⟩ := hw'; have hvc := hV.cell 0; obtain ⟨x0, x1, x2, x3, x4, x5, x6, x7, x8, x9⟩ := lies_ent hX; obtain ⟨c0, c1, c2, c3, c4, c5, c6, c7, c8, c9⟩ := ent_cells hR HY.out; simp only [List.getElem?_toArray, List.getElem?_cons_zero] at hvc); go_simp; (try go_bits); (try (with_reducible rfl)))); (try simp only [Act.put, List.setIfInBounds_toArray, List.set_cons_zero, List.set_cons_succ])) | (refine RP.t_skip rfl rfl ?_; (try simp only [Act.put, List.setIfInBounds_toArray, List.set_cons_zero, List.set_cons_succ])))
              refine RP.t_done ?_
              generalize U1 = U0 at hS ⊢
              obtain ⟨uV, uR, uX, uB⟩ := hS
              have hO := ownsRow_keep HOWN.out uB
              have HBU := Lib.hid (HB2.out.trans (uB.mono HB2.out.size))
              have hus : W.heap.size < U0.heap.size := Nat.lt_of_lt_of_le hsw uB.size
              clear hvc x0 x1 x2 x3 x4 x5 x6 x7 x8 x9 c0 c1 c2 c3 c4 c5 c6 c7 c8 c9 uB
              have hvc := uV.cell 0
              simp only [List.getElem?_toArray, List.getElem?_cons_zero] at hvc
              obtain ⟨x0, x1, x2, x3, x4, x5, x6, x7, x8, x9⟩ := lies_ent uX
              obtain ⟨c0, c1, c2, c3, c4, c5, c6, c7, c8, c9⟩ := ent_cells uR HY.out
              go_wp2_with fail
              go_quiet (fail)
              have HB' := Lib.hid (below_drewN HBU.out nq)
              replace hO : (U0.drewN nq).ownsRow (W.heap.size + 1) 93 10 u4 out.length (out.flatMap Ent.cs) := hO
              replace uV : Lies (U0.drewN nq) br 86 #[.slice (some ⟨g, 0, none⟩) L.length cap] := uV
              replace uX : Lies (U0.drewN nq) W.heap.size 93 x.cs.toArray := uX
              replace uR : (U0.drewN nq).ownsRow base 93 10 (.slice (some ⟨g, 0, none⟩) L.length cap) L.length (L.flatMap Ent.cs) := uR
              replace hus : W.heap.size < (U0.drewN nq).heap.size := hus
              clear HBU hvc x0 x1 x2 x3 x4 x5 x6 x7 x8 x9 c0 c1 c2 c3 c4 c5 c6 c7 c8 c9
              generalize U0.drewN nq = U2 at *
              have hvc := True.intro; have x0 := hvc; have x1 := hvc; have x2 := hvc; have x3 := hvc; have x4 := hvc; have x5 := hvc; have x6 := hvc; have x7 := hvc; have x8 := hvc; have x9 := hvc; have c0 := hvc; have c1 := hvc; have c2 := hvc; have c3 := hvc; have c4 := hvc; have c5 := hvc; have c6 := hvc; have c7 := hvc; have c8 := hvc; have c9 := hvc
              clear hvc x0 x1 x2 x3 x4 x5 x6 x7 x8 x9 c0 c1 c2 c3 c4 c5 c6 c7 c8 c9
              have hvc := uV.cell 0
              simp only [List.getElem?_toArray, List.getElem?_cons_zero] at hvc
              obtain ⟨x0, x1, x2, x3, x4, x5, x6, x7, x8, x9⟩ := lies_ent uX
              obtain ⟨c0, c1, c2, c3, c4, c5, c6, c7, c8, c9⟩ := ent_cells uR HY.out
              go_wp2_with (at_builtin; refine wpList_append_own _ rfl _ _ 84 rfl (W.heap.size + 1) 93 i0 _ 10 24 Try.underlying84 hi hz0 hz1 hz2 rfl (by decide) u4 out.length _ rfl (hO.alloc _) ⟨U2.heap.size, 0, none⟩ 1 1 y.cs rfl rfl (cells_new _ _ _) (oneCellE y) (by unfold maxLen; have := HOL.out; omega) (by have := HOL.out; omega) (by have := hus; simp; omega) ?_; intro v1 w1 hown1 hg1 _)
              have hne1 : ∀ b, u4.ownBlock = some b → W.heap.size + 1 ≤ b := fun b e => (hO.lt b e).1
              have vV1 := (uV.alloc _).kept hg1 (fun e => row_ne_lies hO uV (by decide) e)
              have vX1 := (uX.alloc _).kept hg1 (fun e => by have := hne1 _ e.symm; omega)
              have vR1 := (uR.alloc _).kept hg1 (.inr (fun e => by have := hne1 _ (e.symm.trans (show (Value.slice (some ⟨g, 0, none⟩) L.length cap).ownBlock = some g from rfl)); omega))
              have HB1 := Lib.hid ((HB'.out.alloc HB'.out.size _).grown hg1 (by have := HB'.out.size; simp; omega) (fun b e => by have := hne1 b e; omega))
              have hs1 : W.heap.size < w1.heap.size := by have := hg1.size; simp at this; omega
              have hO1 : w1.ownsRow (W.heap.size + 1) 93 10 v1 (out ++ [y]).length ((out ++ [y]).flatMap Ent.cs) := by
                have := hown1
                simp only [List.flatMap_append, List.length_append, List.length_cons, List.length_nil, List.flatMap_append, List.flatMap_cons, List.flatMap_nil, List.append_nil] at this ⊢
                exact this
              go_roundw
              case rel => exact ⟨k + 1, false, (out ++ [y]), _, by omega, by go_num, rfl, rfl, HG2.out, hO1, vV1, vR1, vX1, HB1.out, hs1⟩
              case measure => simp [intOf]; omega
      · obtain rfl : k = L.length := by omega
        have hfz := hV.frozen 0
        have hvl2 := hV.lt
        cases d with
        | true =>
          have HP := Lib.hid (show out = put x L by rw [← HGO.out]; simp [putGo])
          have hne9 := row_ne_lies HOWN.out hV (by decide)
          have hfin : (∃ v, Lies (wr.setCell ⟨br, 0, none⟩ u4) br 86 #[v] ∧ (wr.setCell ⟨br, 0, none⟩ u4).ownsRow W.heap.size 93 10 v (put x L).length ((put x L).flatMap Ent.cs)) ∧ W.grownBy (wr.setCell ⟨br, 0, none⟩ u4) (some br) := by
            rw [← HP.out]
            exact ⟨⟨u4, hV.set 0 u4, ownsRow_base ((HOWN.out).kept (grownBy_setCell' wr br u4) (.inr (Ne.symm hne9))) (by omega)⟩, grownBy_trans (grownBy_below HB2.out _) (grownBy_setCell' wr br u4)⟩
          have HF := Lib.hid hfin
          clear hfin hne9
          have hO := HOWN.out
          clear hV hR
          rcases hO.2 with ⟨rfl, _⟩ | ⟨g9, cap9, cur9, rfl, _⟩
          all_goals
            clear hO
            go_wp2_with fail
            first | go_end0 | refine bodyPost_ret (results_none rfl _ _ _) rfl ?_
            exact ⟨rfl, HF.out⟩
        | false =>
          have HP := Lib.hid (show out ++ [x] = put x L by rw [← HGO.out]; simp [putGo])
          have hO := HOWN.out
          have hX := HX2.out
          have hus := hsw
          go_wp2_with ((at_builtin; refine wpList_append_own _ rfl _ _ 84 rfl (W.heap.size + 1) 93 i0 _ 10 24 Try.underlying84 hi hz0 hz1 hz2 rfl (by decide) u4 out.length _ rfl (hO.alloc _) ⟨wr.heap.size, 0, none⟩ 1 1 x.cs rfl rfl (cells_new _ _ _) (oneCellE x) (by unfold maxLen; have := HOL.out; omega) (by have := HOL.out; omega) (by have := hus; simp; omega) ?_; intro v1 w1 hown1 hg1 _); obtain ⟨g9, cap9, rfl⟩ := ownsRow_succ hown1; have vV1 := (hV.alloc _).kept hg1 (fun e => row_ne_lies hO hV (by decide) e); have hvc1 := vV1.cell 0; have hfz1 := vV1.frozen 0; have hvl1 := vV1.lt; simp only [List.getElem?_toArray, List.getElem?_cons_zero] at hvc1)
          clear vV1 hvc1 hfz1 hvl1
          have hne1 : ∀ b, u4.ownBlock = some b → W.heap.size + 1 ≤ b := fun b e => (hO.lt b e).1
          have vV1 := (hV.alloc _).kept hg1 (fun e => row_ne_lies hO hV (by decide) e)
          have vX1 := (hX.alloc _).kept hg1 (fun e => by have := hne1 _ e.symm; omega)
          have vR1 := (hR.alloc _).kept hg1 (.inr (fun e => by have := hne1 _ (e.symm.trans (show (Value.slice (some ⟨g, 0, none⟩) L.length cap).ownBlock = some g from rfl)); omega))
          have HB1 := Lib.hid ((HB2.out.alloc HB2.out.size _).grown hg1 (by have := HB2.out.size; simp; omega) (fun b e => by have := hne1 b e; omega))
          have hs1 : W.heap.size < w1.heap.size := by have := hg1.size; simp at this; omega
          have hO1 : w1.ownsRow (W.heap.size + 1) 93 10 (.slice (some ⟨g9, 0, none⟩) (out.length + 1) cap9) (out ++ [x]).length ((out ++ [x]).flatMap Ent.cs) := by
            have := hown1
            simp only [List.flatMap_append, List.length_append, List.length_cons, List.length_nil, List.flatMap_append, List.flatMap_cons, List.flatMap_nil, List.append_nil] at this ⊢
            exact this
          have hne9 := row_ne_lies hO1 vV1 (by decide)
          have hfin : (∃ v, Lies (w1.setCell ⟨br, 0, none⟩ (.slice (some ⟨g9, 0, none⟩) (out.length + 1) cap9)) br 86 #[v] ∧ (w1.setCell ⟨br, 0, none⟩ (.slice (some ⟨g9, 0, none⟩) (out.length + 1) cap9)).ownsRow W.heap.size 93 10 v (put x L).length ((put x L).flatMap Ent.cs)) ∧ W.grownBy (w1.setCell ⟨br, 0, none⟩ (.slice (some ⟨g9, 0, none⟩) (out.length + 1) cap9)) (some br) := by
            rw [← HP.out]
            exact ⟨⟨(.slice (some ⟨g9, 0, none⟩) (out.length + 1) cap9), vV1.set 0 (.slice (some ⟨g9, 0, none⟩) (out.length + 1) cap9), ownsRow_base ((hO1).kept (grownBy_setCell' w1 br (.slice (some ⟨g9, 0, none⟩) (out.length + 1) cap9)) (.inr (Ne.symm hne9))) (by omega)⟩, grownBy_trans (grownBy_below HB1.out _) (grownBy_setCell' w1 br (.slice (some ⟨g9, 0, none⟩) (out.length + 1) cap9))⟩
          have HF := Lib.hid hfin
          clear hfin hne9
          first | go_end0 | refine bodyPost_ret (results_none rfl _ _ _) rfl ?_
          exact ⟨rfl, HF.out⟩
end Go.Proofs.Yteeghdkejnhjnaa.Ac
