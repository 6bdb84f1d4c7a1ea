/- The walk of a store's All. -/
import Derived.Test.YteeghdkejnhjnaaKvB
import Derived.Test.YteeghdkejnhjnaaKsB
import Derived.Test.YteeghdkejnhjnaaCmB
import Derived.Test.YteeghdkejnhjnaaKc
namespace Go.Proofs.Yteeghdkejnhjnaa.Kv
open Go Go.RowKit Go.Shelf Kt Ad Bo

attribute [local go_sem] Oper.semAt_some

theorem eKeysK : ∀ args w, (callFunc 96 args).run Try.prog w = .ok (.enter 96 args) w := enters_of Try.func96 (by kernel_rfl) rfl
theorem eAllK1 : ∀ args w, (callFunc 81 args).run Try.prog w = .ok (.enter 81 args) w := enters_of Try.func81 (by kernel_rfl) rfl

set_option maxRecDepth 100000 in
set_option maxHeartbeats 8000000 in
theorem kvall_any {W : World} {own : Nat → Prop} {bl bo : Nat} {O : Os} (h : Kv W own bl bo O) (hN : O.length ≤ 1000000000) :
    Calls Try.prog 44 #[.pointer (some ⟨bl, 0, none⟩)] W fun e w' => ∃ v ts, e = .returned v ∧ ts.Perm (O.map (·.1)) ∧ RiseA ts ∧ w'.ownsRow W.heap.size 24 8 v ts.length (addrCells ts) ∧ Below W.heap.size W w' := by
  have hc := h.cell.cell 0
  simp only [List.getElem?_toArray, List.getElem?_cons_zero] at hc
  have hblt := h.cell.lt
  have hkeys : (O.map okv).map (·.1) = O.map (·.1) := by rw [List.map_map]; rfl
  have hnd : (O.map (·.1)).Nodup := h.one
  obtain ⟨w0, hw0⟩ : ∃ w0, w0 = (W.alloc (.cells #[.slice none 0 0] 67)).alloc (.cells #[.map (some bo)] 103) := ⟨_, rfl⟩
  have hsz0 : w0.heap.size = W.heap.size + 2 := by rw [hw0]; simp
  have HS := fun m (hm : 1 ≤ m) => keys_stops_kv Fence.wide m trivial rfl hm (W.heap.size + 1) bo (O.map okv) w0 (by omega) (by rw [hw0]; have := (Lies.new (W.alloc (.cells #[.slice none 0 0] 67)) 103 #[.map (some bo)]).cell 0; rw [World.size_alloc] at this; exact this) (by rw [hw0]; exact (h.map.alloc _).alloc _)
  rw [hkeys, List.length_map, show O.length = (O.map (·.1)).length by simp] at HS
  rw [show O.length = (O.map (·.1)).length by simp] at hN
  replace HS := Lib.hid HS
  have HN := Lib.hid hN
  have HND := Lib.hid hnd
  have HW0 := Lib.hid hw0
  clear h hkeys hnd hN hw0
  generalize O.map (·.1) = K at HS HN HND ⊢
  obtain ⟨i0, hi, hz0, hz1, hz2⟩ := info_parts infoAddr
  have hf1 : Fence.wide.fn 79 := trivial
  have hf2 : Fence.wide.fn 80 := trivial
  refine (callsIn_wide (n := 9)).1 ?_
  refine callsIn_of_wp_marks Try.func44 rfl trivial ?_ rfl
  simp only [Try.ntmps44, List.size_toArray, List.length_cons, List.length_nil, Nat.reduceAdd, Nat.reduceSub, Array.replicate_succ, Array.replicate_zero, List.push_toArray, List.append_toArray, List.nil_append, List.cons_append]
  gi_wp2_with (gi_at_call 79; refine (keys_kv Fence.wide 8 trivial rfl (some bo) _).mono ?_; rintro e w1 ⟨rfl, rfl⟩)
  rw [show (W.alloc (.cells #[.slice none 0 0] 67)).alloc (.cells #[.map (some bo)] 103) = w0 from HW0.out.symm]
  have hB0 : Below W.heap.size W w0 := by rw [HW0.out]; exact ((Below.refl _ _).alloc (Nat.le_refl _) _).alloc (by simp) _
  have bO : Boxed w0 W.heap.size 67 (.slice none 0 0) := by rw [HW0.out]; exact (Boxed.new W 67 (.slice none 0 0)).alloc _
  refine wpIn_rangeFunc_ownH rfl (by decide) (gf := 96) (lb := #[.pointer (some ⟨W.heap.size + 1, 0, none⟩)]) rfl trivial eKeysK
    (w0 := w0) (HS.out _ (by decide)) walksK_t walksK_b (Below.refl _ _) (fun _ => rfl)
    (fun pre Wi => (∃ v, Boxed Wi W.heap.size 67 v ∧ Wi.ownsRow W.heap.size 24 8 v pre.length (addrCells pre) ∧ True) ∧ Below W.heap.size W Wi)
    (fun _ _ _ => False)
    (OwnFrom.and (Own.from (holdsRow_own W.heap.size W.heap.size 67 24 8 (fun pre => pre.length) (fun pre => addrCells pre) (fun _ _ => True)) _) (ownFrom_below (Nat.le_refl _) (by omega)))
    (fun _ _ _ _ _ hs _ _ => hs)
    ⟨⟨_, bO, World.ownsRow_nil _ _ _ _, trivial⟩, hB0⟩
    (fun x a' Wi => ∃ Bx, W.heap.size < Bx ∧ Lies Wi Bx 24 x.cs.toArray ∧ a' = { tmps := #[.pointer (some ⟨bl, 0, none⟩), undef, .slice none 0 0, .pointer (some ⟨W.heap.size, 0, none⟩), .pointer (some ⟨Bx, 0, none⟩), .pointer (some ⟨bl, 0, none⟩), .bool false, .pointer (some ⟨bl, 0, none⟩), .pointer (some ⟨bl, 0, none⟩), .pointer (some ⟨bl, 0, none⟩), .map (some bo), .func (.func 96) #[] #[.pointer (some ⟨W.heap.size + 1, 0, none⟩)], x.v, undef, undef, undef, undef, undef, undef, undef], defers := [] })
    (fun x a' s X Y row hs hg hr => by
      obtain ⟨Bx, hlt, hl, he⟩ := hs
      refine ⟨Bx, hlt, hl.kept hg (fun e => ?_), he⟩
      obtain ⟨_, o, ho, hc⟩ := hr Bx e.symm
      rw [show X.heap[Bx]? = _ from hl] at ho; cases ho; cases hc)
    ?assign ?body ?done ?stop
  case assign =>
    rintro l pre x Wi K2 ⟨⟨v, hv, hrow, _⟩, hB⟩ hK
    have hBl : W.heap.size < Wi.heap.size := hv.lt
    gi_wp2
    exact hK _ _ ((KeepsOthers.alloc _ _).from _) (KeepsWalks.alloc _ _) ⟨⟨v, hv.alloc _, hrow.alloc _, trivial⟩, hB.alloc hB.size _⟩ ⟨Wi.heap.size, hBl, Lies.new Wi _ _, rfl⟩
  case body =>
    rintro l pre x a' Wi hl ⟨r, hr⟩ ⟨⟨v, hv, hrow, _⟩, hB⟩ ⟨Bx, hBx, hbx, rfl⟩ hlt
    have hc := hv.cell
    have hN := HN.out
    have c0 := hbx.cell 0; have c1 := hbx.cell 1; have c2 := hbx.cell 2; have c3 := hbx.cell 3; have c4 := hbx.cell 4; have c5 := hbx.cell 5; have c6 := hbx.cell 6; have c7 := hbx.cell 7
    simp only [A8.cs, List.getElem?_toArray, List.getElem?_cons_zero, List.getElem?_cons_succ] at c0 c1 c2 c3 c4 c5 c6 c7
    gi_wp2_with (gi_at_builtin; refine wpListIn_append_own _ rfl _ _ 67 rfl W.heap.size 24 i0 _ 8 8 Try.underlying67 hi hz0 hz1 hz2 rfl (by decide) _ _ _ rfl (hrow.alloc _) ⟨Wi.heap.size, 0, none⟩ 1 1 x.cs rfl rfl (cells_new _ _ _) (oneCellA x) (by unfold maxLen; omega) (by omega) (by have := hB.size; simp; omega) ?_; intro v' w1 hown' hgrow _; obtain ⟨g', cap', rfl⟩ := ownsRow_succ hown'; obtain ⟨hv1, hv2, hr2, hk2, hb2⟩ := hv.appended (by decide) hrow hB.size (Nat.le_refl _) hown' hgrow; have hc1 := hv1.cell; have hf1 := hv1.frozen)
    have hkw : KeepsWalks Wi (w1.setCell ⟨W.heap.size, 0, none⟩ (.slice (some ⟨g', 0, none⟩) (pre.length + 1) cap')) :=
      ⟨hk2.size, fun k o hk ho => hk2.same k o hk (by cases o <;> first | rfl | cases ho)⟩
    exact ⟨hk2.from _, hkw, ⟨_, hv2, by rw [addrCells_snoc]; simpa using hr2, trivial⟩, hB.trans hb2⟩
  case done =>
    rintro D ys Wi hD hS ⟨⟨v, hv, hrow, _⟩, hB⟩ hK
    have hc := hv.cell
    have hnd : ys.Nodup := hS.nodup_iff.2 HND.out
    have hlen : ys.length ≤ 1000000000 := by rw [hS.length_eq]; exact HN.out
    have hnr : some W.heap.size ≠ v.ownBlock := row_ne_lies hrow (show Lies Wi W.heap.size 67 #[v] from hv) (by decide)
    have hnd2 : some D ≠ v.ownBlock := fun e => iter_ne_row hrow (fun cur t fr hh => by rw [hK] at hh; cases hh) e.symm
    gi_wp2_with (gi_at_call 80; refine (callsIn_wide.2 (sort_addr hrow hnd hlen 81 #[] eAllK1 cmp_kv)).mono ?_; rintro e w2 ⟨rfl, ts, hp, hr, hrow2, hg2⟩; have hc2 := (hv.kept hg2 hnr).cell)
    have hK2 : w2.heap[D]? = some (.deferred (some [])) := (hg2.block D (Array.getElem?_eq_some_iff.1 hK).1 hnd2).trans hK
    have hBs := hB.grown hg2 hB.size (fun k e => (hrow.lt k e).1)
    refine ⟨by simp, .inl ⟨_, _, rfl, run_takeDeferred hK2, ?_⟩⟩
    exact ⟨_, results_tmp rfl _ _ _, v, ts, rfl, hp.trans hS, hr, ownsRow_putObj hrow2 _ hK2 rfl, hBs.trans (belowK_b (w := W) (Nat.le_refl _) w2 D _ _ (by omega) hK2 rfl rfl)⟩
  case stop =>
    rintro D c pre Wi _ _ h _
    exact h.elim
end Go.Proofs.Yteeghdkejnhjnaa.Kv

/- The walks of the document's SamePairs, of slices.Equal at addresses. -/
namespace Go.Proofs.Yteeghdkejnhjnaa.Kv
open Go Go.RowKit Kt Ad Bo

/-- The cells of a pair that is shown. -/
def PrAt (W : World) (g o : Nat) (x : Pr) : Prop := W.cell? ⟨g, o, none⟩ = some x.kv ∧ W.cell? ⟨g, o + 1, none⟩ = some x.vv
theorem prat {W : World} {g off : Nat} {P : List Pr} (h : ∀ j u, (P.flatMap Pr.cs)[j]? = some u → W.cell? ⟨g, off + j, none⟩ = some u) {k : Nat} {x : Pr} (hk : P[k]? = some x) : PrAt W g (off + k * 2) x := by
  have c : ∀ j, j < 2 → W.cell? ⟨g, off + k * 2 + j, none⟩ = x.cs[j]? := fun j hj => by
    have e := getElem?_flat Pr.len hk hj
    obtain ⟨u, hu⟩ : ∃ u, x.cs[j]? = some u := ⟨_, List.getElem?_eq_getElem (by rw [Pr.len]; exact hj)⟩
    rw [hu] at e ⊢
    rw [Nat.add_assoc]
    exact h _ _ e
  exact ⟨c 0 (by omega), c 1 (by omega)⟩
theorem saidP_of_take {A B : List Pr} (i : Nat) (h : saidP A = saidP B) : saidP (A.take i) = saidP (B.take i) := by
  unfold saidP at *
  rw [List.map_take, List.map_take, h]

set_option maxRecDepth 100000 in
set_option maxHeartbeats 4000000 in
theorem samep_any {W : World} {va vb : Value} {A B : List Pr} (ha : ShowsP W va A) (hb : ShowsP W vb B) (hN : A.length ≤ 1000000000) :
    Calls Try.prog 18 #[va, vb] W fun e w' => e = .returned (.bool (decide (saidP A = saidP B))) ∧ Below W.heap.size W w' := by
  obtain ⟨sa, ca, rfl, hsa⟩ := ha.row
  obtain ⟨sb, cb, rfl, hsb⟩ := hb.row
  have HA := Lib.hid ha
  have HB := Lib.hid hb
  have HSA := Lib.hid hsa
  have HSB := Lib.hid hsb
  clear ha hb hsa hsb
  have hle : saidP A = saidP B → A.length = B.length := fun h => by have := congrArg List.length h; simpa [saidP] using this
  have HLE := Lib.hid hle
  clear hle
  obtain ⟨R, hR⟩ : ∃ R, decide (saidP A = saidP B) = R := ⟨_, rfl⟩
  rw [hR]
  have HR := Lib.hid hR
  clear hR
  go_enter Try.func18, Try.ntmps18
  go_wp2_with fail
  go_loopw [5, 6] (fun o i wr => ∃ (k : Nat) (ob : Bool), k ≤ A.length ∧ o = .bool ob ∧ i = .int .i64 k ∧ (ob = true ↔ (A.length = B.length ∧ saidP (A.take k) = saidP (B.take k))) ∧ Below W.heap.size W wr)
    (fun _ i _ => A.length - (intOf i).toNat)
  case atStart => exact ⟨0, _, by omega, rfl, rfl, by simp [saidP]; omega, Below.refl _ _⟩
  case round =>
    obtain ⟨k, ob, hk, rfl, rfl, ho, hb⟩ := hrel
    have HO := Lib.hid ho
    have HW := Lib.hid hb
    clear ho hb
    by_cases hlt : k < A.length
    · cases ob with
      | false =>
        have hne : saidP A ≠ saidP B := fun e => by
          have := HO.out.2 ⟨HLE.out e, saidP_of_take k e⟩
          cases this
        obtain rfl : R = false := by rw [← HR.out]; exact decide_eq_false hne
        clear hne
        go_wp2_with fail
        go_ret
        exact ⟨rfl, HW.out⟩
      | true =>
        obtain ⟨hlen, htk⟩ := HO.out.1 rfl
        obtain ⟨x, hx⟩ : ∃ x, A[k]? = some x := ⟨_, List.getElem?_eq_getElem hlt⟩
        obtain ⟨y, hy⟩ : ∃ y, B[k]? = some y := ⟨_, List.getElem?_eq_getElem (by omega)⟩
        obtain ⟨ga, oa, rfl, hga, hca⟩ := HSA.out (by intro e; simp [e] at hlt)
        obtain ⟨gb, pb, rfl, hgb, hcb⟩ := HSB.out (by intro e; rw [e, List.length_nil] at hlen; omega)
        have hax := prat hca hx
        have hby := prat hcb hy
        have hst := saidP_take hx hy htk
        have HX := Lib.hid (show Byt wr x.kv x.k ∧ Byt wr x.vv x.v from ⟨(HA.out.byt x (List.mem_of_getElem? hx)).1.later HW.out, (HA.out.byt x (List.mem_of_getElem? hx)).2.later HW.out⟩)
        have HY := Lib.hid (show Byt wr y.kv y.k ∧ Byt wr y.vv y.v from ⟨(HB.out.byt y (List.mem_of_getElem? hy)).1.later HW.out, (HB.out.byt y (List.mem_of_getElem? hy)).2.later HW.out⟩)
        have HAX := Lib.hid (show PrAt wr ga (oa + k * 2) x from ⟨(HW.out.cell hga).trans hax.1, (HW.out.cell hga).trans hax.2⟩)
        have HBY := Lib.hid (show PrAt wr gb (pb + k * 2) y from ⟨(HW.out.cell hgb).trans hby.1, (HW.out.cell hgb).trans hby.2⟩)
        obtain ⟨kvx, kx0, vx, bx⟩ := x
        obtain ⟨kvy, ky0, vy, byy⟩ := y
        obtain ⟨sx, cx, hvx⟩ : ∃ sx cx, kvx = .slice sx kx0.length cx := by obtain ⟨s, c, e, _⟩ := HX.out.1; exact ⟨s, c, e⟩
        obtain ⟨sy, cy, hvy⟩ : ∃ sy cy, kvy = .slice sy ky0.length cy := by obtain ⟨s, c, e, _⟩ := HY.out.1; exact ⟨s, c, e⟩
        obtain ⟨tx, ex, hwx⟩ : ∃ sx cx, vx = .slice sx bx.length cx := by obtain ⟨s, c, e, _⟩ := HX.out.2; exact ⟨s, c, e⟩
        obtain ⟨ty, ey, hwy⟩ : ∃ sy cy, vy = .slice sy byy.length cy := by obtain ⟨s, c, e, _⟩ := HY.out.2; exact ⟨s, c, e⟩
        subst hvx hvy hwx hwy
        have HST := Lib.hid hst
        clear hax hby hca hcb hga hgb hx hy htk hst
        have hlB : k < B.length := by omega
        have HLEN := Lib.hid hlen
        clear hlen
        by_cases hxy : kx0 = ky0
        · as_aux_lemma =>
            subst hxy
            go_wp2_with fail
            refine RP.region (RP.take 0 (RP.take 1 (RP.take 2 (RP.take 3 (RP.take 4 (RP.take 5 (RP.take 6 (RP.take 7 (RP.take 8 (RP.take 9 (RP.take 10 (RP.take 11 (RP.take 12 (RP.take 13 (RP.take 14 (RP.take 15 (RP.take 16 (RP.take 17 (RP.take 18 (RP.take 19 (RP.take 20 (RP.take 21 (RP.take 22 (RP.take 23 (RP.take 24 (RP.take 25 (RP.take 26 (RP.take 27 (RP.take 28 RP.done))))))))))))))))))))))))))))) (fun w' => PrAt w' ga (oa + k * 2) ⟨.slice sx kx0.length cx, kx0, .slice tx bx.length ex, bx⟩ ∧ PrAt w' gb (pb + k * 2) ⟨.slice sy kx0.length cy, kx0, .slice ty byy.length ey, byy⟩ ∧ Byt w' (.slice sx kx0.length cx) kx0 ∧ Byt w' (.slice sy kx0.length cy) kx0 ∧ Byt w' (.slice tx bx.length ex) bx ∧ Byt w' (.slice ty byy.length ey) byy) (by as_aux_lemma => kernel_rfl) (by as_aux_lemma => kernel_rfl) (fun _ _ d _ _ h => by cases d <;> exact h) ⟨HAX.out, HBY.out, HX.out.1, HY.out.1, HX.out.2, HY.out.2⟩ (fun hS => ?_)
            clear hS
            repeat (first | (refine RP.t_take (v := ?_) rfl rfl (fun w' hw' => ?_) ?_; rotate_left; (focus ((obtain ⟨⟨c0, c1⟩, ⟨d0, d1⟩, hxb, hyb, hxv, hyv⟩ := hw'; have kx := hxb.conv; have ky := hyb.conv; have lx := hxv.conv; have ly := hyv.conv); go_simp; (try go_bits); (try (with_reducible rfl)))); (try simp only [Act.put, List.setIfInBounds_toArray, List.set_cons_zero, List.set_cons_succ])) | (refine RP.t_skip rfl rfl ?_; (try simp only [Act.put, List.setIfInBounds_toArray, List.set_cons_zero, List.set_cons_succ])))
            refine RP.t_done ?_
            simp only [bst_beq]
            go_wp2_with fail
            go_roundw
            case rel => exact ⟨k + 1, decide (bx = byy), by omega, rfl, by go_num, by rw [HST.out]; simp [HLEN.out], HW.out.drew⟩
            case measure => simp [intOf]; omega
        · as_aux_lemma =>
            have HBQ := Lib.hid (show ((bst kx0).toList == (bst ky0).toList) = false from by rw [bst_beq]; exact decide_eq_false hxy)
            go_wp2_with fail
            refine RP.region (RP.take 0 (RP.take 1 (RP.take 2 (RP.take 3 (RP.take 4 (RP.take 5 (RP.take 6 (RP.take 7 (RP.take 8 (RP.take 9 (RP.take 10 (RP.take 11 (RP.take 12 (RP.take 13 (RP.take 14 (RP.take 15 (RP.take 16 (RP.take 17 (RP.take 18 (RP.take 19 (RP.take 20 (RP.take 21 (RP.take 22 (RP.take 23 (RP.take 24 (RP.take 25 (RP.take 26 (RP.take 27 (RP.take 28 RP.done))))))))))))))))))))))))))))) (fun w' => PrAt w' ga (oa + k * 2) ⟨.slice sx kx0.length cx, kx0, .slice tx bx.length ex, bx⟩ ∧ PrAt w' gb (pb + k * 2) ⟨.slice sy ky0.length cy, ky0, .slice ty byy.length ey, byy⟩ ∧ Byt w' (.slice sx kx0.length cx) kx0 ∧ Byt w' (.slice sy ky0.length cy) ky0 ∧ Byt w' (.slice tx bx.length ex) bx ∧ Byt w' (.slice ty byy.length ey) byy) (by as_aux_lemma => kernel_rfl) (by as_aux_lemma => kernel_rfl) (fun _ _ d _ _ h => by cases d <;> exact h) ⟨HAX.out, HBY.out, HX.out.1, HY.out.1, HX.out.2, HY.out.2⟩ (fun hS => ?_)
            clear hS
            repeat (first | (refine RP.t_take (v := ?_) rfl rfl (fun w' hw' => ?_) ?_; rotate_left; (focus ((obtain ⟨⟨c0, c1⟩, ⟨d0, d1⟩, hxb, hyb, hxv, hyv⟩ := hw'; have kx := hxb.conv; have ky := hyb.conv; have lx := hxv.conv; have ly := hyv.conv; have hbq := HBQ.out); go_simp; (try go_bits); (try (with_reducible rfl)))); (try simp only [Act.put, List.setIfInBounds_toArray, List.set_cons_zero, List.set_cons_succ])) | (refine RP.t_skip rfl rfl ?_; (try simp only [Act.put, List.setIfInBounds_toArray, List.set_cons_zero, List.set_cons_succ])))
            refine RP.t_done ?_
            skip
            go_wp2_with fail
            go_roundw
            case rel => exact ⟨k + 1, false, by omega, rfl, by go_num, by rw [HST.out]; simp [hxy], HW.out.drew⟩
            case measure => simp [intOf]; omega
    · obtain rfl : k = A.length := by omega
      obtain rfl : R = ob := by
        rw [← HR.out]
        have h1 := HO.out
        rw [List.take_length] at h1
        by_cases e : saidP A = saidP B
        · have hl := HLE.out e
          rw [decide_eq_true e, eq_comm, h1]
          exact ⟨hl, by rw [hl, List.take_length]; exact e⟩
        · rw [decide_eq_false e, eq_comm, ← Bool.not_eq_true]
          intro h2
          obtain ⟨hl, h3⟩ := h1.1 h2
          rw [hl, List.take_length] at h3
          exact e h3
      go_wp2_with fail
      go_ret
      exact ⟨rfl, HW.out⟩

/-- A slice shows these addresses. -/
def ShowsA (W : World) (v : Value) (l : List A8) : Prop := ∃ s cap, v = .slice s l.length cap ∧ (l ≠ [] → ∃ g off, s = some ⟨g, off, none⟩ ∧ g < W.heap.size ∧ ∀ j u, (addrCells l)[j]? = some u → W.cell? ⟨g, off + j, none⟩ = some u)
theorem ShowsA.later {W W' : World} {v : Value} {l : List A8} (h : ShowsA W v l) (hb : Below W.heap.size W W') : ShowsA W' v l := by
  obtain ⟨s, cap, rfl, hs⟩ := h
  refine ⟨s, cap, rfl, fun hne => ?_⟩
  obtain ⟨g, off, rfl, hg, hc⟩ := hs hne
  exact ⟨g, off, rfl, Nat.lt_of_lt_of_le hg hb.size, fun j u hj => (hb.cell (p := ⟨g, off + j, none⟩) hg).trans (hc j u hj)⟩
theorem showsA_row {W : World} {base : Nat} {v : Value} {l : List A8} (h : W.ownsRow base 24 8 v l.length (addrCells l)) : ShowsA W v l := by
  have hl := h
  rcases h.2 with ⟨rfl, h0⟩ | ⟨g, cap, cur, rfl, _, hg, rest⟩
  · exact ⟨none, 0, by rw [h0], fun hne => absurd (List.eq_nil_of_length_eq_zero h0) hne⟩
  · refine ⟨_, cap, rfl, fun _ => ⟨g, 0, rfl, (Array.getElem?_eq_some_iff.1 hg).1, fun j u hj => ?_⟩⟩
    have := hl.cells (g := g) rfl _ _ hj
    rwa [Addr.add_lit] at this
def A8At (W : World) (g o : Nat) (a : A8) : Prop := W.cell? ⟨g, o, none⟩ = some (.int .u8 a.x0.toNat) ∧ W.cell? ⟨g, o + 1, none⟩ = some (.int .u8 a.x1.toNat) ∧ W.cell? ⟨g, o + 2, none⟩ = some (.int .u8 a.x2.toNat) ∧ W.cell? ⟨g, o + 3, none⟩ = some (.int .u8 a.x3.toNat) ∧ W.cell? ⟨g, o + 4, none⟩ = some (.int .u8 a.x4.toNat) ∧ W.cell? ⟨g, o + 5, none⟩ = some (.int .u8 a.x5.toNat) ∧ W.cell? ⟨g, o + 6, none⟩ = some (.int .u8 a.x6.toNat) ∧ W.cell? ⟨g, o + 7, none⟩ = some (.int .u8 a.x7.toNat)
theorem a8at {W : World} {g off : Nat} {l : List A8} (h : ∀ j u, (addrCells l)[j]? = some u → W.cell? ⟨g, off + j, none⟩ = some u) {k : Nat} {x : A8} (hk : l[k]? = some x) : A8At W g (off + k * 8) x := by
  have hl : ∀ x : A8, x.cs.length = 8 := fun _ => rfl
  have c : ∀ j, j < 8 → W.cell? ⟨g, off + k * 8 + j, none⟩ = x.cs[j]? := fun j hj => by
    have e := getElem?_flat hl hk hj
    obtain ⟨u, hu⟩ : ∃ u, x.cs[j]? = some u := ⟨_, List.getElem?_eq_getElem (by rw [hl]; exact hj)⟩
    rw [hu] at e ⊢
    rw [Nat.add_assoc]
    exact h _ _ e
  exact ⟨c 0 (by omega), c 1 (by omega), c 2 (by omega), c 3 (by omega), c 4 (by omega), c 5 (by omega), c 6 (by omega), c 7 (by omega)⟩

set_option maxRecDepth 100000 in
set_option maxHeartbeats 4000000 in
theorem equal_any {W : World} {va vb : Value} {A B : List A8} (ha : ShowsA W va A) (hb : ShowsA W vb B) (hN : A.length ≤ 1000000000) :
    Calls Try.prog 43 #[va, vb] W fun e w' => e = .returned (.bool (decide (A = B))) ∧ Below W.heap.size W w' := by
  obtain ⟨sa, ca, rfl, hsa⟩ := ha
  obtain ⟨sb, cb, rfl, hsb⟩ := hb
  have HSA := Lib.hid hsa
  have HSB := Lib.hid hsb
  clear hsa hsb
  obtain ⟨R, hR⟩ : ∃ R, decide (A = B) = R := ⟨_, rfl⟩
  rw [hR]
  have HR := Lib.hid hR
  clear hR
  by_cases hlen : A.length = B.length
  · obtain ⟨n, hnB⟩ : ∃ n, n = B.length := ⟨_, rfl⟩
    have hnA : A.length = n := by omega
    have HNA := Lib.hid hnA
    have HNB := Lib.hid hnB
    rw [hnA, ← hnB]
    rw [hnA] at hN
    clear hlen hnA hnB
    go_enter Try.func43, Try.ntmps43
    go_wp2_with fail
    go_loopw [13] (fun i wr => ∃ k : Nat, k ≤ n ∧ i = .int .i64 k ∧ A.take k = B.take k ∧ Below W.heap.size W wr)
      (fun i _ => n - (intOf i).toNat)
    case atStart => exact ⟨0, by omega, rfl, by simp, Below.refl _ _⟩
    case round =>
      obtain ⟨k, hk, rfl, ht, hb⟩ := hrel
      have HT := Lib.hid ht
      have HW := Lib.hid hb
      clear ht hb
      by_cases hlt : k < n
      · obtain ⟨x, hx⟩ : ∃ x, A[k]? = some x := ⟨_, List.getElem?_eq_getElem (by have := HNA.out; omega)⟩
        obtain ⟨y, hy⟩ : ∃ y, B[k]? = some y := ⟨_, List.getElem?_eq_getElem (by have := HNB.out; omega)⟩
        obtain ⟨ga, oa, rfl, hga, hca⟩ := HSA.out (by intro e; simp [e] at hx)
        obtain ⟨gb, pb, rfl, hgb, hcb⟩ := HSB.out (by intro e; simp [e] at hy)
        have hax := a8at hca hx
        have hby := a8at hcb hy
        have HAX := Lib.hid (show A8At wr ga (oa + k * 8) x from by
          obtain ⟨h0, h1, h2, h3, h4, h5, h6, h7⟩ := hax
          exact ⟨(HW.out.cell hga).trans h0, (HW.out.cell hga).trans h1, (HW.out.cell hga).trans h2, (HW.out.cell hga).trans h3, (HW.out.cell hga).trans h4, (HW.out.cell hga).trans h5, (HW.out.cell hga).trans h6, (HW.out.cell hga).trans h7⟩)
        have HBY := Lib.hid (show A8At wr gb (pb + k * 8) y from by
          obtain ⟨h0, h1, h2, h3, h4, h5, h6, h7⟩ := hby
          exact ⟨(HW.out.cell hgb).trans h0, (HW.out.cell hgb).trans h1, (HW.out.cell hgb).trans h2, (HW.out.cell hgb).trans h3, (HW.out.cell hgb).trans h4, (HW.out.cell hgb).trans h5, (HW.out.cell hgb).trans h6, (HW.out.cell hgb).trans h7⟩)
        have hta : A.take (k + 1) = A.take k ++ [x] := by rw [List.take_add_one, hx]; rfl
        have htb : B.take (k + 1) = B.take k ++ [y] := by rw [List.take_add_one, hy]; rfl
        have HTA := Lib.hid hta
        have HTB := Lib.hid htb
        clear hx hy hga hca hgb hcb hax hby hta htb
        by_cases hxy : x = y
        · as_aux_lemma =>
            subst hxy
            go_wp2_with fail
            refine RP.region (RP.take 0 (RP.take 1 (RP.take 2 (RP.take 3 (RP.take 4 (RP.take 5 (RP.take 6 (RP.take 7 (RP.take 8 RP.done))))))))) (fun w' => A8At w' ga (oa + k * 8) x ∧ A8At w' gb (pb + k * 8) x) (by as_aux_lemma => kernel_rfl) (by as_aux_lemma => kernel_rfl) (fun _ _ d _ _ h => by cases d <;> exact h) ⟨HAX.out, HBY.out⟩ (fun hS => ?_)
            clear hS
            repeat (first | (refine RP.t_take (v := ?_) rfl rfl (fun w' hw' => ?_) ?_; rotate_left; (focus ((obtain ⟨⟨c0, c1, c2, c3, c4, c5, c6, c7⟩, ⟨d0, d1, d2, d3, d4, d5, d6, d7⟩⟩ := hw'); go_simp; (try go_bits); (try (with_reducible rfl)))); (try simp only [Act.put, List.setIfInBounds_toArray, List.set_cons_zero, List.set_cons_succ])) | (refine RP.t_skip rfl rfl ?_; (try simp only [Act.put, List.setIfInBounds_toArray, List.set_cons_zero, List.set_cons_succ])))
            refine RP.t_done ?_
            go_wp2_with fail
            go_roundw
            case rel => exact ⟨k + 1, by omega, by go_num, by rw [HTA.out, HTB.out, HT.out], HW.out.drew⟩
            case measure => simp [intOf]; omega
        · as_aux_lemma =>
            obtain rfl : R = false := by
              rw [← HR.out]
              refine decide_eq_false fun e => hxy ?_
              have h1 := HTA.out
              rw [e, HTB.out] at h1
              have := List.append_cancel_left h1
              simpa using this.symm
            go_wp2_with fail
            refine RP.region (RP.take 0 (RP.take 1 (RP.take 2 (RP.take 3 (RP.take 4 (RP.take 5 (RP.take 6 (RP.take 7 (RP.take 8 RP.done))))))))) (fun w' => A8At w' ga (oa + k * 8) x ∧ A8At w' gb (pb + k * 8) y) (by as_aux_lemma => kernel_rfl) (by as_aux_lemma => kernel_rfl) (fun _ _ d _ _ h => by cases d <;> exact h) ⟨HAX.out, HBY.out⟩ (fun hS => ?_)
            clear hS
            repeat (first | (refine RP.t_take (v := ?_) rfl rfl (fun w' hw' => ?_) ?_; rotate_left; (focus ((obtain ⟨⟨c0, c1, c2, c3, c4, c5, c6, c7⟩, ⟨d0, d1, d2, d3, d4, d5, d6, d7⟩⟩ := hw'); go_simp; (try go_bits); (try (with_reducible rfl)))); (try simp only [Act.put, List.setIfInBounds_toArray, List.set_cons_zero, List.set_cons_succ])) | (refine RP.t_skip rfl rfl ?_; (try simp only [Act.put, List.setIfInBounds_toArray, List.set_cons_zero, List.set_cons_succ])))
            refine RP.t_done ?_
            go_wp2_with fail
            go_ret
            exact ⟨rfl, HW.out.drew⟩
      · obtain rfl : R = true := by
          rw [← HR.out]
          refine decide_eq_true ?_
          have h1 := HT.out
          rwa [List.take_of_length_le (by have := HNA.out; omega), List.take_of_length_le (by have := HNB.out; omega)] at h1
        go_wp2_with fail
        go_ret
        exact ⟨rfl, HW.out⟩
  · obtain rfl : R = false := by
      rw [← HR.out]
      exact decide_eq_false fun e => hlen (by rw [e])
    go_enter Try.func43, Try.ntmps43
    go_wp2_with fail
    go_ret
    exact ⟨rfl, Below.refl _ _⟩
end Go.Proofs.Yteeghdkejnhjnaa.Kv

/- A store by what it has: the calls told by that alone; calls of no store. -/
namespace Go.Proofs.Yteeghdkejnhjnaa.Kv
open Go Go.RowKit Go.Shelf Kt Ad Bo

/-- A STORE THAT HAS g, in block bl. -/
def Sto (W : World) (own : Nat → Prop) (bl : Nat) (g : St) : Prop := ∃ bo O, Kv W own bl bo O ∧ Full O ∧ look O = g
section
variable {W W' : World} {own own2 m : Nat → Prop} {bl : Nat} {g : St}
theorem Sto.kept (h : Sto W own bl g) (hf : Fr W W' m) (hn : ∀ k, own k → ¬ m k) : Sto W' own bl g := by
  obtain ⟨bo, O, h1, h2⟩ := h
  exact ⟨bo, O, h1.kept hf hn, h2⟩
theorem Sto.later (h : Sto W own bl g) (hb : Below W.heap.size W W') : Sto W' own bl g := h.kept (m := fun _ => False) (Fr.of_below hb _) (fun _ _ h => h)
theorem Sto.mono (h : Sto W own bl g) (ho : ∀ k, k < W.heap.size → own k → own2 k) : Sto W own2 bl g := by
  obtain ⟨bo, O, h1, h2⟩ := h
  exact ⟨bo, O, h1.mono ho, h2⟩
theorem Sto.lt (h : Sto W own bl g) : bl < W.heap.size := by obtain ⟨bo, O, h1, h2⟩ := h; exact h1.cell.lt
theorem Bd.short {n : Nat} (h : Bd n g) : ∀ a k v, g a k = some v → v.length ≤ 1000000000 := fun a k v e => by
  obtain ⟨D, _, h2⟩ := h
  have := (h2 a k v e).2.2
  omega
end
theorem sto_new (W : World) :
    Calls Try.prog 12 #[] W fun e w' => ∃ bl, e = .returned (.pointer (some ⟨bl, 0, none⟩)) ∧ Sto w' (fun k => W.heap.size ≤ k) bl St.nil ∧ Below W.heap.size W w' := by
  refine (kvnew_any W).mono ?_
  rintro e w' ⟨bl, bo, rfl, hk, hb⟩
  exact ⟨bl, rfl, ⟨bo, [], hk, fun p hp => (by cases hp), rfl⟩, hb⟩
section
variable {W : World} {own : Nat → Prop} {bl : Nat} {g : St} {n : Nat}
theorem sto_get (h : Sto W own bl g) (hB : Bd n g) (a : A8) {vk : Value} {k : Bs} (hk : Byt W vk k) (hkl : k.length ≤ maxLen) :
    Calls Try.prog 15 #[.pointer (some ⟨bl, 0, none⟩), a.v, vk] W fun e w' => ∃ v', e = .returned (.tuple #[v', .bool (g a k).isSome]) ∧ Bts w' (fun i => W.heap.size ≤ i) v' ((g a k).getD []) ∧ Below W.heap.size W w' := by
  obtain ⟨bo, O, h1, h2, rfl⟩ := h
  exact kvget_any h1 a hk hkl (hB.short a k)
/-- A map's block of one's own. -/
def OwnM (W : World) (own : Nat → Prop) (i : Nat) : Prop := own i ∧ ∃ es c, W.heap[i]? = some (.map es c)
theorem sto_put2 (h : Sto W own bl g) (ho : ∀ i, W.heap.size ≤ i → own i) (a : A8) {vk vv : Value} {k v : Bs} (hk : Byt W vk k) (hv : Byt W vv v) :
    Calls Try.prog 13 #[.pointer (some ⟨bl, 0, none⟩), a.v, vk, vv] W fun e w' => e = .returned (.int .i64 ((if 64 < k.length ∨ 1024 < v.length then 3 else 0 : Nat) : Int)) ∧ Sto w' own bl (if 64 < k.length ∨ 1024 < v.length then g else g.put a k (some v)) ∧ Fr W w' (fun i => OwnM W own i ∨ W.heap.size ≤ i) := by
  obtain ⟨bo, O, h1, h2, rfl⟩ := h
  by_cases hl : 64 < k.length ∨ 1024 < v.length
  · rw [if_pos hl, if_pos hl]
    refine (kvput_long a hk hv hl).mono ?_
    rintro e w' ⟨rfl, hb⟩
    exact ⟨rfl, ⟨bo, O, h1.later hb, h2, rfl⟩, Fr.of_below hb _⟩
  · rw [if_neg hl, if_neg hl]
    have hk64 : k.length ≤ 64 := by omega
    have hv1024 : v.length ≤ 1024 := by omega
    cases e0 : get O a with
    | none =>
      refine (kvput_new h1 a hk hv hk64 hv1024 e0).mono ?_
      rintro e w' ⟨m, v', rfl, hK, hf⟩
      have hlk : look (put (put O a (m, [])) a (m, put [] k (v', v))) = (look O).put a k (some v) := by
        rw [look_put a m [] k v' v (fun k' => by unfold look; rw [get_put, if_pos rfl]; rfl)]
        congr 1
        funext a' k'
        unfold look
        rw [get_put]
        by_cases ha : a' = a
        · subst ha
          rw [if_pos rfl, e0]
          rfl
        · rw [if_neg ha]
      refine ⟨rfl, ⟨bo, _, hK.mono (fun i _ hi => hi.elim id (ho i)), fun p hp => ?_, hlk⟩, hf.mono (fun i _ hi => hi.elim (fun hi => Or.inl ⟨h1.mp hi, h1.mp_map hi⟩) Or.inr)⟩
      rcases List.mem_cons.1 hp with rfl | hp
      · exact List.cons_ne_nil _ _
      · have := mem_cut.1 hp
        rcases List.mem_cons.1 this.1 with rfl | h3
        · exact absurd rfl this.2
        · exact h2 p (mem_cut.1 h3).1
    | some p =>
      obtain ⟨m, K⟩ := p
      refine (kvput_old h1 a hk hv hk64 hv1024 e0).mono ?_
      rintro e w' ⟨v', rfl, hK, hf⟩
      refine ⟨rfl, ⟨bo, _, hK.mono (fun i _ hi => hi.elim id (ho i)), fun p hp => ?_, look_put a m K k v' v (fun k' => by unfold look; rw [e0]; rfl)⟩, hf.mono (fun i _ hi => hi.elim (fun hi => Or.inl ⟨h1.mp hi, h1.mp_map hi⟩) Or.inr)⟩
      rcases List.mem_cons.1 hp with rfl | hp
      · exact List.cons_ne_nil _ _
      · exact h2 p (mem_cut.1 hp).1
theorem sto_put (h : Sto W own bl g) (ho : ∀ i, W.heap.size ≤ i → own i) (a : A8) {vk vv : Value} {k v : Bs} (hk : Byt W vk k) (hv : Byt W vv v) :
    Calls Try.prog 13 #[.pointer (some ⟨bl, 0, none⟩), a.v, vk, vv] W fun e w' => e = .returned (.int .i64 ((if 64 < k.length ∨ 1024 < v.length then 3 else 0 : Nat) : Int)) ∧ Sto w' own bl (if 64 < k.length ∨ 1024 < v.length then g else g.put a k (some v)) ∧ Fr W w' own :=
  (sto_put2 h ho a hk hv).mono fun _ _ ⟨h1, h2, h3⟩ => ⟨h1, h2, h3.mono fun i _ hi => hi.elim (fun hi => hi.1) (ho i)⟩
theorem put_none {g : St} {a : A8} {k : Bs} (h : g a k = none) : g.put a k none = g := by
  funext a' k'
  unfold St.put
  by_cases hc : a' = a ∧ k' = k
  · rw [if_pos hc, hc.1, hc.2, h]
  · rw [if_neg hc]
theorem sto_del2 (h : Sto W own bl g) (hB : Bd n g) (a : A8) {vk : Value} {k : Bs} (hk : Byt W vk k) (hkl : k.length ≤ maxLen) :
    Calls Try.prog 14 #[.pointer (some ⟨bl, 0, none⟩), a.v, vk] W fun e w' => e = .returned (.bool (g a k).isSome) ∧ Sto w' own bl (g.put a k none) ∧ Fr W w' (OwnM W own) := by
  obtain ⟨bo, O, h1, h2, rfl⟩ := h
  cases e0 : look O a k with
  | none =>
    refine (kvdel_no h1 a hk hkl (hB.short a k) e0).mono ?_
    rintro e w' ⟨rfl, hb⟩
    exact ⟨rfl, ⟨bo, O, h1.later hb, h2, (put_none e0).symm⟩, Fr.of_below hb _⟩
  | some v =>
    have e1 := e0
    unfold look at e1
    cases e2 : get O a with
    | none => rw [e2] at e1; cases e1
    | some p =>
      obtain ⟨m, K⟩ := p
      rw [e2, Option.bind_some] at e1
      cases e3 : get K k with
      | none => rw [e3] at e1; cases e1
      | some u =>
        refine (kvdel_yes h1 a hk hkl (hB.short a k) e2 e3).mono ?_
        rintro e w' ⟨O', rfl, hK, hl, hF, hf⟩
        exact ⟨rfl, ⟨bo, O', hK, hF h2, hl⟩, hf.mono fun i _ hi => ⟨h1.mp hi, h1.mp_map hi⟩⟩
theorem sto_del (h : Sto W own bl g) (hB : Bd n g) (a : A8) {vk : Value} {k : Bs} (hk : Byt W vk k) (hkl : k.length ≤ maxLen) :
    Calls Try.prog 14 #[.pointer (some ⟨bl, 0, none⟩), a.v, vk] W fun e w' => e = .returned (.bool (g a k).isSome) ∧ Sto w' own bl (g.put a k none) ∧ Fr W w' own :=
  (sto_del2 h hB a hk hkl).mono fun _ _ ⟨h1, h2, h3⟩ => ⟨h1, h2, h3.mono fun _ _ hi => hi.1⟩
theorem sto_list (h : Sto W own bl g) (hB : Bd n g) (hn : n ≤ 100000) (a : A8) :
    Calls Try.prog 16 #[.pointer (some ⟨bl, 0, none⟩), a.v] W fun e w' => ∃ v' T, e = .returned v' ∧ ShowsP w' v' T ∧ Tells g a (saidP T) ∧ Below W.heap.size W w' := by
  obtain ⟨bo, O, h1, h2, rfl⟩ := h
  cases e0 : get O a with
  | none =>
    refine (kvlist_none h1 a e0).mono ?_
    rintro e w' ⟨rfl, hb⟩
    refine ⟨_, [], rfl, ShowsP.nil _ _, ⟨List.Pairwise.nil, fun k v => ?_⟩, hb⟩
    unfold look
    rw [e0]
    exact ⟨(fun h => by cases h), (fun h => by cases h)⟩
  | some p =>
    obtain ⟨m, K⟩ := p
    exact kvlist_some h1 a hB hn e0
theorem Bd.lenO {O : Os} (hB : Bd n (look O)) (hF : Full O) (h1 : One O) (h2 : ∀ p ∈ O, One p.2.2) : O.length ≤ n := by
  obtain ⟨D, h3, h4⟩ := hB
  have hk : ∀ p : A8 × (Nat × Vs), p ∈ O → ∃ k, (p.1, k) ∈ D := fun p hp => by
    obtain ⟨c, hc⟩ := List.exists_mem_of_ne_nil _ (hF p hp)
    exact ⟨c.1, (h4 p.1 c.1 c.2.2 (by unfold look; rw [h1.get (show (p.1, p.2) ∈ O from hp), Option.bind_some, (h2 p hp).get (show (c.1, c.2) ∈ p.2.2 from hc)]; rfl)).1⟩
  have hnd : (O.map (·.1)).Nodup := h1
  have := nodup_le (l := O.map (·.1)) (m := D.map (·.1)) hnd (fun x hx => by
    obtain ⟨p, hp, rfl⟩ := List.mem_map.1 hx
    obtain ⟨k, hk⟩ := hk p hp
    exact List.mem_map.2 ⟨_, hk, rfl⟩)
  rw [List.length_map, List.length_map] at this
  omega
theorem sto_all (h : Sto W own bl g) (hB : Bd n g) (hn : n ≤ 100000) :
    Calls Try.prog 44 #[.pointer (some ⟨bl, 0, none⟩)] W fun e w' => ∃ v ts, e = .returned v ∧ ShowsA w' v ts ∧ RiseA ts ∧ (∀ a, a ∈ ts ↔ ∃ k v, g a k = some v) ∧ ts.length ≤ n ∧ Below W.heap.size W w' := by
  obtain ⟨bo, O, h1, h2, rfl⟩ := h
  have hl := hB.lenO h2 h1.one (fun p hp => h1.ones hp)
  refine (kvall_any h1 (by omega)).mono ?_
  rintro e w' ⟨v, ts, rfl, hp, hr, hrow, hb⟩
  refine ⟨v, ts, rfl, showsA_row hrow, hr, fun a => ?_, by have := hp.length_eq; rw [List.length_map] at this; omega, hb⟩
  rw [hp.mem_iff]
  constructor
  · intro hm
    obtain ⟨p, hpO, rfl⟩ := List.mem_map.1 hm
    obtain ⟨c, hc⟩ := List.exists_mem_of_ne_nil _ (h2 p hpO)
    exact ⟨c.1, c.2.2, by unfold look; rw [h1.one.get (show (p.1, p.2) ∈ O from hpO), Option.bind_some, (h1.ones hpO).get (show (c.1, c.2) ∈ p.2.2 from hc)]; rfl⟩
  · rintro ⟨k, v, hk⟩
    unfold look at hk
    cases e : get O a with
    | none => rw [e] at hk; cases hk
    | some p => exact List.mem_map.2 ⟨_, get_mem e, rfl⟩
end

/-! ### no store -/
set_option maxRecDepth 100000 in
theorem kvget_nil (W : World) (a : A8) (v : Value) : Calls Try.prog 15 #[.pointer none, a.v, v] W fun e w' => e = .returned (.tuple #[.slice none 0 0, .bool false]) ∧ Below W.heap.size W w' := by
  simp only [A8.v]
  go_enter Try.func15, Try.ntmps15
  go_wp2
  first | go_ret | go_ret2
  exact ⟨rfl, (Below.refl _ _).alloc (Nat.le_refl _) _⟩
set_option maxRecDepth 100000 in
theorem kvput_nil (W : World) (a : A8) (v u : Value) : Calls Try.prog 13 #[.pointer none, a.v, v, u] W fun e w' => e = .returned (.int .i64 1) ∧ Below W.heap.size W w' := by
  simp only [A8.v]
  go_enter Try.func13, Try.ntmps13
  go_wp2
  go_ret
  exact ⟨rfl, (Below.refl _ _).alloc (Nat.le_refl _) _⟩
set_option maxRecDepth 100000 in
theorem kvdel_nil (W : World) (a : A8) (v : Value) : Calls Try.prog 14 #[.pointer none, a.v, v] W fun e w' => e = .returned (.bool false) ∧ Below W.heap.size W w' := by
  have H := Lib.hid (fun w => kvget_nil w a v)
  simp only [A8.v] at H ⊢
  go_enter Try.func14, Try.ntmps14
  go_wp2_with fail
  refine (H.out _).mono ?_
  rintro e w' ⟨rfl, hb⟩
  have HB := Lib.hid (((Below.refl _ _).alloc (Nat.le_refl _) _).trans (hb.mono (by simp)))
  clear hb
  go_wp2_with fail
  go_ret
  exact ⟨rfl, HB.out⟩
set_option maxRecDepth 100000 in
theorem kvlist_nil (W : World) (a : A8) : Calls Try.prog 16 #[.pointer none, a.v] W fun e w' => e = .returned (.slice none 0 0) ∧ Below W.heap.size W w' := by
  simp only [A8.v]
  go_enter Try.func16, Try.ntmps16
  go_wp2
  go_ret
  exact ⟨rfl, (Below.refl _ _).alloc (Nat.le_refl _) _⟩
set_option maxRecDepth 100000 in
theorem kvcopy_nil (W : World) : Calls Try.prog 42 #[.pointer none] W fun e w' => e = .returned (.pointer none) ∧ w' = W := by
  go_enter Try.func42, Try.ntmps42
  go_wp2
  go_ret
  exact ⟨rfl, rfl⟩
set_option maxRecDepth 100000 in
theorem kvall_nil (W : World) : Calls Try.prog 44 #[.pointer none] W fun e w' => e = .returned (.slice none 0 0) ∧ w' = W := by
  refine (callsIn_wide (n := 9)).1 ?_
  refine callsIn_of_wp Try.func44 rfl trivial ?_ rfl
  simp only [Try.ntmps44, List.size_toArray, List.length_cons, List.length_nil, Nat.reduceAdd, Nat.reduceSub, Array.replicate_succ, Array.replicate_zero, List.push_toArray, List.append_toArray, List.nil_append, List.cons_append]
  gi_wp2
  go_ret
  exact ⟨rfl, rfl⟩
set_option maxRecDepth 100000 in
theorem kvpairs_nil (W : World) (a : A8) : Calls Try.prog 41 #[.pointer none, a.v] W fun e w' => e = .returned (.func (.func 77) #[] #[.pointer (some ⟨W.heap.size, 0, none⟩), .pointer (some ⟨W.heap.size + 1, 0, none⟩)]) ∧ w' = (W.alloc (.cells #[.pointer none] 28)).alloc (.cells a.cs.toArray 24) := by
  simp only [A8.v]
  go_enter Try.func41, Try.ntmps41
  go_wp2
  go_ret
  exact ⟨rfl, rfl⟩
end Go.Proofs.Yteeghdkejnhjnaa.Kv
