/- The walk of the document's SameEvents: two lists that are shown. -/
import Derived.Test.YteeghdkejnhjnaaBoV
import Derived.Laws.BytesArg
namespace Go.Proofs.Yteeghdkejnhjnaa.Bo
open Go Go.RowKit Kt Ad

def bst (b : List UInt8) : ByteArray := ⟨b.toArray⟩
theorem bst_beq (a b : List UInt8) : ((bst a).toList == (bst b).toList) = decide (a = b) := by
  rw [ByteArray.toList_eq, ByteArray.toList_eq]
  show (a == b) = _
  by_cases h : a = b
  · subst h; simp
  · simp [h]
set_option maxRecDepth 100000 in
theorem Byt.conv {W : World} {v : Value} {b : List UInt8} (h : Byt W v b) : (convert 25 9 v).run Try.prog W = .ok (.string (bst b)) W := by
  obtain ⟨s, cap, rfl, hb⟩ := h
  by_cases h0 : b = []
  · subst h0
    have hz : ∀ p : Option Addr, (convert 25 9 (.slice p 0 cap)).run Try.prog W = .ok (.string ByteArray.empty) W := fun p => by
      rw [run_convert_bytes_string W _ _ _ _ 0 cap Try.underlying25 Try.underlying5 Try.underlying9]
      cases p <;> simp [Conv.bytesToString, loadCells]
      all_goals rfl
    simp only [List.length_nil]
    rw [hz]
    rfl
  · obtain ⟨g, off, rfl, hg, hc⟩ := hb h0
    have := run_convert_bytes_arg (P := Try.prog) W _ _ Try.underlying25 Try.underlying5 g off b.length cap (b.map fun x => (x.toNat : Int)) (by simp) (fun i hi => by
      rw [hc i b[i] (List.getElem?_eq_getElem hi)]
      simp [List.getD, u8v, List.getElem?_eq_getElem hi]) _ Try.underlying9
    rw [this]
    congr 2
    unfold strOfNums bst
    congr 1
    rw [List.map_map, show b.map ((fun n : Int => UInt8.ofNat n.toNat) ∘ fun x : UInt8 => (x.toNat : Int)) = b.map id from List.map_congr_left fun x _ => by simp, List.map_id]

/-- A slice shows these events. -/
structure Shows (W : World) (v : Value) (E : List Ev) : Prop where
  row : ∃ s cap, v = .slice s E.length cap ∧ (E ≠ [] → ∃ g off, s = some ⟨g, off, none⟩ ∧ g < W.heap.size ∧ ∀ j u, (E.flatMap Ev.cs)[j]? = some u → W.cell? ⟨g, off + j, none⟩ = some u)
  evs : ∀ x ∈ E, Byt W x.v x.b
theorem WRow.shows {W : World} {own : Nat → Prop} {v : Value} {E : List Ev} (h : WRow W own 66 9 v E.length (E.flatMap Ev.cs)) (he : ∀ x ∈ E, Byt W x.v x.b) : Shows W v E := by
  refine ⟨?_, he⟩
  obtain ⟨s, cap, rfl, _, hs⟩ := h.form
  refine ⟨s, cap, rfl, fun hne => ?_⟩
  obtain ⟨g, rfl, hg⟩ := hs (by have := List.length_pos_iff.2 hne; omega)
  exact ⟨g, 0, rfl, hg, fun j u hj => by rw [Nat.zero_add]; exact h.cell hj⟩
theorem Told.shows {W : World} {own : Nat → Prop} {v : Value} {E : List Ev} (h : Told W own v E) : Shows W v E := WRow.shows h.row (fun x hx => (h.evs x hx).byt)
theorem Shows.later {W W' : World} {v : Value} {E : List Ev} (h : Shows W v E) (hb : Below W.heap.size W W') : Shows W' v E := by
  refine ⟨?_, fun x hx => (h.evs x hx).later hb⟩
  obtain ⟨s, cap, rfl, hs⟩ := h.row
  refine ⟨s, cap, rfl, fun hne => ?_⟩
  obtain ⟨g, off, rfl, hg, hc⟩ := hs hne
  exact ⟨g, off, rfl, Nat.lt_of_lt_of_le hg hb.size, fun j u hj => (hb.cell (p := ⟨g, off + j, none⟩) hg).trans (hc j u hj)⟩
/-- The cells of the i-th event that is shown. -/
def EvAt (W : World) (g o : Nat) (x : Ev) : Prop :=
  W.cell? ⟨g, o, none⟩ = some (.int .u8 x.a.x0.toNat) ∧ W.cell? ⟨g, o + 1, none⟩ = some (.int .u8 x.a.x1.toNat) ∧ W.cell? ⟨g, o + 2, none⟩ = some (.int .u8 x.a.x2.toNat) ∧ W.cell? ⟨g, o + 3, none⟩ = some (.int .u8 x.a.x3.toNat) ∧ W.cell? ⟨g, o + 4, none⟩ = some (.int .u8 x.a.x4.toNat) ∧ W.cell? ⟨g, o + 5, none⟩ = some (.int .u8 x.a.x5.toNat) ∧ W.cell? ⟨g, o + 6, none⟩ = some (.int .u8 x.a.x6.toNat) ∧ W.cell? ⟨g, o + 7, none⟩ = some (.int .u8 x.a.x7.toNat) ∧ W.cell? ⟨g, o + 8, none⟩ = some x.v
theorem shown_at {W : World} {g off : Nat} {E : List Ev} (h : ∀ j u, (E.flatMap Ev.cs)[j]? = some u → W.cell? ⟨g, off + j, none⟩ = some u) {k : Nat} {x : Ev} (hk : E[k]? = some x) : EvAt W g (off + k * 9) x := by
  have c : ∀ j, j < 9 → W.cell? ⟨g, off + k * 9 + j, none⟩ = x.cs[j]? := fun j hj => by
    have e := getElem?_flat Ev.len hk hj
    obtain ⟨u, hu⟩ : ∃ u, x.cs[j]? = some u := ⟨_, List.getElem?_eq_getElem (by rw [Ev.len]; exact hj)⟩
    rw [hu] at e ⊢
    rw [Nat.add_assoc]
    exact h _ _ e
  exact ⟨c 0 (by omega), c 1 (by omega), c 2 (by omega), c 3 (by omega), c 4 (by omega), c 5 (by omega), c 6 (by omega), c 7 (by omega), c 8 (by omega)⟩
theorem said_take {A B : List Ev} {i : Nat} {x y : Ev} (hx : A[i]? = some x) (hy : B[i]? = some y) (h : said (A.take i) = said (B.take i)) : said (A.take (i + 1)) = said (B.take (i + 1)) ↔ x.a = y.a ∧ x.b = y.b := by
  have e1 : A.take (i + 1) = A.take i ++ [x] := by rw [List.take_add_one, hx]; rfl
  have e2 : B.take (i + 1) = B.take i ++ [y] := by rw [List.take_add_one, hy]; rfl
  rw [e1, e2]
  unfold said at *
  rw [List.map_append, List.map_append, h]
  simp
theorem said_of_take {A B : List Ev} (i : Nat) (h : said A = said B) : said (A.take i) = said (B.take i) := by
  unfold said at *
  rw [List.map_take, List.map_take, h]

set_option maxRecDepth 100000 in
set_option maxHeartbeats 4000000 in
theorem same_any {W : World} {va vb : Value} {A B : List Ev} (ha : Shows W va A) (hb : Shows W vb B) (hN : A.length ≤ 1000000000) :
    Calls Try.prog 34 #[va, vb] W fun e w' => e = .returned (.bool (decide (said A = said B))) ∧ Below W.heap.size W w' := by
  obtain ⟨sa, ca, rfl, hsa⟩ := ha.row
  obtain ⟨sb, cb, rfl, hsb⟩ := hb.row
  have HA := Lib.hid ha
  have HB := Lib.hid hb
  have HSA := Lib.hid hsa
  have HSB := Lib.hid hsb
  clear ha hb hsa hsb
  have hle : said A = said B → A.length = B.length := fun h => by have := congrArg List.length h; simpa [said] using this
  have HLE := Lib.hid hle
  clear hle
  obtain ⟨R, hR⟩ : ∃ R, decide (said A = said B) = R := ⟨_, rfl⟩
  rw [hR]
  have HR := Lib.hid hR
  clear hR
  go_enter Try.func34, Try.ntmps34
  go_wp2_with fail
  go_loopw [5, 6] (fun o i wr => ∃ (k : Nat) (ob : Bool), k ≤ A.length ∧ o = .bool ob ∧ i = .int .i64 k ∧ (ob = true ↔ (A.length = B.length ∧ said (A.take k) = said (B.take k))) ∧ Below W.heap.size W wr)
    (fun _ i _ => A.length - (intOf i).toNat)
  case atStart => exact ⟨0, _, by omega, rfl, rfl, by simp [said]; omega, Below.refl _ _⟩
  case round =>
    obtain ⟨k, ob, hk, rfl, rfl, ho, hb⟩ := hrel
    have HO := Lib.hid ho
    have HW := Lib.hid hb
    clear ho hb
    by_cases hlt : k < A.length
    · cases ob with
      | false =>
        have hne : said A ≠ said B := fun e => by
          have := HO.out.2 ⟨HLE.out e, said_of_take k e⟩
          cases this
        obtain rfl : R = false := by rw [← HR.out]; exact decide_eq_false hne
        clear hne
        go_wp2_with fail
        go_ret
        exact ⟨rfl, HW.out⟩
      | true =>
        obtain ⟨hlen, htk⟩ := HO.out.1 rfl
        obtain ⟨x, hx⟩ : ∃ x, A[k]? = some x := ⟨_, List.getElem?_eq_getElem hlt⟩
        obtain ⟨y, hy⟩ : ∃ y, B[k]? = some y := ⟨_, List.getElem?_eq_getElem (by omega)⟩
        obtain ⟨ga, oa, rfl, hga, hca⟩ := HSA.out (by intro e; simp [e] at hlt)
        obtain ⟨gb, pb, rfl, hgb, hcb⟩ := HSB.out (by intro e; rw [e, List.length_nil] at hlen; omega)
        have hax := shown_at hca hx
        have hby := shown_at hcb hy
        have hst := said_take hx hy htk
        have HX := Lib.hid ((HA.out.evs x (List.mem_of_getElem? hx)).later HW.out)
        have HY := Lib.hid ((HB.out.evs y (List.mem_of_getElem? hy)).later HW.out)
        have HAX := Lib.hid (show EvAt wr ga (oa + k * 9) x from by
          unfold EvAt at hax ⊢
          obtain ⟨h0, h1, h2, h3, h4, h5, h6, h7, h8⟩ := hax
          exact ⟨(HW.out.cell hga).trans h0, (HW.out.cell hga).trans h1, (HW.out.cell hga).trans h2, (HW.out.cell hga).trans h3, (HW.out.cell hga).trans h4, (HW.out.cell hga).trans h5, (HW.out.cell hga).trans h6, (HW.out.cell hga).trans h7, (HW.out.cell hga).trans h8⟩)
        have HBY := Lib.hid (show EvAt wr gb (pb + k * 9) y from by
          unfold EvAt at hby ⊢
          obtain ⟨h0, h1, h2, h3, h4, h5, h6, h7, h8⟩ := hby
          exact ⟨(HW.out.cell hgb).trans h0, (HW.out.cell hgb).trans h1, (HW.out.cell hgb).trans h2, (HW.out.cell hgb).trans h3, (HW.out.cell hgb).trans h4, (HW.out.cell hgb).trans h5, (HW.out.cell hgb).trans h6, (HW.out.cell hgb).trans h7, (HW.out.cell hgb).trans h8⟩)
        obtain ⟨ax, vx, bx⟩ := x
        obtain ⟨ay, vy, byy⟩ := y
        obtain ⟨sx, cx, hvx⟩ : ∃ sx cx, vx = .slice sx bx.length cx := by obtain ⟨s, c, e, _⟩ := HX.out; exact ⟨s, c, e⟩
        obtain ⟨sy, cy, hvy⟩ : ∃ sy cy, vy = .slice sy byy.length cy := by obtain ⟨s, c, e, _⟩ := HY.out; exact ⟨s, c, e⟩
        subst hvx
        subst hvy
        have HST := Lib.hid hst
        clear hax hby hca hcb hga hgb hx hy htk hst
        have hlB : k < B.length := by omega
        have HLEN := Lib.hid hlen
        clear hlen
        by_cases hxy : ax = ay
        · as_aux_lemma =>
            subst hxy
            go_wp2_with fail
            refine RP.region (RP.take 0 (RP.take 1 (RP.take 2 (RP.take 3 (RP.take 4 (RP.take 5 (RP.take 6 (RP.take 7 (RP.take 8 (RP.take 9 (RP.take 10 (RP.take 11 (RP.take 12 (RP.take 13 (RP.take 14 (RP.take 15 (RP.take 16 (RP.take 17 (RP.take 18 (RP.take 19 (RP.take 20 (RP.take 21 (RP.take 22 (RP.take 23 (RP.take 24 (RP.take 25 (RP.take 26 RP.done))))))))))))))))))))))))))) (fun w' => EvAt w' ga (oa + k * 9) ⟨ax, .slice sx bx.length cx, bx⟩ ∧ EvAt w' gb (pb + k * 9) ⟨ax, .slice sy byy.length cy, byy⟩ ∧ Byt w' (.slice sx bx.length cx) bx ∧ Byt w' (.slice sy byy.length cy) byy) (by as_aux_lemma => kernel_rfl) (by as_aux_lemma => kernel_rfl) (fun _ _ d _ _ h => by cases d <;> exact h) ⟨HAX.out, HBY.out, HX.out, HY.out⟩ (fun hS => ?_)
            clear hS
            repeat (first | (refine RP.t_take (v := ?_) rfl rfl (fun w' hw' => ?_) ?_; rotate_left; (focus ((obtain ⟨hxr, hyr, hxb, hyb⟩ := hw'; obtain ⟨c0, c1, c2, c3, c4, c5, c6, c7, c8⟩ := hxr; obtain ⟨d0, d1, d2, d3, d4, d5, d6, d7, d8⟩ := hyr; have kx := hxb.conv; have ky := hyb.conv); go_simp; (try go_bits); (try (with_reducible rfl)))); (try simp only [Act.put, List.setIfInBounds_toArray, List.set_cons_zero, List.set_cons_succ])) | (refine RP.t_skip rfl rfl ?_; (try simp only [Act.put, List.setIfInBounds_toArray, List.set_cons_zero, List.set_cons_succ])))
            refine RP.t_done ?_
            simp only [bst_beq]
            go_wp2_with fail
            go_roundw
            case rel => exact ⟨k + 1, decide (bx = byy), by omega, rfl, by go_num, by rw [HST.out]; simp [HLEN.out], HW.out.drew⟩
            case measure => simp [intOf]; omega
        · as_aux_lemma =>
            go_wp2_with fail
            refine RP.region (RP.take 0 (RP.take 1 (RP.take 2 (RP.take 3 (RP.take 4 (RP.take 5 (RP.take 6 (RP.take 7 (RP.take 8 (RP.take 9 (RP.take 10 (RP.take 11 (RP.take 12 (RP.take 13 (RP.take 14 (RP.take 15 (RP.take 16 (RP.take 17 (RP.take 18 (RP.take 19 (RP.take 20 (RP.take 21 (RP.take 22 (RP.take 23 (RP.take 24 (RP.take 25 (RP.take 26 RP.done))))))))))))))))))))))))))) (fun w' => EvAt w' ga (oa + k * 9) ⟨ax, .slice sx bx.length cx, bx⟩ ∧ EvAt w' gb (pb + k * 9) ⟨ay, .slice sy byy.length cy, byy⟩ ∧ Byt w' (.slice sx bx.length cx) bx ∧ Byt w' (.slice sy byy.length cy) byy) (by as_aux_lemma => kernel_rfl) (by as_aux_lemma => kernel_rfl) (fun _ _ d _ _ h => by cases d <;> exact h) ⟨HAX.out, HBY.out, HX.out, HY.out⟩ (fun hS => ?_)
            clear hS
            repeat (first | (refine RP.t_take (v := ?_) rfl rfl (fun w' hw' => ?_) ?_; rotate_left; (focus ((obtain ⟨hxr, hyr, hxb, hyb⟩ := hw'; obtain ⟨c0, c1, c2, c3, c4, c5, c6, c7, c8⟩ := hxr; obtain ⟨d0, d1, d2, d3, d4, d5, d6, d7, d8⟩ := hyr; have kx := hxb.conv; have ky := hyb.conv); go_simp; (try go_bits); (try (with_reducible rfl)))); (try simp only [Act.put, List.setIfInBounds_toArray, List.set_cons_zero, List.set_cons_succ])) | (refine RP.t_skip rfl rfl ?_; (try simp only [Act.put, List.setIfInBounds_toArray, List.set_cons_zero, List.set_cons_succ])))
            refine RP.t_done ?_
            go_wp2_with fail
            go_roundw
            case rel => exact ⟨k + 1, false, by omega, rfl, by go_num, by rw [HST.out]; simp [hxy], HW.out.drew⟩
            case measure => simp [intOf]; omega
    · obtain rfl : k = A.length := by omega
      obtain rfl : R = ob := by
        rw [← HR.out]
        have h1 := HO.out
        rw [List.take_length] at h1
        by_cases e : said A = said B
        · have hl := HLE.out e
          rw [decide_eq_true e, eq_comm, h1]
          exact ⟨hl, by rw [hl, List.take_length]; exact e⟩
        · rw [decide_eq_false e, eq_comm, ← Bool.not_eq_true]
          intro h2
          obtain ⟨hl, h3⟩ := h1.1 h2
          rw [hl, List.take_length] at h3
          exact e h3
      go_wp2_with fail
      go_ret
      exact ⟨rfl, HW.out⟩
end Go.Proofs.Yteeghdkejnhjnaa.Bo
