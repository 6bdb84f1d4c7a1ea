/- The document's store in memory: a row of entries; the walks of its Get and List. -/
import Derived.Test.YteeghdkejnhjnaaKvA
import Derived.Deep.MidRow
import Derived.Deep.WholeRow
namespace Go.Proofs.Yteeghdkejnhjnaa.Kv
open Go Go.RowKit Go.Shelf Kt Ad Bo

/-- An entry: an address, a key, a value. -/
structure En where
  (a : A8) (kv : Value) (k : Bs) (vv : Value) (v : Bs)
def En.cs (x : En) : List Value := [.int .u8 x.a.x0.toNat, .int .u8 x.a.x1.toNat, .int .u8 x.a.x2.toNat, .int .u8 x.a.x3.toNat, .int .u8 x.a.x4.toNat, .int .u8 x.a.x5.toNat, .int .u8 x.a.x6.toNat, .int .u8 x.a.x7.toNat, x.kv, x.vv]
theorem En.len (x : En) : x.cs.length = 10 := rfl
/-- THE DOCUMENT's STORE: the struct in block br, its row of entries. -/
structure Dk (W : World) (own : Nat → Prop) (br : Nat) (vl : Value) (L : List En) : Prop where
  cell : Lies W br 75 #[vl]
  row : WRow W own 122 10 vl L.length (L.flatMap En.cs)
  bts : ∀ x ∈ L, Bts W own x.kv x.k ∧ Bts W own x.vv x.v
  obr : own br
section
variable {W W' : World} {own own' m : Nat → Prop} {br : Nat} {vl : Value} {L : List En}
theorem Dk.kept (h : Dk W own br vl L) (hf : Fr W W' m) (hn : ∀ k, own k → ¬ m k) : Dk W' own br vl L :=
  ⟨lies_fr h.cell hf (hn _ h.obr), h.row.kept hf (fun k hk _ => hn k hk), fun x hx => ⟨(h.bts x hx).1.kept hf hn, (h.bts x hx).2.kept hf hn⟩, h.obr⟩
theorem Dk.later (h : Dk W own br vl L) (hb : Below W.heap.size W W') : Dk W' own br vl L := h.kept (m := fun _ => False) (Fr.of_below hb _) (fun _ _ h => h)
theorem Dk.drew (h : Dk W own br vl L) : Dk W.drew own br vl L := h.later (Below.refl _ _).drew
theorem Dk.mono (h : Dk W own br vl L) (ho : ∀ k, k < W.heap.size → own k → own' k) : Dk W own' br vl L :=
  ⟨h.cell, h.row.mono ho, fun x hx => ⟨(h.bts x hx).1.mono ho, (h.bts x hx).2.mono ho⟩, ho _ h.cell.lt h.obr⟩
theorem wrow_cell2 {α : Type} {enc : α → List Value} {sz : Nat} {e : TypeId} {g cap n : Nat} {l : List α} (hm : ∀ x, (enc x).length = sz) (h : WRow W own e sz (.slice (some ⟨g, 0, none⟩) n cap) n (l.flatMap enc)) {k : Nat} {x : α} (hk : l[k]? = some x) {j : Nat} (hj : j < sz) : W.cell? ⟨g, k * sz + j, none⟩ = (enc x)[j]? := by
  have h2 := getElem?_flat hm hk hj
  obtain ⟨u, hu⟩ : ∃ u, (enc x)[j]? = some u := ⟨_, List.getElem?_eq_getElem (by rw [hm]; exact hj)⟩
  rw [hu] at h2 ⊢
  exact h.cell h2
theorem en_range {g cap n : Nat} (h : WRow W own 122 10 (.slice (some ⟨g, 0, none⟩) n cap) n (L.flatMap En.cs)) {k : Nat} {x : En} (hk : L[k]? = some x) : W.rangeAt g (k * 10) x.cs := by
  intro j c hj
  have hjl : j < 10 := (List.getElem?_eq_some_iff.1 hj).1
  rw [wrow_cell2 En.len h hk hjl, hj]
theorem en_cells {g cap n : Nat} (h : WRow W own 122 10 (.slice (some ⟨g, 0, none⟩) n cap) n (L.flatMap En.cs)) {k : Nat} {x : En} (hk : L[k]? = some x) : W.cell? ⟨g, k * 10, none⟩ = some (.int .u8 x.a.x0.toNat) ∧ W.cell? ⟨g, k * 10 + 1, none⟩ = some (.int .u8 x.a.x1.toNat) ∧ W.cell? ⟨g, k * 10 + 2, none⟩ = some (.int .u8 x.a.x2.toNat) ∧ W.cell? ⟨g, k * 10 + 3, none⟩ = some (.int .u8 x.a.x3.toNat) ∧ W.cell? ⟨g, k * 10 + 4, none⟩ = some (.int .u8 x.a.x4.toNat) ∧ W.cell? ⟨g, k * 10 + 5, none⟩ = some (.int .u8 x.a.x5.toNat) ∧ W.cell? ⟨g, k * 10 + 6, none⟩ = some (.int .u8 x.a.x6.toNat) ∧ W.cell? ⟨g, k * 10 + 7, none⟩ = some (.int .u8 x.a.x7.toNat) ∧ W.cell? ⟨g, k * 10 + 8, none⟩ = some (x.kv) ∧ W.cell? ⟨g, k * 10 + 9, none⟩ = some (x.vv) :=
  ⟨wrow_cell2 En.len h hk (j := 0) (by omega), wrow_cell2 En.len h hk (j := 1) (by omega), wrow_cell2 En.len h hk (j := 2) (by omega), wrow_cell2 En.len h hk (j := 3) (by omega), wrow_cell2 En.len h hk (j := 4) (by omega), wrow_cell2 En.len h hk (j := 5) (by omega), wrow_cell2 En.len h hk (j := 6) (by omega), wrow_cell2 En.len h hk (j := 7) (by omega), wrow_cell2 En.len h hk (j := 8) (by omega), wrow_cell2 En.len h hk (j := 9) (by omega)⟩
end
theorem sizeEn : (Try.prog.info? 122).map (·.size) = some 10 := by kernel_rfl
theorem exec_loadEn {op : Oper} {act : Act} (x : En) (b o : Nat) {w : World} (h : w.rangeAt b o x.cs) (p : Operand) (ho : op.op = .load 122 p) (hx : act.eval p = .pointer (some ⟨b, o, none⟩)) : (execOp act.eval op).run Try.prog w = .ok (.value (.agg x.cs.toArray)) w := by
  have hl := run_loadAt_mid (P := Try.prog) w b o 122 x.cs _ h Try.underlying122 rfl sizeEn
  unfold execOp
  simp only [ho, hx, hl, Sem.run_bind, Sem.run_pure, Result.andThen_ok]
theorem bst_no {a b : Bs} (h : a ≠ b) : ((bst a).toList == (bst b).toList) = false := by rw [bst_beq]; exact decide_eq_false h

set_option maxRecDepth 100000 in
set_option maxHeartbeats 4000000 in
theorem samee_any {W : World} (x : En) (hxk : Byt W x.kv x.k) (hxv : ∃ s c, x.vv = .slice s x.v.length c) (a : A8) {vk : Value} {k : Bs} (hk : Byt W vk k) :
    Calls Try.prog 76 #[.agg x.cs.toArray, a.v, vk] W fun e w' => e = .returned (.bool (decide (x.a = a ∧ x.k = k))) ∧ Below W.heap.size W w' := by
  obtain ⟨xa, xkv, xk, xvv, xv⟩ := x
  obtain ⟨sx, cx, hvx⟩ : ∃ sx cx, xkv = .slice sx xk.length cx := by obtain ⟨s, c, e, _⟩ := hxk; exact ⟨s, c, e⟩
  obtain ⟨sy, cy, hvy⟩ := hxv
  obtain ⟨sk0, ck0, rfl⟩ : ∃ s c, vk = .slice s k.length c := by obtain ⟨s, c, e, _⟩ := hk; exact ⟨s, c, e⟩
  simp only at hvy
  subst hvx hvy
  obtain ⟨R, hR⟩ : ∃ R, R = decide (xa = a ∧ xk = k) := ⟨_, rfl⟩
  rw [show decide ((⟨xa, .slice sx xk.length cx, xk, .slice sy xv.length cy, xv⟩ : En).a = a ∧ (⟨xa, .slice sx xk.length cx, xk, .slice sy xv.length cy, xv⟩ : En).k = k) = R from hR.symm]
  have HR := Lib.hid hR
  have hb : Below W.heap.size W ((W.alloc (.cells (En.cs ⟨xa, .slice sx xk.length cx, xk, .slice sy xv.length cy, xv⟩).toArray 122)).alloc (.cells a.cs.toArray 24)) := ((Below.refl _ _).alloc (Nat.le_refl _) _).alloc (by simp) _
  have HB := Lib.hid hb
  have HX := Lib.hid (show Byt W (.slice sx xk.length cx) xk from hxk)
  have HK := Lib.hid hk
  clear hR hb hxk hk
  simp only [A8.v, En.cs]
  go_enter Try.func76, Try.ntmps76
  go_upto_region 1 with fail
  obtain ⟨W1, hW1⟩ : ∃ W1, W1 = (W.alloc (.cells (En.cs ⟨xa, .slice sx xk.length cx, xk, .slice sy xv.length cy, xv⟩).toArray 122)).alloc (.cells a.cs.toArray 24) := ⟨_, rfl⟩
  have h1 : Lies W1 W.heap.size 122 (En.cs ⟨xa, .slice sx xk.length cx, xk, .slice sy xv.length cy, xv⟩).toArray := hW1 ▸ (Lies.new W _ _).alloc _
  have h2 : Lies W1 (W.heap.size + 1) 24 a.cs.toArray := by
    have := Lies.new (W.alloc (.cells (En.cs ⟨xa, .slice sx xk.length cx, xk, .slice sy xv.length cy, xv⟩).toArray 122)) 24 a.cs.toArray
    rw [World.size_alloc] at this
    exact hW1 ▸ this
  rw [← hW1] at HB
  rw [show (W.alloc (.cells #[.int .u8 xa.x0.toNat, .int .u8 xa.x1.toNat, .int .u8 xa.x2.toNat, .int .u8 xa.x3.toNat, .int .u8 xa.x4.toNat, .int .u8 xa.x5.toNat, .int .u8 xa.x6.toNat, .int .u8 xa.x7.toNat, .slice sx xk.length cx, .slice sy xv.length cy] 122)).alloc (.cells #[.int .u8 a.x0.toNat, .int .u8 a.x1.toNat, .int .u8 a.x2.toNat, .int .u8 a.x3.toNat, .int .u8 a.x4.toNat, .int .u8 a.x5.toNat, .int .u8 a.x6.toNat, .int .u8 a.x7.toNat] 24) = W1 from hW1.symm]
  have kx := Byt.conv (HX.out.later HB.out)
  have ky := Byt.conv (HK.out.later HB.out)
  have c0 := h1.cell 0; have c1 := h1.cell 1; have c2 := h1.cell 2; have c3 := h1.cell 3; have c4 := h1.cell 4; have c5 := h1.cell 5; have c6 := h1.cell 6; have c7 := h1.cell 7; have c8 := h1.cell 8; have c9 := h1.cell 9
  simp only [En.cs, List.getElem?_toArray, List.getElem?_cons_zero, List.getElem?_cons_succ] at c0 c1 c2 c3 c4 c5 c6 c7 c8 c9
  obtain ⟨a0, a1, a2, a3, a4, a5, a6, a7⟩ := lies_addr h2
  clear hW1 h1 h2 HX HK
  by_cases hxa : xa = a
  · by_cases hxk : xk = k
    · as_aux_lemma =>
        obtain rfl : R = true := by rw [HR.out]; exact decide_eq_true ⟨hxa, hxk⟩
        subst hxa hxk
        clear HR
        go_wp2_with fail
        go_ret
        exact ⟨rfl, HB.out⟩
    · as_aux_lemma =>
        obtain rfl : R = false := by rw [HR.out]; exact decide_eq_false (fun e => hxk e.2)
        have hq := bst_no hxk
        subst hxa
        clear HR hxk
        go_wp2_with fail
        go_ret
        exact ⟨rfl, HB.out⟩
  · as_aux_lemma =>
      obtain rfl : R = false := by rw [HR.out]; exact decide_eq_false (fun e => hxa e.1)
      clear HR
      go_wp2_with fail
      go_ret
      exact ⟨rfl, HB.out⟩

/-- What a key has by the document. -/
def dfind (L : List En) (a : A8) (k : Bs) : Option En := L.find? fun x => decide (x.a = a ∧ x.k = k)
theorem dfind_at {L : List En} {a : A8} {key : Bs} {k : Nat} {x : En} (hk : L[k]? = some x) (hx : x.a = a ∧ x.k = key) (hno : ∀ j y, j < k → L[j]? = some y → ¬ (y.a = a ∧ y.k = key)) : dfind L a key = some x := by
  unfold dfind
  rw [List.find?_eq_some_iff_append]
  refine ⟨decide_eq_true hx, L.take k, L.drop (k + 1), ?_, fun y hy => ?_⟩
  · have hl := (List.getElem?_eq_some_iff.1 hk)
    obtain ⟨h1, h2⟩ := hl
    rw [← h2]
    exact (List.take_append_drop k L).symm.trans (by rw [List.drop_eq_getElem_cons h1])
  · obtain ⟨j, hj, e⟩ := List.getElem_of_mem hy
    rw [List.getElem_take] at e
    have hjk : j < k := by rw [List.length_take] at hj; omega
    have := hno j y hjk (by rw [List.getElem?_eq_getElem (by rw [List.length_take] at hj; omega), e])
    simp only [Bool.not_eq_eq_eq_not, Bool.not_true, decide_eq_false_iff_not]
    exact this
theorem dfind_no {L : List En} {a : A8} {key : Bs} (hno : ∀ j y, j < L.length → L[j]? = some y → ¬ (y.a = a ∧ y.k = key)) : dfind L a key = none := by
  unfold dfind
  rw [List.find?_eq_none]
  intro y hy
  obtain ⟨j, hj, e⟩ := List.getElem_of_mem hy
  have := hno j y hj (by rw [List.getElem?_eq_getElem hj, e])
  simpa using this

set_option maxRecDepth 100000 in
set_option maxHeartbeats 8000000 in
theorem dget_any {W : World} {own : Nat → Prop} {br : Nat} {vl : Value} {L : List En} (h : Dk W own br vl L) (hN : L.length ≤ 1000000) (a : A8) {vk : Value} {k : Bs} (hk : Byt W vk k) :
    Calls Try.prog 39 #[.pointer (some ⟨br, 0, none⟩), a.v, vk] W fun e w' => ∃ v', e = .returned (.tuple #[v', .bool (dfind L a k).isSome]) ∧ Byt w' v' (((dfind L a k).map (·.v)).getD []) ∧ Below W.heap.size W w' := by
  obtain ⟨sl, cl, rfl, hle, hs⟩ := h.row.form
  obtain ⟨sk0, ck0, rfl⟩ : ∃ s c, vk = .slice s k.length c := by obtain ⟨s, c, e, _⟩ := hk; exact ⟨s, c, e⟩
  have HS := Lib.hid hs
  have H := Lib.hid h
  have HK := Lib.hid hk
  have hbr := h.cell.lt
  clear h hk hs hle
  simp only [A8.v]
  go_enter Try.func39, Try.ntmps39
  go_upto_region 1 with fail
  obtain ⟨W1, hW1⟩ : ∃ W1, W1 = W.alloc (.cells a.cs.toArray 24) := ⟨_, rfl⟩
  have HA1 := Lib.hid (show Lies W1 W.heap.size 24 a.cs.toArray from hW1 ▸ Lies.new W _ _)
  have HB1 := Lib.hid (show Below W.heap.size W W1 from hW1 ▸ (Below.refl _ _).alloc (Nat.le_refl _) _)
  rw [show W.alloc (.cells #[.int .u8 a.x0.toNat, .int .u8 a.x1.toNat, .int .u8 a.x2.toNat, .int .u8 a.x3.toNat, .int .u8 a.x4.toNat, .int .u8 a.x5.toNat, .int .u8 a.x6.toNat, .int .u8 a.x7.toNat] 24) = W1 from hW1.symm]
  clear hW1
  go_wp2_with fail
  go_loopw [8] (fun i wr => ∃ j : Nat, j ≤ L.length ∧ i = .int .i64 j ∧ (∀ q y, q < j → L[q]? = some y → ¬ (y.a = a ∧ y.k = k)) ∧ Lies wr W.heap.size 24 a.cs.toArray ∧ Below W.heap.size W wr)
    (fun i _ => L.length - (intOf i).toNat)
  case atStart => exact ⟨0, by omega, rfl, fun _ _ h => absurd h (by omega), HA1.out, HB1.out⟩
  case round =>
    clear HA1 HB1
    obtain ⟨j, hj, rfl, hno, hA, hB⟩ := hrel
    have HNO := Lib.hid hno
    have HA := Lib.hid hA
    have HB := Lib.hid hB
    have HD := Lib.hid (H.out.later hB)
    have hc0 := (H.out.later hB).cell.cell 0
    simp only [List.getElem?_toArray, List.getElem?_cons_zero] at hc0
    clear hno hA hB
    by_cases hlt : j < L.length
    · obtain ⟨x, hx⟩ : ∃ x, L[j]? = some x := ⟨_, List.getElem?_eq_getElem hlt⟩
      obtain ⟨g, rfl, _⟩ := HS.out (by omega)
      have hxm := List.mem_of_getElem? hx
      obtain ⟨xa, xkv, xk, xvv, xv⟩ := x
      obtain ⟨hb1, hb2⟩ := HD.out.bts _ hxm
      obtain ⟨sx, cx, hvx⟩ := hb1.form
      obtain ⟨sy, cy, hvy⟩ := hb2.form
      simp only at hvx hvy
      subst hvx hvy
      have HX := Lib.hid hx
      have HBX := Lib.hid hb1.byt
      have HBY := Lib.hid hb2.byt
      clear hx hxm hb1 hb2
      go_wp2_with fail
      refine RP.region (RP.take 0 (RP.take 1 (RP.take 2 (RP.take 3 (RP.take 4 (RP.take 5 (RP.take 6 (RP.take 7 (RP.take 8 (RP.run 9 RP.done)))))))))) (fun w' => Dk w' own br (.slice (some ⟨g, 0, none⟩) L.length cl) L ∧ Lies w' W.heap.size 24 a.cs.toArray) (by as_aux_lemma => kernel_rfl) (by as_aux_lemma => kernel_rfl) (fun _ _ d _ _ h => by cases d <;> exact h) ⟨HD.out.drew, HA.out.drew⟩ (fun hS => ?_)
      replace HB := Lib.hid HB.out.drew
      have hbd := (Below.refl wr.heap.size wr).drew
      replace HBX := Lib.hid (HBX.out.later hbd)
      replace HBY := Lib.hid (HBY.out.later hbd)
      generalize wr.drew = V at hS HB HBX HBY ⊢
      clear HD HA hc0 hbd
      iterate 6 (first | (refine RP.t_take (v := ?_) rfl rfl (fun w' hw' => ?_) ?_; rotate_left; (focus ((obtain ⟨hDf, hAf⟩ := hw'; obtain ⟨a0, a1, a2, a3, a4, a5, a6, a7⟩ := lies_addr hAf; have hc0 := hDf.cell.cell 0; simp only [List.getElem?_toArray, List.getElem?_cons_zero] at hc0); go_simp; (try go_bits); (try (with_reducible rfl)))); (try simp only [Act.put, List.setIfInBounds_toArray, List.set_cons_zero, List.set_cons_succ])) | (refine RP.t_skip rfl rfl ?_; (try simp only [Act.put, List.setIfInBounds_toArray, List.set_cons_zero, List.set_cons_succ])))
      refine RP.t_take (v := .agg (En.cs ⟨xa, .slice sx xk.length cx, xk, .slice sy xv.length cy, xv⟩).toArray) rfl rfl (fun w' hw' => exec_loadEn ⟨xa, .slice sx xk.length cx, xk, .slice sy xv.length cy, xv⟩ _ _ (en_range hw'.1.row HX.out) _ rfl rfl) ?_
      (try simp only [En.cs, Act.put, List.setIfInBounds_toArray, List.set_cons_zero, List.set_cons_succ])
      repeat (first | (refine RP.t_take (v := ?_) rfl rfl (fun w' hw' => ?_) ?_; rotate_left; (focus ((obtain ⟨hDf, hAf⟩ := hw'; obtain ⟨a0, a1, a2, a3, a4, a5, a6, a7⟩ := lies_addr hAf; have hc0 := hDf.cell.cell 0; simp only [List.getElem?_toArray, List.getElem?_cons_zero] at hc0); go_simp; (try go_bits); (try (with_reducible rfl)))); (try simp only [Act.put, List.setIfInBounds_toArray, List.set_cons_zero, List.set_cons_succ])) | (refine RP.t_skip rfl rfl ?_; (try simp only [Act.put, List.setIfInBounds_toArray, List.set_cons_zero, List.set_cons_succ])))
      refine RP.t_run rfl (fun KK hKK => ?_)
      go_simp
      have hc := samee_any ⟨xa, .slice sx xk.length cx, xk, .slice sy xv.length cy, xv⟩ HBX.out ⟨sy, cy, rfl⟩ a (HK.out.later HB.out)
      obtain ⟨R, hR⟩ : ∃ R, decide (xa = a ∧ xk = k) = R := ⟨_, rfl⟩
      rw [show decide (((⟨xa, .slice sx xk.length cx, xk, .slice sy xv.length cy, xv⟩ : En).a = a ∧ (⟨xa, .slice sx xk.length cx, xk, .slice sy xv.length cy, xv⟩ : En).k = k)) = R from hR] at hc
      have HR := Lib.hid hR
      replace hc := Lib.hid hc
      refine hc.out.mono ?_
      rintro ex V2 ⟨rfl, hb⟩
      replace hS := And.intro (hS.1.later hb) (hS.2.below hb hS.2.lt)
      replace HB := Lib.hid (HB.out.trans (hb.mono HB.out.size))
      replace HBY := Lib.hid (HBY.out.later hb)
      refine hKK.out _ _ hS ?_
      clear hKK KK hc hb hR HBX
      (try simp only [Act.put, List.setIfInBounds_toArray, List.set_cons_zero, List.set_cons_succ])
      refine RP.t_done ?_
      have hc0 := hS.1.cell.cell 0
      simp only [List.getElem?_toArray, List.getElem?_cons_zero] at hc0
      obtain ⟨c0, c1, c2, c3, c4, c5, c6, c7, c8, c9⟩ := en_cells hS.1.row HX.out
      have HA2 := Lib.hid hS.2
      clear hS c0 c1 c2 c3 c4 c5 c6 c7 c8
      cases R with
      | true =>
        as_aux_lemma =>
          have hf := dfind_at HX.out (of_decide_eq_true HR.out) HNO.out
          have HF := Lib.hid hf
          clear hf
          go_wp2_with fail
          first | go_ret | go_ret2
          refine ⟨_, by rw [HF.out]; rfl, ?_, HB.out⟩
          rw [HF.out]
          exact HBY.out
      | false =>
        as_aux_lemma =>
          go_wp2_with fail
          go_roundw
          case rel => exact ⟨j + 1, by omega, by go_num, fun q y hq hy => by
            by_cases e : q = j
            · subst e; rw [HX.out] at hy; injection hy with hy; rw [← hy]; exact of_decide_eq_false HR.out
            · exact HNO.out q y (by omega) hy, HA2.out, HB.out⟩
          case measure => simp [intOf]; omega
    · obtain rfl : j = L.length := by omega
      have HF := Lib.hid (dfind_no HNO.out)
      go_wp2_with fail
      first | go_ret | go_ret2
      refine ⟨_, by rw [HF.out]; rfl, ?_, HB.out⟩
      rw [HF.out]
      exact ⟨none, 0, rfl, fun h => absurd rfl h⟩

theorem wp_append_pr {o : Oper} {act : Act} {w : World} {K : Act → World → Prop} {Q : Exit → Act → World → Prop} {base : Nat} {v : Value} {n : Nat} {xs : List Value} (h : w.ownsRow base 40 2 v n xs) (hbase : base ≤ w.heap.size) (hn : n ≤ 1000000) (d : Nat) (x : Pr) (h1 : ∀ u ∈ x.cs, u.oneCell' = true) (hd : ∀ j u, x.cs[j]? = some u → w.cell? ((⟨d, 0, none⟩ : Addr).add j) = some u) (p q : Operand)
    (ho : o.op = .call { callee := .builtin .append, args := #[p, q], argTypes := #[37, 37] }) (hp : act.eval p = v) (hq : act.eval q = .slice (some ⟨d, 0, none⟩) 1 1)
    (hK : ∀ v' w', w'.ownsRow base 40 2 v' (n + 1) (xs ++ x.cs) → w.grownBy w' v.ownBlock → K (act.put o.dst v') w') : Oper.wp Try.prog o act w K Q := by
  obtain ⟨v', w', hrun, r1, r2⟩ := run_append_pr h hbase hn d x h1 hd o.type
  unfold Oper.wp
  simp [execOp, ho, resolve, invoke, builtin, hp, hq, hrun, Result.andThen]
  exact hK v' w' r1 r2
theorem bslice_p1 (s1 s2 : Option Addr) (n1 n2 c1 c2 : Nat) (w : World) : (Instr.buildSlice 37 1 #[(0, .agg #[.slice s1 n1 c1, .slice s2 n2 c2])]).run Try.prog w = .ok (.slice (some ⟨w.heap.size, 0, none⟩) 1 1) (w.alloc (.cells #[.slice s1 n1 c1, .slice s2 n2 c2] 40)) := by kernel_rfl
theorem wp_p1 (s1 s2 : Option Addr) (n1 n2 c1 c2 : Nat) {o : Oper} {act : Act} {w : World} {K : Act → World → Prop} {Q : Exit → Act → World → Prop} (p : Operand) (ho : o.op = .buildSlice 37 1 #[(0, p)]) (hp : act.eval p = .agg #[.slice s1 n1 c1, .slice s2 n2 c2])
    (hk : K (act.put o.dst (.slice (some ⟨w.heap.size, 0, none⟩) 1 1)) (w.alloc (.cells #[.slice s1 n1 c1, .slice s2 n2 c2] 40))) : Oper.wp Try.prog o act w K Q := by
  have hb := bslice_p1 s1 s2 n1 n2 c1 c2 w
  unfold Oper.wp execOp
  simp only [ho, List.map_toArray, List.map_cons, List.map_nil, hp, hb, Sem.run_bind, Sem.run_pure, Result.andThen_ok]
  exact hk
def prOf (x : En) : Pr := ⟨x.kv, x.k, x.vv, x.v⟩
/-- What the document tells of an address. -/
def dlist (L : List En) (a : A8) : List Pr := (L.filter fun x => decide (x.a = a)).map prOf

set_option maxRecDepth 100000 in
set_option maxHeartbeats 8000000 in
theorem dlist_any {W : World} {own : Nat → Prop} {br : Nat} {vl : Value} {L : List En} (h : Dk W own br vl L) (hN : L.length ≤ 1000000) (a : A8) :
    Calls Try.prog 40 #[.pointer (some ⟨br, 0, none⟩), a.v] W fun e w' => ∃ v', e = .returned v' ∧ ShowsP w' v' (dlist L a) ∧ Below W.heap.size W w' := by
  obtain ⟨sl, cl, rfl, hle, hs⟩ := h.row.form
  have HS := Lib.hid hs
  have H := Lib.hid h
  have hbr := h.cell.lt
  clear h hs hle
  simp only [A8.v]
  go_enter Try.func40, Try.ntmps40
  go_upto_region 1 with fail
  obtain ⟨W1, hW1⟩ : ∃ W1, W1 = W.alloc (.cells a.cs.toArray 24) := ⟨_, rfl⟩
  have HA1 := Lib.hid (show Lies W1 W.heap.size 24 a.cs.toArray from hW1 ▸ Lies.new W _ _)
  have HB1 := Lib.hid (show Below W.heap.size W W1 from hW1 ▸ (Below.refl _ _).alloc (Nat.le_refl _) _)
  rw [show W.alloc (.cells #[.int .u8 a.x0.toNat, .int .u8 a.x1.toNat, .int .u8 a.x2.toNat, .int .u8 a.x3.toNat, .int .u8 a.x4.toNat, .int .u8 a.x5.toNat, .int .u8 a.x6.toNat, .int .u8 a.x7.toNat] 24) = W1 from hW1.symm]
  clear hW1
  go_wp2_with fail
  go_loopw [5, 6] (fun out i wr => ∃ (j : Nat) (Q : List Pr), j ≤ L.length ∧ i = .int .i64 j ∧ Q = dlist (L.take j) a ∧ wr.ownsRow W.heap.size 40 2 out Q.length (Q.flatMap Pr.cs) ∧ Lies wr W.heap.size 24 a.cs.toArray ∧ Below W.heap.size W wr)
    (fun _ i _ => L.length - (intOf i).toNat)
  case atStart => exact ⟨0, [], by omega, rfl, rfl, World.ownsRow_nil _ _ _ _, HA1.out, HB1.out⟩
  case round =>
    clear HA1 HB1
    obtain ⟨j, Q, hj, rfl, hQ, hR, hA, hB⟩ := hrel
    obtain ⟨so, co, rfl⟩ := own_form2 hR
    have hlQ : Q.length ≤ 1000000 := by
      rw [hQ]; unfold dlist; rw [List.length_map]
      exact Nat.le_trans (List.length_filter_le _ _) (by rw [List.length_take]; omega)
    have HQ := Lib.hid hQ
    have HR := Lib.hid hR
    have HA := Lib.hid hA
    have HB := Lib.hid hB
    have HD := Lib.hid (H.out.later hB)
    have hc0 := (H.out.later hB).cell.cell 0
    simp only [List.getElem?_toArray, List.getElem?_cons_zero] at hc0
    clear hQ hR hA hB
    by_cases hlt : j < L.length
    · obtain ⟨x, hx⟩ : ∃ x, L[j]? = some x := ⟨_, List.getElem?_eq_getElem hlt⟩
      obtain ⟨g, rfl, _⟩ := HS.out (by omega)
      have hxm := List.mem_of_getElem? hx
      have htk : L.take (j + 1) = L.take j ++ [x] := by rw [List.take_add_one, hx]; rfl
      have hdl : dlist (L.take (j + 1)) a = dlist (L.take j) a ++ (if x.a = a then [prOf x] else []) := by
        rw [htk]; unfold dlist; rw [List.filter_append, List.map_append]
        by_cases e : x.a = a <;> simp [e]
      obtain ⟨xa, xkv, xk, xvv, xv⟩ := x
      obtain ⟨hb1, hb2⟩ := HD.out.bts _ hxm
      obtain ⟨sx, cx, hvx⟩ := hb1.form
      obtain ⟨sy, cy, hvy⟩ := hb2.form
      simp only at hvx hvy
      subst hvx hvy
      have HX := Lib.hid hx
      have HDL := Lib.hid hdl
      clear hx hxm hb1 hb2 htk hdl
      go_wp2_with fail
      refine RP.region (RP.take 0 (RP.take 1 (RP.take 2 (RP.take 3 (RP.take 4 (RP.take 5 (RP.take 6 (RP.take 7 (RP.take 8 (RP.take 9 RP.done)))))))))) (fun w' => Dk w' own br (.slice (some ⟨g, 0, none⟩) L.length cl) L ∧ Lies w' W.heap.size 24 a.cs.toArray) (by as_aux_lemma => kernel_rfl) (by as_aux_lemma => kernel_rfl) (fun _ _ d _ _ h => by cases d <;> exact h) ⟨HD.out.drew, HA.out.drew⟩ (fun hS => ?_)
      replace HB := Lib.hid HB.out.drew
      have hbd := (Below.refl wr.heap.size wr).drew
      replace HR := Lib.hid (ownsRow_keep HR.out hbd)
      generalize wr.drew = V at hS HB HR ⊢
      clear HD HA hc0 hbd
      by_cases hxa : xa = a
      · as_aux_lemma =>
          subst hxa
          repeat (first | (refine RP.t_take (v := ?_) rfl rfl (fun w' hw' => ?_) ?_; rotate_left; (focus ((obtain ⟨hDf, hAf⟩ := hw'; obtain ⟨a0, a1, a2, a3, a4, a5, a6, a7⟩ := lies_addr hAf; have hc0 := hDf.cell.cell 0; simp only [List.getElem?_toArray, List.getElem?_cons_zero] at hc0; obtain ⟨c0, c1, c2, c3, c4, c5, c6, c7, c8, c9⟩ := en_cells hDf.row HX.out); go_simp; (try go_bits); (try (with_reducible rfl)))); (try simp only [Act.put, List.setIfInBounds_toArray, List.set_cons_zero, List.set_cons_succ])) | (refine RP.t_skip rfl rfl ?_; (try simp only [Act.put, List.setIfInBounds_toArray, List.set_cons_zero, List.set_cons_succ])))
          refine RP.t_done ?_
          have hc0 := hS.1.cell.cell 0
          simp only [List.getElem?_toArray, List.getElem?_cons_zero] at hc0
          go_wp2_with fail
          refine RP.region (RP.take 0 (RP.take 1 (RP.take 2 (RP.take 3 (RP.take 4 (RP.take 5 (RP.take 6 (RP.take 7 (RP.take 8 (RP.take 9 (RP.take 10 (RP.take 11 (RP.take 12 (RP.take 13 (RP.take 14 (RP.take 15 (RP.take 16 (RP.take 17 (RP.run 18 (RP.run 19 (RP.take 20 RP.done))))))))))))))))))))) (fun w' => Dk w' own br (.slice (some ⟨g, 0, none⟩) L.length cl) L ∧ Lies w' W.heap.size 24 xa.cs.toArray) (by as_aux_lemma => kernel_rfl) (by as_aux_lemma => kernel_rfl) (fun _ _ d _ _ h => by cases d <;> exact h) ⟨hS.1.drew, hS.2.drew⟩ (fun hS2 => ?_)
          replace HB := Lib.hid HB.out.drew
          replace HR := Lib.hid (ownsRow_keep HR.out (Below.refl V.heap.size V).drew)
          generalize V.drew = V1 at hS2 HB HR ⊢
          clear hS hc0
          repeat (first | (refine RP.t_take (v := ?_) rfl rfl (fun w' hw' => ?_) ?_; rotate_left; (focus ((obtain ⟨hDf, hAf⟩ := hw'; obtain ⟨a0, a1, a2, a3, a4, a5, a6, a7⟩ := lies_addr hAf; have hc0 := hDf.cell.cell 0; simp only [List.getElem?_toArray, List.getElem?_cons_zero] at hc0; obtain ⟨c0, c1, c2, c3, c4, c5, c6, c7, c8, c9⟩ := en_cells hDf.row HX.out); go_simp; (try go_bits); (try (with_reducible rfl)))); (try simp only [Act.put, List.setIfInBounds_toArray, List.set_cons_zero, List.set_cons_succ])) | (refine RP.t_skip rfl rfl ?_; (try simp only [Act.put, List.setIfInBounds_toArray, List.set_cons_zero, List.set_cons_succ])))
          refine t_run1 rfl rfl (fun KK hKK => ?_)
          refine wp_p1 _ _ _ _ _ _ _ rfl rfl ?_
          have hba : Below V1.heap.size V1 (V1.alloc (.cells (⟨.slice sx xk.length cx, xk, .slice sy xv.length cy, xv⟩ : Pr).cs.toArray 40)) := (Below.refl _ _).alloc (Nat.le_refl _) _
          have HR2 := Lib.hid (ownsRow_keep HR.out hba)
          have HB2 := Lib.hid (HB.out.trans (hba.mono HB.out.size))
          have hS3 := And.intro (hS2.1.later hba) (hS2.2.below hba hS2.2.lt)
          refine hKK.out _ _ hS3 ?_
          clear hKK KK hba HR HB hS2
          (try simp only [Act.put, List.setIfInBounds_toArray, List.set_cons_zero, List.set_cons_succ])
          repeat (first | (refine RP.t_take (v := ?_) rfl rfl (fun w' hw' => ?_) ?_; rotate_left; (focus ((obtain ⟨hDf, hAf⟩ := hw'; obtain ⟨a0, a1, a2, a3, a4, a5, a6, a7⟩ := lies_addr hAf; have hc0 := hDf.cell.cell 0; simp only [List.getElem?_toArray, List.getElem?_cons_zero] at hc0; obtain ⟨c0, c1, c2, c3, c4, c5, c6, c7, c8, c9⟩ := en_cells hDf.row HX.out); go_simp; (try go_bits); (try (with_reducible rfl)))); (try simp only [Act.put, List.setIfInBounds_toArray, List.set_cons_zero, List.set_cons_succ])) | (refine RP.t_skip rfl rfl ?_; (try simp only [Act.put, List.setIfInBounds_toArray, List.set_cons_zero, List.set_cons_succ])))
          refine t_run1 rfl rfl (fun KK hKK => ?_)
          refine wp_append_pr HR2.out HB2.out.size hlQ V1.heap.size ⟨.slice sx xk.length cx, xk, .slice sy xv.length cy, xv⟩ (ones_pr _ _ _ _ _ _ _ _) (cells_new _ _ _) _ _ rfl rfl rfl (fun v6 w6 hr6 hg6 => ?_)
          have hf6 := Fr.of_grown hg6
          have hB6 := HB2.out.grown hg6 HB2.out.size (fun k hk => (HR2.out.lt k hk).1)
          have HD6 := H.out.later hB6
          have hbx : ¬ some W.heap.size = (Value.slice so Q.length co).ownBlock := row_ne_lies HR2.out hS3.2 (by decide)
          have HA6 := lies_fr hS3.2 hf6 hbx
          have HR6 := Lib.hid hr6
          have HB6 := Lib.hid hB6
          have HAA := Lib.hid HA6
          refine hKK.out _ _ ⟨HD6, HA6⟩ ?_
          clear hKK KK hr6 hg6 hf6 hB6 HD6 hbx HA6 HR2 HB2 hS3
          (try simp only [Act.put, List.setIfInBounds_toArray, List.set_cons_zero, List.set_cons_succ])
          repeat (first | (refine RP.t_take (v := ?_) rfl rfl (fun w' hw' => ?_) ?_; rotate_left; (focus ((obtain ⟨hDf, hAf⟩ := hw'; obtain ⟨a0, a1, a2, a3, a4, a5, a6, a7⟩ := lies_addr hAf; have hc0 := hDf.cell.cell 0; simp only [List.getElem?_toArray, List.getElem?_cons_zero] at hc0; obtain ⟨c0, c1, c2, c3, c4, c5, c6, c7, c8, c9⟩ := en_cells hDf.row HX.out); go_simp; (try go_bits); (try (with_reducible rfl)))); (try simp only [Act.put, List.setIfInBounds_toArray, List.set_cons_zero, List.set_cons_succ])) | (refine RP.t_skip rfl rfl ?_; (try simp only [Act.put, List.setIfInBounds_toArray, List.set_cons_zero, List.set_cons_succ])))
          refine RP.t_done ?_
          go_wp2_with fail
          go_roundw
          case rel => exact ⟨j + 1, Q ++ [⟨.slice sx xk.length cx, xk, .slice sy xv.length cy, xv⟩], by omega, by go_num, by rw [HDL.out, if_pos trivial, ← HQ.out]; rfl, by rw [List.flatMap_append, List.length_append]; simpa using HR6.out, HAA.out, HB6.out⟩
          case measure => simp [intOf]; omega
      · as_aux_lemma =>
          repeat (first | (refine RP.t_take (v := ?_) rfl rfl (fun w' hw' => ?_) ?_; rotate_left; (focus ((obtain ⟨hDf, hAf⟩ := hw'; obtain ⟨a0, a1, a2, a3, a4, a5, a6, a7⟩ := lies_addr hAf; have hc0 := hDf.cell.cell 0; simp only [List.getElem?_toArray, List.getElem?_cons_zero] at hc0; obtain ⟨c0, c1, c2, c3, c4, c5, c6, c7, c8, c9⟩ := en_cells hDf.row HX.out); go_simp; (try go_bits); (try (with_reducible rfl)))); (try simp only [Act.put, List.setIfInBounds_toArray, List.set_cons_zero, List.set_cons_succ])) | (refine RP.t_skip rfl rfl ?_; (try simp only [Act.put, List.setIfInBounds_toArray, List.set_cons_zero, List.set_cons_succ])))
          refine RP.t_done ?_
          have HA2 := Lib.hid hS.2
          have hc0 := hS.1.cell.cell 0
          simp only [List.getElem?_toArray, List.getElem?_cons_zero] at hc0
          clear hS
          go_wp2_with fail
          go_roundw
          case rel => exact ⟨j + 1, Q, by omega, by go_num, by rw [HDL.out, if_neg hxa, List.append_nil]; exact HQ.out, HR.out, HA2.out, HB.out⟩
          case measure => simp [intOf]; omega
    · obtain rfl : j = L.length := by omega
      go_wp2_with fail
      go_ret
      have hq := HQ.out
      rw [List.take_length] at hq
      refine ⟨_, rfl, ?_, HB.out⟩
      rw [← hq]
      refine shows_row HR.out (fun y hy => ?_)
      rw [hq] at hy
      obtain ⟨x, hx, rfl⟩ := List.mem_map.1 hy
      have := HD.out.bts x (List.mem_filter.1 hx).1
      exact ⟨this.1.byt, this.2.byt⟩
end Go.Proofs.Yteeghdkejnhjnaa.Kv

/- The document's store: the walk of its Del. -/
namespace Go.Proofs.Yteeghdkejnhjnaa.Kv
open Go Go.RowKit Go.Shelf Kt Ad Bo

theorem infoEn : (Try.prog.info? 122).map (fun i => (i.zero, i.size, i.bytes)) = some (some (.agg #[.int .u8 0, .int .u8 0, .int .u8 0, .int .u8 0, .int .u8 0, .int .u8 0, .int .u8 0, .int .u8 0, .slice none 0 0, .slice none 0 0]), 10, 56) := by kernel_rfl
theorem ones_en (x : A8) (s s' : Option Addr) (n n' c c' : Nat) (b b' : Bs) : ∀ u ∈ (⟨x, .slice s n c, b, .slice s' n' c', b'⟩ : En).cs, u.oneCell' = true := by
  intro u hu
  simp only [En.cs, List.mem_cons, List.not_mem_nil, or_false] at hu
  rcases hu with rfl | rfl | rfl | rfl | rfl | rfl | rfl | rfl | rfl | rfl <;> rfl
theorem run_append_en {w : World} {base : Nat} {v : Value} {n : Nat} {xs : List Value} (h : w.ownsRow base 122 10 v n xs) (hbase : base ≤ w.heap.size) (hn : n ≤ 1000000) (d : Nat) (x : En) (h1 : ∀ u ∈ x.cs, u.oneCell' = true) (hd : ∀ j u, x.cs[j]? = some u → w.cell? ((⟨d, 0, none⟩ : Addr).add j) = some u) (ty : TypeId) :
    ∃ v' w', (Builtin.append_ #[73, 73] ty #[v, .slice (some ⟨d, 0, none⟩) 1 1]).run Try.prog w = .ok v' w' ∧ w'.ownsRow base 122 10 v' (n + 1) (xs ++ x.cs) ∧ w.grownBy w' v.ownBlock := by
  obtain ⟨i0, hi, hz0, hz1, hz2⟩ := info_parts infoEn
  obtain ⟨v', w', hrun, r1, r2, _⟩ := run_append_own (P := Try.prog) w base 73 ty 122 i0 _ 10 56 Try.underlying73 hi hz0 hz1 hz2 rfl (by decide) v n xs h ⟨d, 0, none⟩ 1 1 x.cs rfl hd h1 (by unfold maxLen; omega) (by omega) hbase
  exact ⟨v', w', hrun, r1, r2⟩
theorem wl_append_en {ops : Array Oper} {rest : List Oper} {o : Oper} {a : Act} {w : World} {Q : Exit → Act → World → Prop} {base : Nat} {v : Value} {n : Nat} {xs : List Value} (h : w.ownsRow base 122 10 v n xs) (hbase : base ≤ w.heap.size) (hn : n ≤ 1000000) (d : Nat) (x : En) (h1 : ∀ u ∈ x.cs, u.oneCell' = true) (hd : ∀ j u, x.cs[j]? = some u → w.cell? ((⟨d, 0, none⟩ : Addr).add j) = some u) (p q : Operand) (hgd : o.guard = none)
    (ho : o.op = .call { callee := .builtin .append, args := #[p, q], argTypes := #[73, 73] }) (hp : a.eval p = v) (hq : a.eval q = .slice (some ⟨d, 0, none⟩) 1 1)
    (hK : ∀ v' w', w'.ownsRow base 122 10 v' (n + 1) (xs ++ x.cs) → w.grownBy w' v.ownBlock → wpList Try.prog ops Q rest (a.put o.dst v') w') : wpList Try.prog ops Q (o :: rest) a w := by
  refine wpList_plain hgd fun _ hK' => ?_
  obtain ⟨v', w', hrun, r1, r2⟩ := run_append_en h hbase hn d x h1 hd o.type
  unfold Oper.wp
  simp [execOp, ho, resolve, invoke, builtin, hp, hq, hrun, Result.andThen]
  exact hK' _ _ (hK v' w' r1 r2)
theorem wl_loadEn {ops : Array Oper} {rest : List Oper} {op : Oper} {a : Act} {w : World} {Q : Exit → Act → World → Prop} (x : En) (b o : Nat) (h : w.rangeAt b o x.cs) (p : Operand) (hgd : op.guard = none) (ho : op.op = .load 122 p)
    (hx : a.eval p = .pointer (some ⟨b, o, none⟩)) (hk : wpList Try.prog ops Q rest (a.put op.dst (.agg x.cs.toArray)) w) : wpList Try.prog ops Q (op :: rest) a w :=
  wpList_load_mid hgd 122 p ho b o hx x.cs _ h Try.underlying122 rfl sizeEn hk
theorem bslice_en (x : A8) (s s' : Option Addr) (n n' c c' : Nat) (b b' : Bs) (w : World) : (Instr.buildSlice 73 1 #[(0, .agg (En.cs ⟨x, .slice s n c, b, .slice s' n' c', b'⟩).toArray)]).run Try.prog w = .ok (.slice (some ⟨w.heap.size, 0, none⟩) 1 1) (w.alloc (.cells (En.cs ⟨x, .slice s n c, b, .slice s' n' c', b'⟩).toArray 122)) := by kernel_rfl
theorem wl_bsliceEn {ops : Array Oper} {rest : List Oper} {o : Oper} {a : Act} {w : World} {Q : Exit → Act → World → Prop} (x : A8) (s s' : Option Addr) (n n' c c' : Nat) (b b' : Bs) (p : Operand) (hgd : o.guard = none) (ho : o.op = .buildSlice 73 1 #[(0, p)]) (hp : a.eval p = .agg (En.cs ⟨x, .slice s n c, b, .slice s' n' c', b'⟩).toArray)
    (hk : wpList Try.prog ops Q rest (a.put o.dst (.slice (some ⟨w.heap.size, 0, none⟩) 1 1)) (w.alloc (.cells (En.cs ⟨x, .slice s n c, b, .slice s' n' c', b'⟩).toArray 122))) : wpList Try.prog ops Q (o :: rest) a w := by
  have hb := bslice_en x s s' n n' c c' b b' w
  refine wpList_plain hgd fun K hK => ?_
  unfold Oper.wp execOp
  simp only [ho, List.map_toArray, List.map_cons, List.map_nil, hp, hb, Sem.run_bind, Sem.run_pure, Result.andThen_ok]
  exact hK _ _ hk
/-- What is left without a key's entry. -/
def ddel (L : List En) (a : A8) (k : Bs) : List En := L.filter fun x => !decide (x.a = a ∧ x.k = k)
theorem ddel_snoc (L : List En) (a : A8) (k : Bs) (x : En) : ddel (L ++ [x]) a k = ddel L a k ++ (if x.a = a ∧ x.k = k then [] else [x]) := by
  unfold ddel
  rw [List.filter_append]
  by_cases e : x.a = a ∧ x.k = k
  · rw [if_pos e]; simp [e]
  · rw [if_neg e]
    congr 1
    rw [List.filter_cons_of_pos (by simp only [Bool.not_eq_eq_eq_not, Bool.not_true, decide_eq_false_iff_not]; exact e)]
    rfl
theorem Dk.stored {V : World} {own : Nat → Prop} {br : Nat} {vl vn : Value} {L Q : List En} (h : Dk V own br vl L) (hr : WRow V own 122 10 vn Q.length (Q.flatMap En.cs)) (hq : ∀ x ∈ Q, Bts V own x.kv x.k ∧ Bts V own x.vv x.v) : Dk (V.setCell ⟨br, 0, none⟩ vn) own br vn Q := by
  have hf : Fr V (V.setCell ⟨br, 0, none⟩ vn) (fun i => i = br) := Fr.setCell V _ _
  have hty : ∀ k, k = br → ∀ cur, ¬ Lies V k 5 cur := fun k e cur hl => by subst e; exact absurd (lies_uniq h.cell hl) (by decide)
  refine ⟨?_, hr.kept hf (fun k _ hk e => ?_), fun x hx => ⟨(hq x hx).1.kept_ty hf hty, (hq x hx).2.kept_ty hf hty⟩, h.obr⟩
  · have := h.cell.set 0 vn
    simpa using this
  · obtain ⟨_, _, cur, hg⟩ := wrow_lt hr hk.symm
    subst e
    exact absurd (lies_uniq h.cell hg) (by decide)

set_option maxRecDepth 100000 in
set_option maxHeartbeats 8000000 in
theorem ddel_any {W : World} {own : Nat → Prop} {br : Nat} {vl : Value} {L : List En} (h : Dk W own br vl L) (ho : ∀ i, W.heap.size ≤ i → own i) (hN : L.length ≤ 1000000) (a : A8) {vk : Value} {k : Bs} (hk : Byt W vk k) :
    Calls Try.prog 38 #[.pointer (some ⟨br, 0, none⟩), a.v, vk] W fun e w' => ∃ vn, e = .returned (.bool (decide ((ddel L a k).length < L.length))) ∧ Dk w' own br vn (ddel L a k) ∧ Fr W w' (fun i => i = br) := by
  obtain ⟨sl, cl, rfl, hle, hs⟩ := h.row.form
  obtain ⟨sk0, ck0, rfl⟩ : ∃ s c, vk = .slice s k.length c := by obtain ⟨s, c, e, _⟩ := hk; exact ⟨s, c, e⟩
  have HS := Lib.hid hs
  have H := Lib.hid h
  have HO := Lib.hid ho
  have HK := Lib.hid hk
  have hbr := h.cell.lt
  clear h hk hs hle ho
  simp only [A8.v]
  go_enter Try.func38, Try.ntmps38
  go_upto_region 1 with fail
  obtain ⟨W1, hW1⟩ : ∃ W1, W1 = W.alloc (.cells a.cs.toArray 24) := ⟨_, rfl⟩
  have HA1 := Lib.hid (show Lies W1 W.heap.size 24 a.cs.toArray from hW1 ▸ Lies.new W _ _)
  have HB1 := Lib.hid (show Below W.heap.size W W1 from hW1 ▸ (Below.refl _ _).alloc (Nat.le_refl _) _)
  rw [show W.alloc (.cells #[.int .u8 a.x0.toNat, .int .u8 a.x1.toNat, .int .u8 a.x2.toNat, .int .u8 a.x3.toNat, .int .u8 a.x4.toNat, .int .u8 a.x5.toNat, .int .u8 a.x6.toNat, .int .u8 a.x7.toNat] 24) = W1 from hW1.symm]
  clear hW1
  go_wp2_with fail
  go_loopw [7, 8] (fun out i wr => ∃ (j : Nat) (Q : List En), j ≤ L.length ∧ i = .int .i64 j ∧ Q = ddel (L.take j) a k ∧ wr.ownsRow W.heap.size 122 10 out Q.length (Q.flatMap En.cs) ∧ Lies wr W.heap.size 24 a.cs.toArray ∧ Below W.heap.size W wr)
    (fun _ i _ => L.length - (intOf i).toNat)
  case atStart => exact ⟨0, [], by omega, rfl, rfl, World.ownsRow_nil _ _ _ _, HA1.out, HB1.out⟩
  case round =>
    clear HA1 HB1
    obtain ⟨j, Q, hj, rfl, hQ, hR, hA, hB⟩ := hrel
    obtain ⟨so, co, rfl⟩ := own_form2 hR
    have hlQ : Q.length ≤ 1000000 := by
      rw [hQ]; unfold ddel
      exact Nat.le_trans (List.length_filter_le _ _) (by rw [List.length_take]; omega)
    have HQ := Lib.hid hQ
    have HR := Lib.hid hR
    have HA := Lib.hid hA
    have HB := Lib.hid hB
    have HD := Lib.hid (H.out.later hB)
    have hc0 := (H.out.later hB).cell.cell 0
    simp only [List.getElem?_toArray, List.getElem?_cons_zero] at hc0
    clear hQ hR hA hB
    by_cases hlt : j < L.length
    · obtain ⟨x, hx⟩ : ∃ x, L[j]? = some x := ⟨_, List.getElem?_eq_getElem hlt⟩
      obtain ⟨g, rfl, _⟩ := HS.out (by omega)
      have hxm := List.mem_of_getElem? hx
      have htk : L.take (j + 1) = L.take j ++ [x] := by rw [List.take_add_one, hx]; rfl
      have hdl : ddel (L.take (j + 1)) a k = ddel (L.take j) a k ++ (if x.a = a ∧ x.k = k then [] else [x]) := by rw [htk, ddel_snoc]
      obtain ⟨xa, xkv, xk, xvv, xv⟩ := x
      obtain ⟨hb1, hb2⟩ := HD.out.bts _ hxm
      obtain ⟨sx, cx, hvx⟩ := hb1.form
      obtain ⟨sy, cy, hvy⟩ := hb2.form
      simp only at hvx hvy
      subst hvx hvy
      have HX := Lib.hid hx
      have HDL := Lib.hid hdl
      have HBX := Lib.hid hb1.byt
      clear hx hxm hb1 hb2 htk hdl
      go_wp2_with fail
      refine RP.region (RP.take 0 (RP.take 1 (RP.take 2 (RP.take 3 (RP.take 4 (RP.take 5 (RP.take 6 (RP.take 7 (RP.take 8 (RP.run 9 (RP.take 10 RP.done))))))))))) (fun w' => Dk w' own br (.slice (some ⟨g, 0, none⟩) L.length cl) L ∧ Lies w' W.heap.size 24 a.cs.toArray) (by as_aux_lemma => kernel_rfl) (by as_aux_lemma => kernel_rfl) (fun _ _ d _ _ h => by cases d <;> exact h) ⟨HD.out.drew, HA.out.drew⟩ (fun hS => ?_)
      replace HB := Lib.hid HB.out.drew
      have hbd := (Below.refl wr.heap.size wr).drew
      replace HBX := Lib.hid (HBX.out.later hbd)
      replace HR := Lib.hid (ownsRow_keep HR.out hbd)
      generalize wr.drew = V at hS HB HBX HR ⊢
      clear HD HA hc0 hbd
      iterate 6 (first | (refine RP.t_take (v := ?_) rfl rfl (fun w' hw' => ?_) ?_; rotate_left; (focus ((obtain ⟨hDf, hAf⟩ := hw'; obtain ⟨a0, a1, a2, a3, a4, a5, a6, a7⟩ := lies_addr hAf; have hc0 := hDf.cell.cell 0; simp only [List.getElem?_toArray, List.getElem?_cons_zero] at hc0); go_simp; (try go_bits); (try (with_reducible rfl)))); (try simp only [Act.put, List.setIfInBounds_toArray, List.set_cons_zero, List.set_cons_succ])) | (refine RP.t_skip rfl rfl ?_; (try simp only [Act.put, List.setIfInBounds_toArray, List.set_cons_zero, List.set_cons_succ])))
      refine RP.t_take (v := .agg (En.cs ⟨xa, .slice sx xk.length cx, xk, .slice sy xv.length cy, xv⟩).toArray) rfl rfl (fun w' hw' => exec_loadEn ⟨xa, .slice sx xk.length cx, xk, .slice sy xv.length cy, xv⟩ _ _ (en_range hw'.1.row HX.out) _ rfl rfl) ?_
      (try simp only [En.cs, Act.put, List.setIfInBounds_toArray, List.set_cons_zero, List.set_cons_succ])
      repeat (first | (refine RP.t_take (v := ?_) rfl rfl (fun w' hw' => ?_) ?_; rotate_left; (focus ((obtain ⟨hDf, hAf⟩ := hw'; obtain ⟨a0, a1, a2, a3, a4, a5, a6, a7⟩ := lies_addr hAf; have hc0 := hDf.cell.cell 0; simp only [List.getElem?_toArray, List.getElem?_cons_zero] at hc0); go_simp; (try go_bits); (try (with_reducible rfl)))); (try simp only [Act.put, List.setIfInBounds_toArray, List.set_cons_zero, List.set_cons_succ])) | (refine RP.t_skip rfl rfl ?_; (try simp only [Act.put, List.setIfInBounds_toArray, List.set_cons_zero, List.set_cons_succ])))
      refine RP.t_run rfl (fun KK hKK => ?_)
      go_simp
      have hc := samee_any ⟨xa, .slice sx xk.length cx, xk, .slice sy xv.length cy, xv⟩ HBX.out ⟨sy, cy, rfl⟩ a (HK.out.later HB.out)
      obtain ⟨R, hR⟩ : ∃ R, decide (xa = a ∧ xk = k) = R := ⟨_, rfl⟩
      rw [show decide (((⟨xa, .slice sx xk.length cx, xk, .slice sy xv.length cy, xv⟩ : En).a = a ∧ (⟨xa, .slice sx xk.length cx, xk, .slice sy xv.length cy, xv⟩ : En).k = k)) = R from hR] at hc
      have HRR := Lib.hid hR
      replace hc := Lib.hid hc
      refine hc.out.mono ?_
      rintro ex V2 ⟨rfl, hb⟩
      replace hS := And.intro (hS.1.later hb) (hS.2.below hb hS.2.lt)
      replace HB := Lib.hid (HB.out.trans (hb.mono HB.out.size))
      replace HR := Lib.hid (ownsRow_keep HR.out hb)
      refine hKK.out _ _ hS ?_
      clear hKK KK hc hb hR HBX
      (try simp only [Act.put, List.setIfInBounds_toArray, List.set_cons_zero, List.set_cons_succ])
      cases R with
      | true =>
        as_aux_lemma =>
          repeat (first | (refine RP.t_take (v := ?_) rfl rfl (fun w' hw' => ?_) ?_; rotate_left; (focus ((skip); go_simp; (try go_bits); (try (with_reducible rfl)))); (try simp only [Act.put, List.setIfInBounds_toArray, List.set_cons_zero, List.set_cons_succ])) | (refine RP.t_skip rfl rfl ?_; (try simp only [Act.put, List.setIfInBounds_toArray, List.set_cons_zero, List.set_cons_succ])))
          refine RP.t_done ?_
          have HA2 := Lib.hid hS.2
          clear hS
          go_wp2_with fail
          go_roundw
          case rel => exact ⟨j + 1, Q, by omega, by go_num, by rw [HDL.out, if_pos (of_decide_eq_true HRR.out), List.append_nil]; exact HQ.out, HR.out, HA2.out, HB.out⟩
          case measure => simp [intOf]; omega
      | false =>
        as_aux_lemma =>
          repeat (first | (refine RP.t_take (v := ?_) rfl rfl (fun w' hw' => ?_) ?_; rotate_left; (focus ((skip); go_simp; (try go_bits); (try (with_reducible rfl)))); (try simp only [Act.put, List.setIfInBounds_toArray, List.set_cons_zero, List.set_cons_succ])) | (refine RP.t_skip rfl rfl ?_; (try simp only [Act.put, List.setIfInBounds_toArray, List.set_cons_zero, List.set_cons_succ])))
          refine RP.t_done ?_
          have hc0 := hS.1.cell.cell 0
          simp only [List.getElem?_toArray, List.getElem?_cons_zero] at hc0
          have HRG := Lib.hid (en_range hS.1.row HX.out)
          have HA2 := Lib.hid hS.2
          have hba : Below V2.heap.size V2 (V2.alloc (.cells (En.cs ⟨xa, .slice sx xk.length cx, xk, .slice sy xv.length cy, xv⟩).toArray 122)) := (Below.refl _ _).alloc (Nat.le_refl _) _
          have HR2 := Lib.hid (ownsRow_keep HR.out hba)
          have HB2 := Lib.hid (HB.out.trans (hba.mono HB.out.size))
          have HA3 := Lib.hid (HA2.out.below hba HA2.out.lt)
          clear hS hba
          go_wp2_with (first | (refine wl_loadEn ⟨xa, .slice sx xk.length cx, xk, .slice sy xv.length cy, xv⟩ _ _ HRG.out _ rfl rfl rfl ?_; simp only [Act.put, List.setIfInBounds_toArray, List.set_cons_zero, List.set_cons_succ]) | (refine wl_bsliceEn xa _ _ _ _ _ _ xk xv _ rfl rfl rfl ?_; simp only [Act.put, List.setIfInBounds_toArray, List.set_cons_zero, List.set_cons_succ]) | (refine wl_append_en HR2.out HB2.out.size hlQ V2.heap.size ⟨xa, .slice sx xk.length cx, xk, .slice sy xv.length cy, xv⟩ (ones_en _ _ _ _ _ _ _ _ _) (cells_new _ _ _) _ _ rfl rfl rfl rfl (fun v6 w6 hr6 hg6 => ?_); have HR6 := Lib.hid hr6; have HG6 := Lib.hid hg6; clear hr6 hg6; simp only [Act.put, List.setIfInBounds_toArray, List.set_cons_zero, List.set_cons_succ]))
          have hbx : ¬ some W.heap.size = (Value.slice so Q.length co).ownBlock := row_ne_lies HR2.out HA3.out (by decide)
          have HA6 := Lib.hid (lies_fr HA3.out (Fr.of_grown HG6.out) hbx)
          have HB6 := Lib.hid (HB2.out.grown HG6.out HB2.out.size (fun k hk => (HR2.out.lt k hk).1))
          clear hbx
          go_roundw
          case rel => exact ⟨j + 1, Q ++ [⟨xa, .slice sx xk.length cx, xk, .slice sy xv.length cy, xv⟩], by omega, by go_num, by rw [HDL.out, if_neg (of_decide_eq_false HRR.out), ← HQ.out], by rw [List.flatMap_append, List.length_append]; simpa using HR6.out, HA6.out, HB6.out⟩
          case measure => simp [intOf]; omega
    · obtain rfl : j = L.length := by omega
      have hf0 := HD.out.cell.frozen 0
      rw [List.take_length] at HQ
      have hbrw : br < wr.heap.size := HD.out.cell.lt
      go_wp2_with fail
      go_ret
      have hq : ddel L a k = Q := HQ.out.symm
      rw [hq]
      refine ⟨.slice so Q.length co, by simp, HD.out.stored (WRow.of_own HR.out HO.out) (fun x hx => HD.out.bts x (List.mem_filter.1 (hq ▸ hx : x ∈ ddel L a k)).1), (Fr.of_below HB.out _).trans (Fr.setCell wr _ _)⟩
end Go.Proofs.Yteeghdkejnhjnaa.Kv

/- The document's order of keys: the walk of LessKey. -/
namespace Go.Proofs.Yteeghdkejnhjnaa.Kv
open Go Go.RowKit Go.Shelf Kt Ad Bo

/-- The comparison, from a place on. -/
theorem cmpb_step {a b : Bs} {k : Nat} {x y : UInt8} (ha : a[k]? = some x) (hb : b[k]? = some y) :
    Lib.compareBytes (a.drop k) (b.drop k) = if x < y then -1 else if y < x then 1 else Lib.compareBytes (a.drop (k + 1)) (b.drop (k + 1)) := by
  obtain ⟨h1, rfl⟩ := List.getElem?_eq_some_iff.1 ha
  obtain ⟨h2, rfl⟩ := List.getElem?_eq_some_iff.1 hb
  rw [List.drop_eq_getElem_cons h1, List.drop_eq_getElem_cons h2]
  conv => lhs; unfold Lib.compareBytes
theorem cmpb_end {a b : Bs} {k : Nat} (ha : k ≤ a.length) (hb : k ≤ b.length) (h : ¬ (k < a.length ∧ k < b.length)) : decide (Lib.compareBytes (a.drop k) (b.drop k) < 0) = decide (a.length < b.length) := by
  rw [decide_eq_decide]
  by_cases h1 : k < a.length
  · have : b.length = k := by omega
    rw [List.drop_eq_nil_of_le (by omega : b.length ≤ k)]
    exact ⟨fun hl => absurd hl lt_nil, fun hl => by omega⟩
  · rw [List.drop_eq_nil_of_le (by omega : a.length ≤ k)]
    by_cases h2 : k < b.length
    · rw [List.drop_eq_getElem_cons h2]
      exact ⟨fun _ => by omega, fun _ => nil_lt⟩
    · rw [List.drop_eq_nil_of_le (by omega : b.length ≤ k)]
      exact ⟨fun hl => absurd hl lt_nil, fun hl => by omega⟩

set_option maxRecDepth 100000 in
set_option maxHeartbeats 4000000 in
theorem lesskey_any {W : World} {va vb : Value} {a b : Bs} (ha : Byt W va a) (hb : Byt W vb b) (hN : a.length ≤ 1000000000) (hM : b.length ≤ 1000000000) :
    Calls Try.prog 75 #[va, vb] W fun e w' => e = .returned (.bool (decide (Lt a b))) ∧ Below W.heap.size W w' := by
  obtain ⟨R, hR⟩ : ∃ R, R = decide (Lt a b) := ⟨_, rfl⟩
  rw [← hR]
  replace hR : R = decide (Lib.compareBytes (a.drop 0) (b.drop 0) < 0) := hR
  obtain ⟨sa, ca, rfl, ga⟩ := ha
  obtain ⟨sb, cb, rfl, gb⟩ := hb
  have HR := Lib.hid hR
  have GA := Lib.hid ga
  have GB := Lib.hid gb
  clear hR ga gb
  go_enter Try.func75, Try.ntmps75
  go_wp2_with fail
  go_loopw [5] (fun i wr => ∃ k : Nat, k ≤ a.length ∧ k ≤ b.length ∧ i = .int .i64 k ∧ Lib.compareBytes (a.drop 0) (b.drop 0) = Lib.compareBytes (a.drop k) (b.drop k) ∧ Below W.heap.size W wr)
    (fun i _ => a.length - (intOf i).toNat)
  case atStart => exact ⟨0, by omega, by omega, rfl, rfl, Below.refl _ _⟩
  case round =>
    obtain ⟨k, hka, hkb, rfl, hc, hW⟩ := hrel
    have HC := Lib.hid hc
    have HW := Lib.hid hW
    clear hc hW
    by_cases hla : k < a.length
    · by_cases hlb : k < b.length
      · obtain ⟨g1, o1, rfl, l1, q1⟩ := GA.out (fun e => by rw [e] at hla; exact absurd hla (by simp))
        obtain ⟨g2, o2, rfl, l2, q2⟩ := GB.out (fun e => by rw [e] at hlb; exact absurd hlb (by simp))
        obtain ⟨x, hx⟩ : ∃ x, a[k]? = some x := ⟨_, List.getElem?_eq_getElem hla⟩
        obtain ⟨y, hy⟩ : ∃ y, b[k]? = some y := ⟨_, List.getElem?_eq_getElem hlb⟩
        have c1 := (HW.out.cell (p := ⟨g1, o1 + k, none⟩) l1).trans (q1 k x hx)
        have c2 := (HW.out.cell (p := ⟨g2, o2 + k, none⟩) l2).trans (q2 k y hy)
        simp only [u8v] at c1 c2
        have HS := Lib.hid (cmpb_step hx hy)
        clear q1 q2 hx hy l1 l2 GA GB
        by_cases hxy : x = y
        · subst hxy
          have HE := Lib.hid (show Lib.compareBytes (a.drop 0) (b.drop 0) = Lib.compareBytes (a.drop (k + 1)) (b.drop (k + 1)) by rw [HC.out, HS.out]; simp [UInt8.lt_irrefl])
          go_wp2_with fail
          go_quiet (fail)
          go_wp2_with fail
          go_roundw
          case rel => exact ⟨k + 1, by omega, by omega, by go_num, HE.out, below_drewN HW.out _⟩
          case measure => simp [intOf]; omega
        · have h1 : ((x.toNat : Int) == (y.toNat : Int)) = false := by rw [beq_u8]; simpa using hxy
          have h2 : ((x.toNat : Int) != (y.toNat : Int)) = true := by rw [bne, h1]; rfl
          have HE := Lib.hid (show R = decide ((x.toNat : Int) < (y.toNat : Int)) by
            rw [HR.out, HC.out, HS.out]
            by_cases hl : x < y
            · have : x.toNat < y.toNat := hl
              simp [hl]; omega
            · have h3 : ¬ x.toNat < y.toNat := hl
              have h4 : y < x := by
                have : x.toNat ≠ y.toNat := fun e => hxy (UInt8.toNat_inj.1 e)
                show y.toNat < x.toNat
                omega
              simp [hl, h4]; omega)
          have HX := Lib.hid hxy
          clear hxy HR HS HC
          go_wp2_with fail
          go_quiet (fail)
          go_wp2_with fail
          go_quiet (fail)
          go_wp2_with fail
          go_ret
          exact ⟨by rw [HE.out]; simp, below_drewN (below_drewN HW.out _) _⟩
      · have HE := Lib.hid (show R = decide (a.length < b.length) by rw [HR.out, HC.out]; exact cmpb_end hka hkb (by omega))
        clear HR HC GA GB
        obtain rfl : k = b.length := by omega
        obtain rfl : R = false := by rw [HE.out]; exact decide_eq_false (by omega)
        go_wp2_with fail
        go_ret
        exact ⟨by simpa using hka, HW.out⟩
    · have HE := Lib.hid (show R = decide (a.length < b.length) by rw [HR.out, HC.out]; exact cmpb_end hka hkb (by omega))
      clear HR HC GA GB
      obtain rfl : k = a.length := by omega
      go_wp2_with fail
      go_ret
      exact ⟨by rw [HE.out]; simp, HW.out⟩
end Go.Proofs.Yteeghdkejnhjnaa.Kv

/- The document's store: the walk of its All. -/
namespace Go.Proofs.Yteeghdkejnhjnaa.Kv
open Go Go.RowKit Go.Shelf Kt Ad Bo

theorem run_append_ad {w : World} {base : Nat} {v : Value} {n : Nat} {xs : List Value} (h : w.ownsRow base 24 8 v n xs) (hbase : base ≤ w.heap.size) (hn : n ≤ 1000000) (d : Nat) (x : A8) (hd : ∀ j u, x.cs[j]? = some u → w.cell? ((⟨d, 0, none⟩ : Addr).add j) = some u) (ty : TypeId) :
    ∃ v' w', (Builtin.append_ #[67, 67] ty #[v, .slice (some ⟨d, 0, none⟩) 1 1]).run Try.prog w = .ok v' w' ∧ w'.ownsRow base 24 8 v' (n + 1) (xs ++ x.cs) ∧ w.grownBy w' v.ownBlock := by
  obtain ⟨i0, hi, hz0, hz1, hz2⟩ := info_parts infoAddr
  obtain ⟨v', w', hrun, r1, r2, _⟩ := run_append_own (P := Try.prog) w base 67 ty 24 i0 _ 8 8 Try.underlying67 hi hz0 hz1 hz2 rfl (by decide) v n xs h ⟨d, 0, none⟩ 1 1 x.cs rfl hd (oneCellA x) (by unfold maxLen; omega) (by omega) hbase
  exact ⟨v', w', hrun, r1, r2⟩
theorem wl_append_ad {ops : Array Oper} {rest : List Oper} {o : Oper} {a : Act} {w : World} {Q : Exit → Act → World → Prop} {base : Nat} {v : Value} {n : Nat} {xs : List Value} (h : w.ownsRow base 24 8 v n xs) (hbase : base ≤ w.heap.size) (hn : n ≤ 1000000) (d : Nat) (x : A8) (hd : ∀ j u, x.cs[j]? = some u → w.cell? ((⟨d, 0, none⟩ : Addr).add j) = some u) (p q : Operand) (hgd : o.guard = none)
    (ho : o.op = .call { callee := .builtin .append, args := #[p, q], argTypes := #[67, 67] }) (hp : a.eval p = v) (hq : a.eval q = .slice (some ⟨d, 0, none⟩) 1 1)
    (hK : ∀ v' w', w'.ownsRow base 24 8 v' (n + 1) (xs ++ x.cs) → w.grownBy w' v.ownBlock → wpList Try.prog ops Q rest (a.put o.dst v') w') : wpList Try.prog ops Q (o :: rest) a w := by
  refine wpList_plain hgd fun _ hK' => ?_
  obtain ⟨v', w', hrun, r1, r2⟩ := run_append_ad h hbase hn d x hd o.type
  unfold Oper.wp
  simp [execOp, ho, resolve, invoke, builtin, hp, hq, hrun, Result.andThen]
  exact hK' _ _ (hK v' w' r1 r2)
theorem bslice_ad (x : A8) (w : World) : (Instr.buildSlice 67 1 #[(0, .agg x.cs.toArray)]).run Try.prog w = .ok (.slice (some ⟨w.heap.size, 0, none⟩) 1 1) (w.alloc (.cells x.cs.toArray 24)) := by kernel_rfl
theorem wl_bsliceAd {ops : Array Oper} {rest : List Oper} {o : Oper} {a : Act} {w : World} {Q : Exit → Act → World → Prop} (x : A8) (p : Operand) (hgd : o.guard = none) (ho : o.op = .buildSlice 67 1 #[(0, p)]) (hp : a.eval p = .agg x.cs.toArray)
    (hk : wpList Try.prog ops Q rest (a.put o.dst (.slice (some ⟨w.heap.size, 0, none⟩) 1 1)) (w.alloc (.cells x.cs.toArray 24))) : wpList Try.prog ops Q (o :: rest) a w := by
  have hb := bslice_ad x w
  refine wpList_plain hgd fun K hK => ?_
  unfold Oper.wp execOp
  simp only [ho, List.map_toArray, List.map_cons, List.map_nil, hp, hb, Sem.run_bind, Sem.run_pure, Result.andThen_ok]
  exact hK _ _ hk
/-- The addresses up to a place: each that is not the one ahead of it. -/
def dallN (L : List En) (n : Nat) : List A8 := (List.range n).flatMap fun j => if j = 0 ∨ L[j]?.map (·.a) ≠ L[j - 1]?.map (·.a) then (L[j]?.map (·.a)).toList else []
theorem dallN_step (L : List En) (j : Nat) : dallN L (j + 1) = dallN L j ++ (if j = 0 ∨ L[j]?.map (·.a) ≠ L[j - 1]?.map (·.a) then (L[j]?.map (·.a)).toList else []) := by
  unfold dallN
  rw [List.range_succ, List.flatMap_append]
  simp
theorem dallN_len (L : List En) : ∀ j, (dallN L j).length ≤ j
  | 0 => by simp [dallN]
  | j + 1 => by
    rw [dallN_step, List.length_append]
    have := dallN_len L j
    have h2 : (if j = 0 ∨ L[j]?.map (·.a) ≠ L[j - 1]?.map (·.a) then (L[j]?.map (·.a)).toList else []).length ≤ 1 := by
      split
      · cases L[j]? <;> simp
      · simp
    omega

set_option maxRecDepth 100000 in
set_option maxHeartbeats 8000000 in
theorem dall_any {W : World} {own : Nat → Prop} {br : Nat} {vl : Value} {L : List En} (h : Dk W own br vl L) (hN : L.length ≤ 1000000) :
    Calls Try.prog 45 #[.pointer (some ⟨br, 0, none⟩)] W fun e w' => ∃ v', e = .returned v' ∧ w'.ownsRow W.heap.size 24 8 v' (dallN L L.length).length (addrCells (dallN L L.length)) ∧ Below W.heap.size W w' := by
  obtain ⟨sl, cl, rfl, hle, hs⟩ := h.row.form
  have HS := Lib.hid hs
  have H := Lib.hid h
  have hbr := h.cell.lt
  clear h hs hle
  go_enter Try.func45, Try.ntmps45
  go_wp2_with fail
  go_loopw [3, 4] (fun out i wr => ∃ (j : Nat) (Q : List A8), j ≤ L.length ∧ i = .int .i64 j ∧ Q = dallN L j ∧ wr.ownsRow W.heap.size 24 8 out Q.length (addrCells Q) ∧ Below W.heap.size W wr)
    (fun _ i _ => L.length - (intOf i).toNat)
  case atStart => exact ⟨0, [], by omega, rfl, rfl, World.ownsRow_nil _ _ _ _, Below.refl _ _⟩
  case round =>
    obtain ⟨j, Q, hj, rfl, hQ, hR, hB⟩ := hrel
    obtain ⟨so, co, rfl⟩ := own_form2 hR
    have hlQ : Q.length ≤ 1000000 := by rw [hQ]; exact Nat.le_trans (dallN_len L j) (by omega)
    have HQ := Lib.hid hQ
    have HD := Lib.hid (H.out.later hB)
    have hc0 := (H.out.later hB).cell.cell 0
    simp only [List.getElem?_toArray, List.getElem?_cons_zero] at hc0
    have HST := Lib.hid (dallN_step L j)
    clear hQ
    by_cases hlt : j < L.length
    · obtain ⟨x, hx⟩ : ∃ x, L[j]? = some x := ⟨_, List.getElem?_eq_getElem hlt⟩
      obtain ⟨g, rfl, _⟩ := HS.out (by omega)
      obtain ⟨xa, xkv, xk, xvv, xv⟩ := x
      obtain ⟨c0, c1, c2, c3, c4, c5, c6, c7, c8, c9⟩ := en_cells HD.out.row hx
      simp only at c0 c1 c2 c3 c4 c5 c6 c7 c8 c9
      have HR := Lib.hid hR
      have HB := Lib.hid hB
      clear hR hB
      by_cases hj0 : j = 0
      · subst hj0
        have HE := Lib.hid (show dallN L (0 + 1) = Q ++ [xa] by rw [HST.out, ← HQ.out, if_pos (Or.inl rfl), hx]; rfl)
        clear HST HQ hx
        as_aux_lemma =>
          go_wp2_with fail
          go_quiet (fail)
          rename_i nq
          have hbd := below_drewN (Below.refl wr.heap.size wr) nq
          have hba : Below (wr.drewN nq).heap.size (wr.drewN nq) ((wr.drewN nq).alloc (.cells xa.cs.toArray 24)) := (Below.refl _ _).alloc (Nat.le_refl _) _
          have HR1 := Lib.hid (ownsRow_keep HR.out hbd)
          have HB1 := Lib.hid (below_drewN HB.out nq)
          have HR2 := Lib.hid (ownsRow_keep HR1.out hba)
          have HB2 := Lib.hid (HB1.out.trans (hba.mono HB1.out.size))
          clear hbd hba
          go_wp2_with (first | (refine wl_bsliceAd xa _ rfl rfl rfl ?_; simp only [Act.put, List.setIfInBounds_toArray, List.set_cons_zero, List.set_cons_succ]) | (refine wl_append_ad HR2.out HB2.out.size hlQ (wr.drewN nq).heap.size xa (cells_new _ _ _) _ _ rfl rfl rfl rfl (fun v6 w6 hr6 hg6 => ?_); have HR6 := Lib.hid hr6; have HG6 := Lib.hid hg6; clear hr6 hg6; simp only [Act.put, List.setIfInBounds_toArray, List.set_cons_zero, List.set_cons_succ]))
          go_roundw
          case rel => exact ⟨0 + 1, Q ++ [xa], by omega, by go_num, HE.out.symm, by rw [addrCells_snoc, List.length_append]; simpa using HR6.out, HB2.out.grown HG6.out HB2.out.size (fun k hk => (HR2.out.lt k hk).1)⟩
          case measure => simp [intOf]; omega
      · obtain ⟨m, rfl⟩ : ∃ m, j = m + 1 := ⟨j - 1, by omega⟩
        obtain ⟨y, hy⟩ : ∃ y, L[m]? = some y := ⟨_, List.getElem?_eq_getElem (by omega)⟩
        obtain ⟨ya, ykv, yk, yvv, yv⟩ := y
        obtain ⟨d0, d1, d2, d3, d4, d5, d6, d7, d8, d9⟩ := en_cells HD.out.row hy
        simp only at d0 d1 d2 d3 d4 d5 d6 d7 d8 d9
        have hj1 : (((m + 1 : Nat) : Int) == 0) = false := by simp; omega
        have hj2 : ((m : Int) + 1 == 0) = false := by simp; omega
        by_cases hxa : xa = ya
        · have HE := Lib.hid (show dallN L (m + 1 + 1) = Q by rw [HST.out, ← HQ.out, if_neg (by rw [hx, Nat.add_sub_cancel, hy]; simp [hxa]), List.append_nil])
          clear HST HQ hx hy
          subst hxa
          as_aux_lemma =>
            go_wp2_with fail
            go_quiet (fail)
            rename_i nq
            have hbd := below_drewN (Below.refl wr.heap.size wr) nq
            have hba : Below (wr.drewN nq).heap.size (wr.drewN nq) ((wr.drewN nq).alloc (.cells xa.cs.toArray 24)) := (Below.refl _ _).alloc (Nat.le_refl _) _
            have HR1 := Lib.hid (ownsRow_keep HR.out hbd)
            have HB1 := Lib.hid (below_drewN HB.out nq)
            have HR2 := Lib.hid (ownsRow_keep HR1.out hba)
            have HB2 := Lib.hid (HB1.out.trans (hba.mono HB1.out.size))
            clear hbd hba
            go_wp2_with fail
            go_roundw
            case rel => exact ⟨m + 1 + 1, Q, by omega, by go_num, HE.out.symm, HR1.out, HB1.out⟩
            case measure => simp [intOf]; omega
        · have HE := Lib.hid (show dallN L (m + 1 + 1) = Q ++ [xa] by rw [HST.out, ← HQ.out, if_pos (by rw [hx, Nat.add_sub_cancel, hy]; simp [hxa]), hx]; rfl)
          clear HST HQ hx hy
          as_aux_lemma =>
            go_wp2_with fail
            go_quiet (fail)
            rename_i nq
            have hbd := below_drewN (Below.refl wr.heap.size wr) nq
            have hba : Below (wr.drewN nq).heap.size (wr.drewN nq) ((wr.drewN nq).alloc (.cells xa.cs.toArray 24)) := (Below.refl _ _).alloc (Nat.le_refl _) _
            have HR1 := Lib.hid (ownsRow_keep HR.out hbd)
            have HB1 := Lib.hid (below_drewN HB.out nq)
            have HR2 := Lib.hid (ownsRow_keep HR1.out hba)
            have HB2 := Lib.hid (HB1.out.trans (hba.mono HB1.out.size))
            clear hbd hba
            go_wp2_with (first | (refine wl_bsliceAd xa _ rfl rfl rfl ?_; simp only [Act.put, List.setIfInBounds_toArray, List.set_cons_zero, List.set_cons_succ]) | (refine wl_append_ad HR2.out HB2.out.size hlQ (wr.drewN nq).heap.size xa (cells_new _ _ _) _ _ rfl rfl rfl rfl (fun v6 w6 hr6 hg6 => ?_); have HR6 := Lib.hid hr6; have HG6 := Lib.hid hg6; clear hr6 hg6; simp only [Act.put, List.setIfInBounds_toArray, List.set_cons_zero, List.set_cons_succ]))
            go_roundw
            case rel => exact ⟨m + 1 + 1, Q ++ [xa], by omega, by go_num, HE.out.symm, by rw [addrCells_snoc, List.length_append]; simpa using HR6.out, HB2.out.grown HG6.out HB2.out.size (fun k hk => (HR2.out.lt k hk).1)⟩
            case measure => simp [intOf]; omega
    · obtain rfl : j = L.length := by omega
      go_wp2_with fail
      go_ret
      have hq := HQ.out
      exact ⟨_, rfl, by rw [← hq]; exact hR, hB⟩
end Go.Proofs.Yteeghdkejnhjnaa.Kv
