/- slices.Insert of one of the pool's entries ahead of others. -/
import Derived.Test.YtkdckcjnjljdmaaCZv
import Derived.Test.YtkdckcjnjljdmaaCZu
namespace Go.Proofs.Ytkdckcjnjljdmaa.Po
open Go Go.RowKit Go.Lib Kt Fm Ad Kv

/-- A row with some of the room behind it. -/
theorem row_ext {w : World} {base : Nat} {e : TypeId} {sz g n m cap : Nat} {xs : List Value} (h : w.ownsRow base e sz (.slice (some ⟨g, 0, none⟩) n cap) n xs) (hm : n ≤ m) (hc : m ≤ cap) : ∃ ys, ys.length = (m - n) * sz ∧ w.ownsRow base e sz (.slice (some ⟨g, 0, none⟩) m cap) m (xs ++ ys) := by
  have hx := h.1
  rcases h.2 with ⟨h0, _⟩ | ⟨g', cap', cur, hv, hb, hg, h1, h2, h3, h4⟩
  · cases h0
  · cases hv
    have q1 : n * sz ≤ m * sz := Nat.mul_le_mul_right _ hm
    have q2 : m * sz ≤ cap * sz := Nat.mul_le_mul_right _ hc
    have hl : cur.toList.length = cap * sz := by rw [Array.length_toList, h3]
    have hs : (m - n) * sz = m * sz - n * sz := Nat.sub_mul _ _ _
    have e1 : xs ++ (cur.toList.take (m * sz)).drop (n * sz) = cur.toList.take (m * sz) := by
      have e2 : xs = (cur.toList.take (m * sz)).take (n * sz) := by rw [List.take_take, Nat.min_eq_left q1, h4]
      conv => lhs; lhs; rw [e2]
      exact List.take_append_drop _ _
    refine ⟨(cur.toList.take (m * sz)).drop (n * sz), by rw [List.length_drop, List.length_take]; omega, ⟨by rw [e1, List.length_take]; omega, .inr ⟨g, cap, cur, rfl, hb, hg, hc, h2, h3, by rw [e1]⟩⟩⟩
theorem infz_en : (Try.prog.info? 81).map (fun i => (i.zero.map (·.cells), i.size, i.bytes)) = some (some txZ.cs.toArray, 22, 80) := by kernel_rfl
theorem zs_one {m : Nat} : ∀ u ∈ (Builtin.zeroCells txZ.cs.toArray m).toList, u.oneCell' = true := fun u hu => by
  rw [zeroCells_rep _ (by decide)] at hu
  obtain ⟨l, hl, hu⟩ := List.mem_flatten.1 hu
  rw [List.eq_of_mem_replicate hl] at hu
  exact (show ∀ u ∈ txZ.cs, u.oneCell' = true from by decide) u hu
/-- append of zero values without room. -/
theorem wl_appzE {ops : Array Oper} {rest : List Oper} {op : Oper} {a : Act} {w : World} {Q : Exit → Act → World → Prop} (p q : Operand) (hgd : op.guard = none) (ho : op.op = .call { callee := .builtin .append, args := #[p, q], argTypes := #[77, 3] }) {base g i cap m : Nat} {xs : List Value}
    (h : w.ownsRow base 81 22 (.slice (some ⟨g, 0, none⟩) i cap) i xs) (hp : a.eval p = .slice (some ⟨g, 0, none⟩) i cap) (hq : a.eval q = .int .i64 m) (hm : 0 < m) (hroom : cap < i + m) (hl : i + m ≤ 200000) (hb : base ≤ w.heap.size)
    (hK : ∀ w' zs c2, i + m ≤ c2 → zs.length = m * 22 → w'.ownsRow base 81 22 (.slice (some ⟨w.heap.size, 0, none⟩) (i + m) c2) (i + m) (xs ++ zs) → Below w.heap.size w w' → wpList Try.prog ops Q rest (a.put op.dst (.slice (some ⟨w.heap.size, 0, none⟩) (i + m) c2)) w') : wpList Try.prog ops Q (op :: rest) a w := by
  cases hinf : Try.prog.info? 81 with
  | none => exact absurd infz_en (by rw [hinf]; exact fun e => by cases e)
  | some inf =>
    have hi := infz_en
    rw [hinf] at hi
    simp only [Option.map_some, Option.some.injEq, Prod.mk.injEq] at hi
    obtain ⟨hz0, hs, hby⟩ := hi
    cases hz : inf.zero with
    | none => rw [hz] at hz0; cases hz0
    | some z =>
      rw [hz] at hz0
      have hzc : z.cells = txZ.cs.toArray := Option.some.inj hz0
      obtain ⟨v', w', hr, h2, h3, h4⟩ := run_append_zerosB (P := Try.prog) (w := w) (ty := op.type) (base := base) Try.underlying77 Try.underlying3 hinf hz (by rw [hzc, hs]; rfl) (by rw [hs]; decide) (.slice (some ⟨g, 0, none⟩) i cap) i xs (by rw [hs]; exact h) m hm (by rw [hzc]; exact zs_one) (by unfold maxLen; omega) (by rw [hby]; omega) hb
      rw [hs, hzc] at h2
      rcases h4 with ⟨s, cap', e, hle⟩ | ⟨h4, h5⟩
      · cases e; omega
      obtain ⟨s, c2, rfl, hc2, hf⟩ := row_form h2
      obtain ⟨g2, rfl⟩ := hf (by omega)
      obtain rfl : g2 = w.heap.size := Option.some.inj h4
      refine wpList_plain hgd fun _ hK' => ?_
      unfold Oper.wp execOp
      simp only [ho, resolve, invoke, builtin, Sem.run_bind, Sem.run_pure, Result.andThen_ok, List.map_toArray, List.map_cons, List.map_nil, hp, hq, hr]
      exact hK' _ _ (hK w' _ c2 hc2 (by rw [Array.length_toList, size_zeroCells]; rfl) h2 h5)
theorem wp_copyE {op : Oper} {a : Act} {w : World} {K : Act → World → Prop} {Q : Exit → Act → World → Prop} (p q : Operand) (ho : op.op = .call { callee := .builtin .copy, args := #[p, q], argTypes := #[77, 77] }) {base g n cap o dLen c1 sLen c2 : Nat} {ad : Go.Addr} {xs cs : List Value}
    (h : w.ownsRow base 81 22 (.slice (some ⟨g, 0, none⟩) n cap) n xs) (hp : a.eval p = .slice (some ⟨g, o * 22, none⟩) dLen c1) (hq : a.eval q = .slice (some ad) sLen c2) (hl : cs.length = Nat.min sLen dLen * 22) (hn : ∀ j u, cs[j]? = some u → w.cell? (ad.add j) = some u) (h1 : ∀ u ∈ cs, u.oneCell' = true) (hfit : o * 22 + cs.length ≤ xs.length)
    (hK : ∀ w', w'.ownsRow base 81 22 (.slice (some ⟨g, 0, none⟩) n cap) n (xs.take (o * 22) ++ cs ++ xs.drop (o * 22 + cs.length)) → w.grownBy w' (some g) → K (a.put op.dst (goInt (Nat.min sLen dLen))) w') : op.wp Try.prog a w K Q := by
  obtain ⟨cur, hlie, hs, hnc, _⟩ := row_room h
  have hx : xs.length = n * 22 := h.1
  have hle : n * 22 ≤ cap * 22 := Nat.mul_le_mul_right _ hnc
  have hr := run_copy_sz (P := Try.prog) w 77 77 op.type 81 g (o * 22) dLen c1 ad sLen c2 22 cs Try.underlying77 sizeEn hl hn (fun j hj => by rw [hlie.cell, Array.getElem?_eq_getElem (by rw [hs]; omega)]; rfl) (fun j hj => hlie.frozen _) h1
  obtain ⟨k1, k2⟩ := row_over h (o * 22) cs hfit
  unfold Oper.wp execOp
  simp only [ho, resolve, invoke, builtin, Sem.run_bind, Sem.run_pure, Result.andThen_ok, List.map_toArray, List.map_cons, List.map_nil, hp, hq, hr]
  exact hK _ k1 k2
/-- The cells of a list with one more: without room. -/
theorem ins_cells_a {l : List Tx} {x : Tx} {i : Nat} (hi : i < l.length) {zs c1 : List Value} (hz : zs.length = (l.length + 1 - i) * 22) (h1 : c1 = ((l.take i).flatMap Tx.cs ++ zs).take (i * 22) ++ x.cs ++ ((l.take i).flatMap Tx.cs ++ zs).drop (i * 22 + x.cs.length)) :
    c1.take ((i + 1) * 22) ++ (l.drop i).flatMap Tx.cs ++ c1.drop ((i + 1) * 22 + ((l.drop i).flatMap Tx.cs).length) = (insAt l i x).flatMap Tx.cs := by
  have e0 : ((l.take i).flatMap Tx.cs).length = i * 22 := by rw [flat_len, List.length_take, Nat.min_eq_left (by omega)]
  have ex : x.cs.length = 22 := x.len
  have e1 : ((l.take i).flatMap Tx.cs ++ zs).take (i * 22) = (l.take i).flatMap Tx.cs := by rw [← e0, List.take_left]
  rw [e1] at h1
  have ec : c1.length = (l.length + 1) * 22 := by
    rw [h1, List.length_append, List.length_append, List.length_drop, List.length_append, e0, ex, hz]
    omega
  have ed : ((l.drop i).flatMap Tx.cs).length = (l.length - i) * 22 := by rw [flat_len, List.length_drop]
  have e2 : c1.take ((i + 1) * 22) = (l.take i).flatMap Tx.cs ++ x.cs := by
    have : ((l.take i).flatMap Tx.cs ++ x.cs).length = (i + 1) * 22 := by rw [List.length_append, e0, ex]; omega
    rw [h1, ← this, List.take_left]
  have e3 : c1.drop ((i + 1) * 22 + ((l.drop i).flatMap Tx.cs).length) = [] := List.drop_eq_nil_of_le (by rw [ec, ed]; omega)
  rw [e2, e3, List.append_nil]
  unfold insAt
  rw [List.flatMap_append, List.flatMap_cons, List.append_assoc]
/-- .. with room. -/
theorem ins_cells_b {l : List Tx} {x : Tx} {i : Nat} (hi : i < l.length) {ys c1 : List Value} (hy : ys.length = 22) (h1 : c1 = (l.flatMap Tx.cs ++ ys).take ((i + 1) * 22) ++ (l.drop i).flatMap Tx.cs ++ (l.flatMap Tx.cs ++ ys).drop ((i + 1) * 22 + ((l.drop i).flatMap Tx.cs).length)) :
    c1.take (i * 22) ++ x.cs ++ c1.drop (i * 22 + x.cs.length) = (insAt l i x).flatMap Tx.cs := by
  have el : (l.flatMap Tx.cs).length = l.length * 22 := flat_len
  have ex : x.cs.length = 22 := x.len
  have ed : ((l.drop i).flatMap Tx.cs).length = (l.length - i) * 22 := by rw [flat_len, List.length_drop]
  have et : ((l.flatMap Tx.cs ++ ys).take ((i + 1) * 22)).length = (i + 1) * 22 := by rw [List.length_take, List.length_append, el, hy]; omega
  have e1 : (l.flatMap Tx.cs ++ ys).drop ((i + 1) * 22 + ((l.drop i).flatMap Tx.cs).length) = [] := List.drop_eq_nil_of_le (by rw [List.length_append, el, hy, ed]; omega)
  rw [e1, List.append_nil] at h1
  have e2 : c1.take (i * 22) = (l.take i).flatMap Tx.cs := by
    rw [h1, List.take_append_of_le_length (by rw [et]; omega), List.take_take, Nat.min_eq_left (by omega), List.take_append_of_le_length (by rw [el]; omega), ← flat_take]
  have e3 : c1.drop (i * 22 + x.cs.length) = (l.drop i).flatMap Tx.cs := by
    rw [h1, ex, show i * 22 + 22 = ((l.flatMap Tx.cs ++ ys).take ((i + 1) * 22)).length from by rw [et]; omega, List.drop_left]
  rw [e2, e3]
  unfold insAt
  rw [List.flatMap_append, List.flatMap_cons, List.append_assoc]
theorem row_cellsO {w : World} {base g n cap : Nat} {l : List Tx} (h : w.ownsRow base 81 22 (.slice (some ⟨g, 0, none⟩) n cap) n (l.flatMap Tx.cs)) (i : Nat) : ∀ j u, ((l.drop i).flatMap Tx.cs)[j]? = some u → w.cell? ((⟨g, i * 22, none⟩ : Go.Addr).add j) = some u := fun j u hj => by
  rw [flat_drop, List.getElem?_drop] at hj
  have hc := h.cells (g := g) rfl _ _ hj
  rw [Addr.add_lit, Nat.zero_add] at hc
  rw [Addr.add_lit]
  exact hc
theorem sizeE_run (w : World) : (sizeOf 81).run Try.prog w = .ok 22 w := by kernel_rfl
theorem over_any {w : World} {gx g o m cb : Nat} {cs : List Value} {cur : Array Value} (hx : Lies w gx 81 cs.toArray) (hg : Lies w g 81 cur) (hne : gx ≠ g) (hc : cur.size ≠ 0) (W : World) (hW : W = w) : (callFunc 55 #[.slice (some ⟨gx, 0, none⟩) 1 1, .slice (some ⟨g, o, none⟩) m cb]).run Try.prog W = .ok (.value (.bool false)) W := by
  subst hW
  have h1 : W.shape? gx = some (81, cs.toArray.size) := by simp [World.shape?, show W.heap[gx]? = _ from hx]
  have h2 : W.shape? g = some (81, cur.size) := by simp [World.shape?, show W.heap[g]? = _ from hg]
  rw [run_callFunc_extern Try.func55 (by kernel_rfl) (by kernel_rfl) (by kernel_rfl) (e := Extern.SlicesOverlaps.overlaps #[77, 77] #[4]) (by kernel_rfl),
    Lib.run_overlaps_apart W 77 4 81 Try.underlying77 22 sizeE_run ⟨gx, 0, none⟩ ⟨g, o, none⟩ 1 1 m cb hne _ _ _ _ h1 h2 hc (hx.frozen 0) (hx.frozen _)]
  rfl
set_option maxRecDepth 100000 in
set_option maxHeartbeats 16000000 in
theorem ins_mid {W : World} {base gx : Nat} {v : Value} {l : List Tx} {x : Tx} {i : Nat} (h : W.ownsRow base 81 22 v l.length (l.flatMap Tx.cs)) (hx : Lies W gx 81 x.cs.toArray) (hne : v.ownBlock ≠ some gx) (ho : TxOk W x) (hol : ∀ t ∈ l, TxOk W t) (hi : i < l.length) (hl : l.length ≤ 100000) (hb : base ≤ W.heap.size) : Calls Try.prog 33 #[v, .int .i64 i, .slice (some ⟨gx, 0, none⟩) 1 1] W fun e w' => ∃ v', e = .returned v' ∧ w'.ownsRow base 81 22 v' (insAt l i x).length ((insAt l i x).flatMap Tx.cs) ∧ Fr W w' (fun k => some k = v.ownBlock) := by
  obtain ⟨s, cap, rfl, hnc, hf⟩ := row_form h
  obtain ⟨g, rfl⟩ := hf (by omega)
  have HN := Lib.hid (show gx ≠ g from fun e => hne (by rw [e]; rfl))
  have HR := Lib.hid h
  have HX := Lib.hid hx
  have HO := Lib.hid ho
  have HOL := Lib.hid (show ∀ u ∈ (l.drop i).flatMap Tx.cs, u.oneCell' = true from fun u hu => by obtain ⟨t, ht, hu⟩ := List.mem_flatMap.1 hu; exact (hol t (List.mem_of_mem_drop ht)).one u hu)
  have HIL := Lib.hid (insAt_len (x := x) (Nat.le_of_lt hi))
  clear h hx ho hol hf hne
  obtain ⟨n, hn⟩ : ∃ n, n = l.length := ⟨_, rfl⟩
  rw [← hn] at HR hi hl hnc HIL ⊢
  have HNL := Lib.hid hn
  have k1 : (i : Int) ≤ (n : Int) := by omega
  have k2 : (i : Int) ≤ (cap : Int) := by omega
  have k3 : ¬ (i : Int) = (n : Int) := by omega
  have k3' : ((i : Int) == (n : Int)) = false := by simp; omega
  have k4 : ¬ cap = i := by omega
  have k5 : i ≤ cap := by omega
  have k6 : i ≤ n := by omega
  have k7 : (n : Int) ≤ (cap : Int) := by omega
  clear hn
  go_enter Try.func33, Try.ntmps33
  by_cases hroom : cap < n + 1
  · have c1 : (cap : Int) < (n : Int) + 1 := by omega
    obtain ⟨m, hm⟩ : ∃ m, n + 1 = i + m := ⟨n + 1 - i, by omega⟩
    have c2 : (n : Int) + 1 - (i : Int) = (m : Int) := by omega
    have HF := Lib.hid (row_front (L := l.take i) Tx.len HR.out (by rw [List.length_take]; omega) (by rw [List.length_take, Nat.min_eq_left (by rw [← HNL.out]; omega), flat_take]))
    have hlk : (l.take i).length = i := by rw [List.length_take, ← HNL.out]; omega
    rw [hlk] at HF
    clear hlk
    go_upto_region 10 with (refine wl_appzE _ _ rfl rfl HF.out rfl (by (try go_simp); first | rfl | (rw [c2]; rfl)) (by omega) (by omega) (by omega) hb (fun w1 zs cp2 hcp hzs hr1 hb1 => ?_); obtain ⟨g2, hg2⟩ : ∃ g2, g2 = W.heap.size := ⟨_, rfl⟩; rw [← hg2] at hr1 ⊢; have R1 := Lib.hid hr1; have B1 := Lib.hid hb1; have HG2 := Lib.hid hg2; have HZ := Lib.hid hzs; clear hr1 hb1 hg2 hzs; (try simp only [Act.put, List.setIfInBounds_toArray, List.set_cons_zero, List.set_cons_succ]))
    have j1 : (i : Int) ≤ (i : Int) + (m : Int) := by omega
    have j2 : (i : Int) ≤ (cp2 : Int) := by omega
    have j3 : ¬ cp2 = i := by omega
    have j4 : ((i : Int) + (m : Int)) ≤ (cp2 : Int) := by omega
    go_upto_region 11 with (refine wl_copyE (o := i) (cs := x.cs) (ad := ⟨gx, 0, none⟩) _ _ rfl rfl R1.out (by exact rfl) (by exact rfl) (show x.cs.length = Nat.min 1 m * 22 from by rw [show Nat.min 1 m = 1 from Nat.min_eq_left (by omega)]; rfl) (fun j u hj => by have hc := lies_range (HX.out.below B1.out HX.out.lt) j u hj; rw [Addr.add_lit]; exact hc) HO.out.one (by rw [R1.out.1, x.len, ← Nat.add_one_mul]; exact Nat.mul_le_mul_right _ (by omega)) (fun w2 hr2 hgr2 => ?_); have R2 := Lib.hid hr2; have B2 := Lib.hid (show Below W.heap.size W w2 from B1.out.grown hgr2 B1.out.size (fun q hq => by cases hq; exact Nat.le_of_eq HG2.out.symm)); clear hr2 hgr2; (try simp only [Act.put, List.setIfInBounds_toArray, List.set_cons_zero, List.set_cons_succ]))
    have C2 := Lib.hid (ins_cells_a (x := x) (zs := zs) (show i < l.length from by rw [← HNL.out]; exact hi) (by rw [HZ.out, ← HNL.out, hm, Nat.add_sub_cancel_left]) rfl)
    generalize ((l.take i).flatMap Tx.cs ++ zs).take (i * 22) ++ x.cs ++ ((l.take i).flatMap Tx.cs ++ zs).drop (i * 22 + x.cs.length) = cc1 at R2 C2
    refine wp_region_t [(0, 1), (1, 1), (2, 1), (3, 1), (4, 1), (5, 1), (6, 1), (7, 1), (8, 0)] (fun _ => True) [] [] rfl (by kernel_rfl) (by kernel_rfl) (fun _ _ d _ _ h => by cases d <;> exact h) trivial (fun p hp => by cases hp) ?_
    have B3 := Lib.hid (bt B2.out (below_drew w2))
    have R3 := Lib.hid (ownsRow_keep R2.out (below_drew w2))
    generalize w2.drew = w3 at B3 R3 ⊢
    have j5 : (i : Int) + 1 ≤ (i : Int) + (m : Int) := by omega
    have j6 : (i : Int) + 1 ≤ (cp2 : Int) := by omega
    have j7 : ¬ cp2 = i + 1 := by omega
    have j8 : (0 : Int) ≤ (i : Int) + 1 := by omega
    repeat (refine ts_take (v := ?_) rfl rfl (fun w' hw' => ?_) ?_; rotate_left; (focus (skip; (try simp only [Act.put, List.setIfInBounds_toArray, List.set_cons_zero, List.set_cons_succ]); go_simp; (try go_bits); (try (with_reducible rfl)))); (try simp only [Act.put, List.setIfInBounds_toArray, List.set_cons_zero, List.set_cons_succ]))
    refine ts_run1 rfl rfl (fun K hK => ?_)
    refine wp_copyE (o := i + 1) (cs := (l.drop i).flatMap Tx.cs) (ad := ⟨g, i * 22, none⟩) _ _ rfl R3.out (by exact rfl) (by exact rfl) (by rw [flat_len, List.length_drop, ← HNL.out]; congr 1; first | exact (Nat.min_eq_left (by omega)).symm | exact (Nat.min_eq_right (by omega)).symm) (row_cellsO (ownsRow_keep HR.out B3.out) i) HOL.out (by rw [R3.out.1, flat_len, List.length_drop, ← HNL.out, ← Nat.add_mul]; exact Nat.mul_le_mul_right _ (by omega)) (fun w4 hr4 hg4 => ?_)
    have R4 := Lib.hid hr4
    have B4 := Lib.hid (show Below W.heap.size W w4 from B3.out.grown hg4 B3.out.size (fun q hq => by cases hq; exact Nat.le_of_eq HG2.out.symm))
    clear hr4 hg4
    refine hK.out _ _ trivial (still_none _ _) ?_
    clear hK K
    (try simp only [Act.put, List.setIfInBounds_toArray, List.set_cons_zero, List.set_cons_succ])
    refine ts_done ?_
    rw [C2.out] at R4
    go_wp2_with fail
    go_ret
    exact ⟨_, rfl, by rw [HIL.out, hm]; exact R4.out, Fr.of_below B4.out _⟩
  · have c1 : ¬ (cap : Int) < (n : Int) + 1 := by omega
    have c2 : (n : Int) + 1 ≤ (cap : Int) := by omega
    have j0 : (0 : Int) ≤ (n : Int) + 1 := by omega
    obtain ⟨ys, hys, hr1⟩ := row_ext (m := n + 1) HR.out (by omega) (by omega)
    rw [show n + 1 - n = 1 from by omega, Nat.one_mul] at hys
    have R1 := Lib.hid hr1
    have HY := Lib.hid hys
    obtain ⟨cur, hlie, hsz, _, _⟩ := row_room HR.out
    have ov : ∀ o m cb, (callFunc 55 #[.slice (some ⟨gx, 0, none⟩) 1 1, .slice (some ⟨g, o, none⟩) m cb]).run Try.prog W = .ok (.value (.bool false)) W := fun o m cb => over_any HX.out hlie HN.out (by rw [hsz]; omega) W rfl
    clear hr1 hys hlie hsz
    have j2 : (i : Int) + 1 ≤ (n : Int) + 1 := by omega
    have j3 : (i : Int) + 1 ≤ (cap : Int) := by omega
    have j4 : ¬ cap = i + 1 := by omega
    have j5 : (0 : Int) ≤ (i : Int) + 1 := by omega
    have j6 : (i : Int) ≤ (n : Int) + 1 := by omega
    go_upto_region 15 with fail
    clear ov
    refine wp_region_t [(0, 1), (1, 1), (2, 1), (3, 1), (4, 1), (5, 1), (6, 1), (7, 1), (8, 0)] (fun _ => True) [] [] rfl (by kernel_rfl) (by kernel_rfl) (fun _ _ d _ _ h => by cases d <;> exact h) trivial (fun p hp => by cases hp) ?_
    have B2 := Lib.hid (below_drew W)
    generalize W.drew = w2 at B2 ⊢
    have R2 := Lib.hid (ownsRow_keep R1.out B2.out)
    repeat (refine ts_take (v := ?_) rfl rfl (fun w' hw' => ?_) ?_; rotate_left; (focus (skip; (try simp only [Act.put, List.setIfInBounds_toArray, List.set_cons_zero, List.set_cons_succ]); go_simp; (try go_bits); (try (with_reducible rfl)))); (try simp only [Act.put, List.setIfInBounds_toArray, List.set_cons_zero, List.set_cons_succ]))
    refine ts_run1 rfl rfl (fun K hK => ?_)
    have hmin : Nat.min (n + 1 - i) (n - i) = n - i := Nat.min_eq_right (by omega)
    refine wp_copyE (o := i + 1) (cs := (l.drop i).flatMap Tx.cs) (ad := ⟨g, i * 22, none⟩) _ _ rfl R2.out rfl rfl (by rw [flat_len, List.length_drop, ← HNL.out]; congr 1; omega) (row_cellsO (ownsRow_keep HR.out B2.out) i) HOL.out (by rw [R2.out.1, flat_len, List.length_drop, ← HNL.out, ← Nat.add_mul]; exact Nat.mul_le_mul_right _ (by omega)) (fun w3 hr3 hg3 => ?_)
    have C3 := Lib.hid (ins_cells_b (x := x) (ys := ys) (show i < l.length from by rw [← HNL.out]; exact hi) HY.out rfl)
    have R3 := Lib.hid hr3
    generalize (l.flatMap Tx.cs ++ ys).take ((i + 1) * 22) ++ (l.drop i).flatMap Tx.cs ++ (l.flatMap Tx.cs ++ ys).drop ((i + 1) * 22 + ((l.drop i).flatMap Tx.cs).length) = cc1 at R3 C3
    have X3 := Lib.hid (show Lies w3 gx 81 x.cs.toArray from (HX.out.below B2.out HX.out.lt).kept hg3 (fun e => HN.out (Option.some.inj e)))
    have F3 := Lib.hid (show Fr W w3 (fun k => some k = some g) from (Fr.of_below B2.out _).trans (Fr.of_grown hg3))
    clear hr3 hg3
    refine hK.out _ _ trivial (still_none _ _) ?_
    clear hK K hmin
    (try simp only [Act.put, List.setIfInBounds_toArray, List.set_cons_zero, List.set_cons_succ])
    refine ts_done ?_
    have t1 := Lib.hid (show x.cs.length = Nat.min 1 (n + 1 - i) * 22 from by rw [show Nat.min 1 (n + 1 - i) = 1 from Nat.min_eq_left (by omega)]; rfl)
    have t2 := Lib.hid (show ∀ j u, x.cs[j]? = some u → w3.cell? ((⟨gx, 0, none⟩ : Go.Addr).add j) = some u from fun j u hj => by have hc := lies_range X3.out j u hj; rw [Addr.add_lit]; exact hc)
    have t3 := Lib.hid (show i * 22 + x.cs.length ≤ cc1.length from by rw [R3.out.1, x.len, ← Nat.add_one_mul]; exact Nat.mul_le_mul_right _ (by omega))
    go_wp2_with (refine wl_copyE (o := i) (cs := x.cs) (ad := ⟨gx, 0, none⟩) _ _ rfl rfl R3.out (by exact rfl) (by exact rfl) t1.out t2.out HO.out.one t3.out (fun w4 hr4 hg4 => ?_); have R4 := Lib.hid hr4; have F4 := Lib.hid (show Fr W w4 (fun k => some k = some g) from F3.out.trans (Fr.of_grown hg4)); clear hr4 hg4; (try simp only [Act.put, List.setIfInBounds_toArray, List.set_cons_zero, List.set_cons_succ]))
    go_ret
    rw [C3.out] at R4
    exact ⟨_, rfl, by rw [HIL.out]; exact R4.out, F4.out⟩
/-- slices.Insert of one. -/
theorem ins_any {W : World} {base gx : Nat} {v : Value} {l : List Tx} {x : Tx} {i : Nat} (h : W.ownsRow base 81 22 v l.length (l.flatMap Tx.cs)) (hx : Lies W gx 81 x.cs.toArray) (hne : v.ownBlock ≠ some gx) (ho : TxOk W x) (hol : ∀ t ∈ l, TxOk W t) (hi : i ≤ l.length) (hl : l.length ≤ 100000) (hb : base ≤ W.heap.size) : Calls Try.prog 33 #[v, .int .i64 i, .slice (some ⟨gx, 0, none⟩) 1 1] W fun e w' => ∃ v', e = .returned v' ∧ w'.ownsRow base 81 22 v' (insAt l i x).length ((insAt l i x).flatMap Tx.cs) ∧ Fr W w' (fun k => some k = v.ownBlock) := by
  by_cases hlt : i < l.length
  · exact ins_mid h hx hne ho hol hlt hl hb
  · obtain rfl : i = l.length := by omega
    refine (ins_end h (sl_one hx) ho hl hb).mono ?_
    rintro e w' ⟨v', h1, h2, h3⟩
    have e0 : insAt l l.length x = l ++ [x] := by unfold insAt; rw [List.take_length, List.drop_length]
    exact ⟨v', h1, by rw [e0]; exact h2, h3⟩
end Go.Proofs.Ytkdckcjnjljdmaa.Po
