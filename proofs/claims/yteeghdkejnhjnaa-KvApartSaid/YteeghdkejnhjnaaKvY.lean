/- The walk of KvApart. -/
import Derived.Test.YteeghdkejnhjnaaKvT
import Derived.Deep.CutBlock
import Derived.Deep.CutRange
namespace Go.Proofs.Yteeghdkejnhjnaa.Kv
open Go Go.RowKit Go.Shelf Kt Ad Bo

theorem exec_loadK {op : Oper} {act : Act} (x : Kdo) (b o : Nat) {w : World} (h : KdoAt w b o x) (p : Operand) (ho : op.op = .load 31 p) (hx : act.eval p = .pointer (some ⟨b, o, none⟩)) : (execOp act.eval op).run Try.prog w = .ok (.value (.agg x.cs.toArray)) w := by
  have hl := run_loadAt_mid (P := Try.prog) w b o 31 x.cs _ h Try.underlying31 rfl sizeKdo
  unfold execOp
  simp only [ho, hx, hl, Sem.run_bind, Sem.run_pure, Result.andThen_ok]
set_option maxRecDepth 100000 in
set_option maxHeartbeats 16000000 in
theorem law_apart {W : World} {va vb vt : Value} {A B : List Kdo} {nt : Nat} (hA : KRow W va A) (hB : KRow W vb B) (hT : BoRow W vt nt) :
    Calls Try.prog 4 #[va, vb, vt] W fun e w' => e = .returned (.bool true) ∧ Below W.heap.size W w' := by
  have HVA := Lib.hid (fun (w : World) (hb : Below W.heap.size W w) => heavy_any (hA.below hb))
  have HVB := Lib.hid (fun (w : World) (hb : Below W.heap.size W w) => heavy_any (hB.below hb))
  obtain ⟨sa, ca, rfl, hsa⟩ := hA.shape
  obtain ⟨sb, cb, rfl, hsb⟩ := hB.shape
  obtain ⟨st, ct, rfl, hst⟩ := hT.shape
  have hlt9 : nt ≤ 9223372036854775807 := by have := hT.len; unfold maxLen at this; omega
  have HBA := Lib.hid hA.byt
  have HBB := Lib.hid hB.byt
  have HSA := Lib.hid hsa
  have HSB := Lib.hid hsb
  have HST := Lib.hid hst
  clear hsa hsb hst hA hB hT
  have HN := Lib.hid (known_any W)
  go_enter Try.func4, Try.ntmps4
  go_wp2_with fail
  refine HN.out.mono ?_
  rintro en w1 ⟨rfl, hb1⟩
  clear HN
  go_wp2_with fail
  refine (HVA.out w1 hb1).mono ?_
  rintro en w2 ⟨hv, rfl, hh, hb⟩
  have HW2 := Lib.hid (hb1.trans (hb.mono hb1.size))
  clear hb hb1 HVA
  cases hv with
  | true =>
    go_wp2_with fail
    go_ret
    exact ⟨rfl, HW2.out⟩
  | false =>
    obtain ⟨hlA, hbA⟩ := hh rfl
    have HLA := Lib.hid hbA
    clear hh hbA
    go_wp2_with fail
    refine (HVB.out w2 HW2.out).mono ?_
    rintro en w3 ⟨hv, rfl, hh, hb⟩
    have HW3 := Lib.hid (HW2.out.trans (hb.mono HW2.out.size))
    clear hb HVB HW2
    cases hv with
    | true =>
      go_wp2_with fail
      go_ret
      exact ⟨rfl, HW3.out⟩
    | false =>
      obtain ⟨hlB, hbB⟩ := hh rfl
      have HLB := Lib.hid hbB
      clear hh hbB
      go_wp2_with fail
      obtain ⟨w4, hw4⟩ : ∃ w4, w4 = (w3.alloc (.cells kA.cs.toArray 24)).alloc (.cells kB.cs.toArray 24) := ⟨_, rfl⟩
      have hz4 : w4.heap.size = w3.heap.size + 2 := by rw [hw4]; simp
      have H14 : Lies w4 w3.heap.size 24 kA.cs.toArray := hw4 ▸ (Lies.new w3 _ _).alloc _
      have H24 : Lies w4 (w3.heap.size + 1) 24 kB.cs.toArray := by
        have := Lies.new (w3.alloc (.cells kA.cs.toArray 24)) 24 kB.cs.toArray
        rw [World.size_alloc] at this
        exact hw4 ▸ this
      have hb4 : Below w3.heap.size w3 w4 := hw4 ▸ ((Below.refl _ _).alloc (Nat.le_refl _) _).alloc (by simp) _
      have HW4 := Lib.hid (HW3.out.trans (hb4.mono HW3.out.size))
      have hlit : (w3.alloc (.cells #[.int .u8 1, .int .u8 0, .int .u8 0, .int .u8 0, .int .u8 0, .int .u8 0, .int .u8 0, .int .u8 0] 24)).alloc (.cells #[.int .u8 2, .int .u8 0, .int .u8 0, .int .u8 0, .int .u8 0, .int .u8 0, .int .u8 0, .int .u8 0] 24) = w4 := hw4.symm
      rw [hlit]
      clear hlit hw4 hb4
      refine (sto_new w4).mono ?_
      rintro en w5 ⟨b1, rfl, hk1, hb5⟩
      go_wp2_with fail
      refine (sto_new w5).mono ?_
      rintro en w6 ⟨b2, rfl, hk2, hb6⟩
      go_wp2_with fail
      refine (sto_new w6).mono ?_
      rintro en w7 ⟨b3, rfl, hk3, hb7⟩
      have z5 := hb5.size
      have z6 := hb6.size
      have z7 := hb7.size
      have hT0 : Tri w4.heap.size W w7 (fun k => w4.heap.size ≤ k ∧ k < w5.heap.size) (fun k => w5.heap.size ≤ k ∧ k < w6.heap.size) (fun k => w6.heap.size ≤ k ∧ k < w7.heap.size) b1 b2 b3 St.nil St.nil St.nil :=
        ⟨((hk1.mono (fun k hl ho => ⟨ho, hl⟩)).later hb6).later hb7, (hk2.mono (fun k hl ho => ⟨ho, hl⟩)).later hb7, hk3.mono (fun k hl ho => ⟨ho, hl⟩),
         fun k hk => by omega, fun k h e => by omega, fun k h e => by omega, fun k h e => by omega, by omega, HW4.out.size,
         ((HW4.out.trans (hb5.mono HW4.out.size)).trans (hb6.mono (Nat.le_trans HW4.out.size z5))).trans (hb7.mono (Nat.le_trans HW4.out.size (Nat.le_trans z5 z6)))⟩
      have HT := Lib.hid (show ∃ (o1 o2 o3 : Nat → Prop), Tri w4.heap.size W w7 o1 o2 o3 b1 b2 b3 (runs kA (A.take 0)) St.nil St.nil from ⟨_, _, _, hT0⟩)
      have H1 := Lib.hid (((H14.below hb5 H14.lt).below hb6 (Nat.lt_of_lt_of_le H14.lt z5)).below hb7 (Nat.lt_of_lt_of_le H14.lt (Nat.le_trans z5 z6)))
      have H2 := Lib.hid (((H24.below hb5 H24.lt).below hb6 (Nat.lt_of_lt_of_le H24.lt z5)).below hb7 (Nat.lt_of_lt_of_le H24.lt (Nat.le_trans z5 z6)))
      have hn1 : w3.heap.size < w4.heap.size := by omega
      have hn2 : w3.heap.size + 1 < w4.heap.size := by omega
      clear hk1 hk2 hk3 hb5 hb6 hb7 z5 z6 z7 hT0 H14 H24 hz4 HW3 HW4
      generalize w3.heap.size + 1 = n2 at H2 hn2 ⊢
      generalize w3.heap.size = n1 at H1 hn1 ⊢
      generalize w4.heap.size = n0 at HT hn1 hn2
      go_wp2_with fail
      go_loopw [35] (fun i wr => ∃ j : Nat, j ≤ A.length ∧ i = .int .i64 j ∧ (∃ (o1 o2 o3 : Nat → Prop), Tri n0 W wr o1 o2 o3 b1 b2 b3 (runs kA (A.take j)) St.nil St.nil) ∧ Bd j (runs kA (A.take j)) ∧ Lies wr n1 24 kA.cs.toArray ∧ Lies wr n2 24 kB.cs.toArray)
        (fun i _ => A.length - (intOf i).toNat)
      case atStart => exact ⟨0, by omega, rfl, HT.out, Bd.nil, H1.out, H2.out⟩
      case round =>
        clear HT H1 H2
        obtain ⟨j, hj, rfl, ⟨o1, o2, o3, hT⟩, hB, h1, h2⟩ := hrel
        have HT := Lib.hid hT
        have HBD := Lib.hid hB
        have H1 := Lib.hid h1
        have H2 := Lib.hid h2
        clear hT hB h1 h2
        by_cases hlt : j < A.length
        · as_aux_lemma =>
            obtain ⟨x, hx⟩ : ∃ x, A[j]? = some x := ⟨_, List.getElem?_eq_getElem hlt⟩
            obtain ⟨b, off, rfl, hbl, hat⟩ := HSA.out (by intro e; simp [e] at hlt)
            obtain ⟨⟨hby, _⟩, ⟨hby2, _⟩⟩ := HBA.out x (List.mem_of_getElem? hx)
            obtain ⟨hlk, _⟩ := HLA.out x (List.mem_of_getElem? hx)
            have hd := (hat j x hx).below HT.out.below hbl
            have HTK := Lib.hid (show A.take (j + 1) = A.take j ++ [x] from by rw [List.take_add_one, hx]; rfl)
            clear hat hx
            obtain ⟨xk, xa, xkv, xkey, xvv, xval, xn⟩ := x
            obtain ⟨sx, cx, hvx⟩ : ∃ sx cx, xkv = .slice sx xkey.length cx := by obtain ⟨s, c, e, _⟩ := hby; exact ⟨s, c, e⟩
            obtain ⟨sy, cy, hvy⟩ : ∃ sx cx, xvv = .slice sx xval.length cx := by obtain ⟨s, c, e, _⟩ := hby2; exact ⟨s, c, e⟩
            subst hvx hvy
            replace hlk : xkey.length ≤ 30000 := hlk
            have HD := Lib.hid hd
            have HBK := Lib.hid (show Byt W (.slice sx xkey.length cx) xkey from hby)
            have HBV := Lib.hid (show Byt W (.slice sy xval.length cy) xval from hby2)
            clear hd hby hby2
            have hnl1 : n1 < wr.heap.size := H1.out.lt
            have hnl2 : n2 < wr.heap.size := H2.out.lt
            obtain ⟨a0, a1, a2, a3, a4, a5, a6, a7⟩ := lies_addr H1.out
            simp only [kA] at a0 a1 a2 a3 a4 a5 a6 a7
            go_upto_region 10 with fail
            go_upto_region 11 with (first | (refine wk_load _ _ _ HD.out _ rfl rfl rfl ?_; simp only [Kdo.cs, Act.put, List.setIfInBounds_toArray, List.set_cons_zero, List.set_cons_succ]) | (refine wk_store ⟨xk, xa, .slice sx xkey.length cx, xkey, .slice sy xval.length cy, xval, xn⟩ rfl rfl _ _ rfl rfl rfl rfl rfl ?_; simp only [Kdo.cs, Act.put]))
            obtain ⟨W1, hW1⟩ : ∃ W1, W1 = wr.alloc (.cells (Kdo.cs ⟨xk, xa, .slice sx xkey.length cx, xkey, .slice sy xval.length cy, xval, xn⟩).toArray 31) := ⟨_, rfl⟩
            have hb1 : Below wr.heap.size wr W1 := hW1 ▸ (Below.refl _ _).alloc (Nat.le_refl _) _
            have HX := Lib.hid (show Lies W1 wr.heap.size 31 (Kdo.cs ⟨xk, xa, .slice sx xkey.length cx, xkey, .slice sy xval.length cy, xval, xn⟩).toArray from hW1 ▸ Lies.new wr _ _)
            rw [show wr.alloc (.cells #[.int .i64 xk, .int .u8 xa.x0.toNat, .int .u8 xa.x1.toNat, .int .u8 xa.x2.toNat, .int .u8 xa.x3.toNat, .int .u8 xa.x4.toNat, .int .u8 xa.x5.toNat, .int .u8 xa.x6.toNat, .int .u8 xa.x7.toNat, .slice sx xkey.length cx, .slice sy xval.length cy, .int .i64 xn] 31) = W1 from hW1.symm]
            have HT1 := Lib.hid (HT.out.later hb1)
            have H11 := Lib.hid (H1.out.below hb1 H1.out.lt)
            have H21 := Lib.hid (H2.out.below hb1 H2.out.lt)
            clear hW1 hb1 HT H1 H2 HD hnl1 hnl2 a0 a1 a2 a3 a4 a5 a6 a7
            generalize wr.heap.size = dx at HX ⊢
            have HDX := Lib.hid (fun (j : Nat) (c : Value) (hj : (Kdo.cs ⟨xk, xa, .slice sx xkey.length cx, xkey, .slice sy xval.length cy, xval, xn⟩)[j]? = some c) => show W1.cell? ⟨dx, 0 + j, none⟩ = some c from by rw [Nat.zero_add, HX.out.cell]; simpa using hj)
            obtain ⟨a0, a1, a2, a3, a4, a5, a6, a7⟩ := lies_addr H11.out
            simp only [kA] at a0 a1 a2 a3 a4 a5 a6 a7
            go_wp2_with (refine wk_load ⟨xk, xa, .slice sx xkey.length cx, xkey, .slice sy xval.length cy, xval, xn⟩ dx 0 HDX.out _ rfl rfl rfl ?_; simp only [Kdo.cs, Act.put, List.setIfInBounds_toArray, List.set_cons_zero, List.set_cons_succ])
            have hho : ∀ i, W1.heap.size ≤ i → (o1 i ∨ W1.heap.size ≤ i) := fun i hi => Or.inr hi
            have hc := call_any (HT1.out.s1.mono (own2 := fun i => o1 i ∨ W1.heap.size ≤ i) (fun i _ hi => Or.inl hi)) hho HBD.out ⟨xk, xa, .slice sx xkey.length cx, xkey, .slice sy xval.length cy, xval, xn⟩ (HBK.out.later HT1.out.below) (HBV.out.later HT1.out.below) hlk kA
            replace hc := Lib.hid hc
            refine hc.out.mono ?_
            rintro en w6 ⟨rfl, hs, hf⟩
            have HT6 := Lib.hid (HT1.out.on1 hs hf)
            have hno : ∀ i, i < n0 → ¬ (o1 i ∨ W1.heap.size ≤ i) := fun i hi e => by
              rcases e with e | e
              · have := (HT1.out.lt i (Or.inl e)).2; omega
              · have := HT1.out.base; omega
            have H16 := Lib.hid (lies_fr H11.out hf (hno n1 hn1))
            have H26 := Lib.hid (lies_fr H21.out hf (hno n2 hn2))
            have HB6 := Lib.hid (HBD.out.stp kA ⟨xk, xa, .slice sx xkey.length cx, xkey, .slice sy xval.length cy, xval, xn⟩)
            clear hc hs hf hno hho HT1 H11 H21 HX HDX a0 a1 a2 a3 a4 a5 a6 a7
            go_wp2_with fail
            go_roundw
            case rel => exact ⟨j + 1, by omega, by go_num, ⟨_, _, _, by rw [HTK.out, runs_snoc]; exact HT6.out⟩, by rw [HTK.out, runs_snoc]; exact HB6.out, H16.out, H26.out⟩
            case measure => simp [intOf]; omega
        · obtain rfl : j = A.length := by omega
          rw [List.take_length] at HT HBD
          clear hj hlt
          have HBA0 := Lib.hid HBD.out
          clear HBD
          have HT0 := Lib.hid (show ∃ (o1 o2 o3 : Nat → Prop), Tri n0 W wr o1 o2 o3 b1 b2 b3 (runs kA A) (runs kB (B.take 0)) St.nil from ⟨_, _, _, HT.out⟩)
          clear HT
          have HT := Lib.hid HT0.out
          clear HT0
          go_wp2_with fail
          go_loopw [47] (fun i wr => ∃ j : Nat, j ≤ B.length ∧ i = .int .i64 j ∧ (∃ (o1 o2 o3 : Nat → Prop), Tri n0 W wr o1 o2 o3 b1 b2 b3 (runs kA A) (runs kB (B.take j)) St.nil) ∧ Bd j (runs kB (B.take j)) ∧ Lies wr n1 24 kA.cs.toArray ∧ Lies wr n2 24 kB.cs.toArray)
            (fun i _ => B.length - (intOf i).toNat)
          case atStart => exact ⟨0, by omega, rfl, HT.out, Bd.nil, H1.out, H2.out⟩
          case round =>
            clear HT H1 H2
            obtain ⟨j, hj, rfl, ⟨o1, o2, o3, hT⟩, hB, h1, h2⟩ := hrel
            have HT := Lib.hid hT
            have HBD := Lib.hid hB
            have H1 := Lib.hid h1
            have H2 := Lib.hid h2
            clear hT hB h1 h2
            by_cases hlt : j < B.length
            · as_aux_lemma =>
                obtain ⟨x, hx⟩ : ∃ x, B[j]? = some x := ⟨_, List.getElem?_eq_getElem hlt⟩
                obtain ⟨b, off, rfl, hbl, hat⟩ := HSB.out (by intro e; simp [e] at hlt)
                obtain ⟨⟨hby, _⟩, ⟨hby2, _⟩⟩ := HBB.out x (List.mem_of_getElem? hx)
                obtain ⟨hlk, _⟩ := HLB.out x (List.mem_of_getElem? hx)
                have hd := (hat j x hx).below HT.out.below hbl
                have HTK := Lib.hid (show B.take (j + 1) = B.take j ++ [x] from by rw [List.take_add_one, hx]; rfl)
                clear hat hx
                obtain ⟨xk, xa, xkv, xkey, xvv, xval, xn⟩ := x
                obtain ⟨sx, cx, hvx⟩ : ∃ sx cx, xkv = .slice sx xkey.length cx := by obtain ⟨s, c, e, _⟩ := hby; exact ⟨s, c, e⟩
                obtain ⟨sy, cy, hvy⟩ : ∃ sx cx, xvv = .slice sx xval.length cx := by obtain ⟨s, c, e, _⟩ := hby2; exact ⟨s, c, e⟩
                subst hvx hvy
                replace hlk : xkey.length ≤ 30000 := hlk
                have HD := Lib.hid hd
                have HBK := Lib.hid (show Byt W (.slice sx xkey.length cx) xkey from hby)
                have HBV := Lib.hid (show Byt W (.slice sy xval.length cy) xval from hby2)
                clear hd hby hby2
                have hnl1 : n1 < wr.heap.size := H1.out.lt
                have hnl2 : n2 < wr.heap.size := H2.out.lt
                obtain ⟨a0, a1, a2, a3, a4, a5, a6, a7⟩ := lies_addr H2.out
                simp only [kB] at a0 a1 a2 a3 a4 a5 a6 a7
                go_upto_region 15 with fail
                go_upto_region 16 with (first | (refine wk_load _ _ _ HD.out _ rfl rfl rfl ?_; simp only [Kdo.cs, Act.put, List.setIfInBounds_toArray, List.set_cons_zero, List.set_cons_succ]) | (refine wk_store ⟨xk, xa, .slice sx xkey.length cx, xkey, .slice sy xval.length cy, xval, xn⟩ rfl rfl _ _ rfl rfl rfl rfl rfl ?_; simp only [Kdo.cs, Act.put]))
                obtain ⟨W1, hW1⟩ : ∃ W1, W1 = wr.alloc (.cells (Kdo.cs ⟨xk, xa, .slice sx xkey.length cx, xkey, .slice sy xval.length cy, xval, xn⟩).toArray 31) := ⟨_, rfl⟩
                have hb1 : Below wr.heap.size wr W1 := hW1 ▸ (Below.refl _ _).alloc (Nat.le_refl _) _
                have HX := Lib.hid (show Lies W1 wr.heap.size 31 (Kdo.cs ⟨xk, xa, .slice sx xkey.length cx, xkey, .slice sy xval.length cy, xval, xn⟩).toArray from hW1 ▸ Lies.new wr _ _)
                rw [show wr.alloc (.cells #[.int .i64 xk, .int .u8 xa.x0.toNat, .int .u8 xa.x1.toNat, .int .u8 xa.x2.toNat, .int .u8 xa.x3.toNat, .int .u8 xa.x4.toNat, .int .u8 xa.x5.toNat, .int .u8 xa.x6.toNat, .int .u8 xa.x7.toNat, .slice sx xkey.length cx, .slice sy xval.length cy, .int .i64 xn] 31) = W1 from hW1.symm]
                have HT1 := Lib.hid (HT.out.later hb1)
                have H11 := Lib.hid (H1.out.below hb1 H1.out.lt)
                have H21 := Lib.hid (H2.out.below hb1 H2.out.lt)
                clear hW1 hb1 HT H1 H2 HD hnl1 hnl2 a0 a1 a2 a3 a4 a5 a6 a7
                generalize wr.heap.size = dx at HX ⊢
                have HDX := Lib.hid (fun (j : Nat) (c : Value) (hj : (Kdo.cs ⟨xk, xa, .slice sx xkey.length cx, xkey, .slice sy xval.length cy, xval, xn⟩)[j]? = some c) => show W1.cell? ⟨dx, 0 + j, none⟩ = some c from by rw [Nat.zero_add, HX.out.cell]; simpa using hj)
                obtain ⟨a0, a1, a2, a3, a4, a5, a6, a7⟩ := lies_addr H21.out
                simp only [kB] at a0 a1 a2 a3 a4 a5 a6 a7
                go_wp2_with (refine wk_load ⟨xk, xa, .slice sx xkey.length cx, xkey, .slice sy xval.length cy, xval, xn⟩ dx 0 HDX.out _ rfl rfl rfl ?_; simp only [Kdo.cs, Act.put, List.setIfInBounds_toArray, List.set_cons_zero, List.set_cons_succ])
                have hho : ∀ i, W1.heap.size ≤ i → (o2 i ∨ W1.heap.size ≤ i) := fun i hi => Or.inr hi
                have hc := call_any (HT1.out.s2.mono (own2 := fun i => o2 i ∨ W1.heap.size ≤ i) (fun i _ hi => Or.inl hi)) hho HBD.out ⟨xk, xa, .slice sx xkey.length cx, xkey, .slice sy xval.length cy, xval, xn⟩ (HBK.out.later HT1.out.below) (HBV.out.later HT1.out.below) hlk kB
                replace hc := Lib.hid hc
                refine hc.out.mono ?_
                rintro en w6 ⟨rfl, hs, hf⟩
                have HT6 := Lib.hid (HT1.out.on2 hs hf)
                have hno : ∀ i, i < n0 → ¬ (o2 i ∨ W1.heap.size ≤ i) := fun i hi e => by
                  rcases e with e | e
                  · have := (HT1.out.lt i (Or.inr (Or.inl e))).2; omega
                  · have := HT1.out.base; omega
                have H16 := Lib.hid (lies_fr H11.out hf (hno n1 hn1))
                have H26 := Lib.hid (lies_fr H21.out hf (hno n2 hn2))
                have HB6 := Lib.hid (HBD.out.stp kB ⟨xk, xa, .slice sx xkey.length cx, xkey, .slice sy xval.length cy, xval, xn⟩)
                clear hc hs hf hno hho HT1 H11 H21 HX HDX a0 a1 a2 a3 a4 a5 a6 a7
                go_wp2_with fail
                go_roundw
                case rel => exact ⟨j + 1, by omega, by go_num, ⟨_, _, _, by rw [HTK.out, runs_snoc]; exact HT6.out⟩, by rw [HTK.out, runs_snoc]; exact HB6.out, H16.out, H26.out⟩
                case measure => simp [intOf]; omega
            · obtain rfl : j = B.length := by omega
              rw [List.take_length] at HT HBD
              clear hj hlt
              have HBB0 := Lib.hid HBD.out
              clear HBD
              have HT0 := Lib.hid (show ∃ (o1 o2 o3 : Nat → Prop), Tri n0 W wr o1 o2 o3 b1 b2 b3 (runs kA A) (runs kB B) St.nil from ⟨_, _, _, HT.out⟩)
              clear HT
              go_wp2_with fail
              go_loopw [17, 18] (fun iv kv wr => ∃ (i k : Nat) (g3 : St), i ≤ A.length ∧ k ≤ B.length ∧ iv = .int .i64 i ∧ kv = .int .i64 k ∧ (∃ (o1 o2 o3 : Nat → Prop), Tri n0 W wr o1 o2 o3 b1 b2 b3 (runs kA A) (runs kB B) g3) ∧ Bd (i + k) g3 ∧ (∀ q, g3 kA q = runs kA (A.take i) kA q) ∧ (∀ q, g3 kB q = runs kB (B.take k) kB q) ∧ Lies wr n1 24 kA.cs.toArray ∧ Lies wr n2 24 kB.cs.toArray)
                (fun iv kv _ => (A.length - (intOf iv).toNat) + (B.length - (intOf kv).toNat))
              case atStart => exact ⟨0, 0, St.nil, by omega, by omega, rfl, rfl, HT0.out, Bd.nil, fun q => rfl, fun q => rfl, H1.out, H2.out⟩
              case round =>
                clear HT0 H1 H2
                obtain ⟨i, k, g3, hi, hk, rfl, rfl, ⟨o1, o2, o3, hT⟩, hB, hEA, hEB, h1, h2⟩ := hrel
                have HT := Lib.hid hT
                have HBD := Lib.hid hB
                have HEA := Lib.hid hEA
                have HEB := Lib.hid hEB
                have H1 := Lib.hid h1
                have H2 := Lib.hid h2
                clear hT hB hEA hEB h1 h2
                by_cases hlt2 : k < B.length
                · by_cases hlt1 : i < A.length
                  · by_cases htn : i + k < nt
                    · obtain ⟨bt, ot, rfl, hbt, htc⟩ := HST.out (by omega)
                      obtain ⟨fb, hfb⟩ := htc (i + k) htn
                      have hfc := (HT.out.below.cell (p := ⟨bt, ot + (i + k), none⟩) hbt).trans hfb
                      clear htc hfb
                      cases fb with
                      | true =>
                        as_aux_lemma =>
                          obtain ⟨x, hx⟩ : ∃ x, A[i]? = some x := ⟨_, List.getElem?_eq_getElem hlt1⟩
                          obtain ⟨b, off, rfl, hbl, hat⟩ := HSA.out (by intro e; simp [e] at hlt1)
                          obtain ⟨⟨hby, _⟩, ⟨hby2, _⟩⟩ := HBA.out x (List.mem_of_getElem? hx)
                          obtain ⟨hlk, _⟩ := HLA.out x (List.mem_of_getElem? hx)
                          have hd := (hat i x hx).below HT.out.below hbl
                          have HTK := Lib.hid (show A.take (i + 1) = A.take i ++ [x] from by rw [List.take_add_one, hx]; rfl)
                          have hd0 := hat i x hx
                          clear hat hx
                          obtain ⟨xk, xa, xkv, xkey, xvv, xval, xn⟩ := x
                          obtain ⟨sx, cx, hvx⟩ : ∃ sx cx, xkv = .slice sx xkey.length cx := by obtain ⟨s, c, e, _⟩ := hby; exact ⟨s, c, e⟩
                          obtain ⟨sy, cy, hvy⟩ : ∃ sx cx, xvv = .slice sx xval.length cx := by obtain ⟨s, c, e, _⟩ := hby2; exact ⟨s, c, e⟩
                          subst hvx hvy
                          replace hlk : xkey.length ≤ 30000 := hlk
                          have HD := Lib.hid hd
                          have HD0 := Lib.hid hd0
                          have HBK := Lib.hid (show Byt W (.slice sx xkey.length cx) xkey from hby)
                          have HBV := Lib.hid (show Byt W (.slice sy xval.length cy) xval from hby2)
                          clear hd hd0 hby hby2
                          go_wp2_with fail
                          refine RP.region (RP.take 0 (RP.take 1 (RP.take 2 (RP.take 3 (RP.take 4 (RP.take 5 (RP.take 6 (RP.run 7 RP.done)))))))) (fun w' => KdoAt w' b (off + i * 12) ⟨xk, xa, .slice sx xkey.length cx, xkey, .slice sy xval.length cy, xval, xn⟩ ∧ Lies w' n1 24 kA.cs.toArray) (by as_aux_lemma => kernel_rfl) (by as_aux_lemma => kernel_rfl) (fun _ _ d _ _ h => by cases d <;> exact h) ⟨HD.out.below (Below.refl wr.heap.size wr).drew (Nat.lt_of_lt_of_le hbl HT.out.below.size), H1.out.drew⟩ (fun hS => ?_)
                          have hbd := (Below.refl wr.heap.size wr).drew
                          have HT1 := Lib.hid (HT.out.later hbd)
                          have H11 := Lib.hid (H1.out.below hbd H1.out.lt)
                          have H21 := Lib.hid (H2.out.below hbd H2.out.lt)
                          generalize wr.drew = W1 at hS HT1 H11 H21 ⊢
                          clear hbd HT H1 H2
                          iterate 5 (first | (refine RP.t_take (v := ?_) rfl rfl (fun w' hw' => ?_) ?_; rotate_left; (focus ((obtain ⟨a0, a1, a2, a3, a4, a5, a6, a7⟩ := lies_addr hw'.2; simp only [kA] at a0 a1 a2 a3 a4 a5 a6 a7); go_simp; (try go_bits); (try (with_reducible rfl)))); (try simp only [Act.put, List.setIfInBounds_toArray, List.set_cons_zero, List.set_cons_succ])) | (refine RP.t_skip rfl rfl ?_; (try simp only [Act.put, List.setIfInBounds_toArray, List.set_cons_zero, List.set_cons_succ])))
                          refine RP.t_take (v := .agg (Kdo.cs ⟨xk, xa, .slice sx xkey.length cx, xkey, .slice sy xval.length cy, xval, xn⟩).toArray) rfl rfl (fun w' hw' => exec_loadK ⟨xk, xa, .slice sx xkey.length cx, xkey, .slice sy xval.length cy, xval, xn⟩ _ _ hw'.1 _ rfl rfl) ?_
                          (try simp only [Kdo.cs, Act.put, List.setIfInBounds_toArray, List.set_cons_zero, List.set_cons_succ])
                          repeat (first | (refine RP.t_take (v := ?_) rfl rfl (fun w' hw' => ?_) ?_; rotate_left; (focus ((obtain ⟨a0, a1, a2, a3, a4, a5, a6, a7⟩ := lies_addr hw'.2; simp only [kA] at a0 a1 a2 a3 a4 a5 a6 a7); go_simp; (try go_bits); (try (with_reducible rfl)))); (try simp only [Act.put, List.setIfInBounds_toArray, List.set_cons_zero, List.set_cons_succ])) | (refine RP.t_skip rfl rfl ?_; (try simp only [Act.put, List.setIfInBounds_toArray, List.set_cons_zero, List.set_cons_succ])))
                          refine RP.t_run rfl (fun KK hKK => ?_)
                          go_simp
                          have hho : ∀ i, W1.heap.size ≤ i → (o3 i ∨ W1.heap.size ≤ i) := fun i hi => Or.inr hi
                          have hc := call_any (HT1.out.s3.mono (own2 := fun i => o3 i ∨ W1.heap.size ≤ i) (fun i _ hi => Or.inl hi)) hho HBD.out ⟨xk, xa, .slice sx xkey.length cx, xkey, .slice sy xval.length cy, xval, xn⟩ (HBK.out.later HT1.out.below) (HBV.out.later HT1.out.below) hlk kA
                          replace hc := Lib.hid hc
                          refine hc.out.mono ?_
                          rintro en w6 ⟨rfl, hs, hf⟩
                          have HT6 := Lib.hid (HT1.out.on3 hs hf)
                          have hno : ∀ i, i < n0 → ¬ (o3 i ∨ W1.heap.size ≤ i) := fun i hi e => by
                            rcases e with e | e
                            · have := (HT1.out.lt i (Or.inr (Or.inr e))).2; omega
                            · have := HT1.out.base; omega
                          have H16 := Lib.hid (lies_fr H11.out hf (hno n1 hn1))
                          have H26 := Lib.hid (lies_fr H21.out hf (hno n2 hn2))
                          have HB6 := Lib.hid (HBD.out.stp kA ⟨xk, xa, .slice sx xkey.length cx, xkey, .slice sy xval.length cy, xval, xn⟩)
                          have hbl6 : b < W.heap.size := hbl
                          have hdat : KdoAt w6 b (off + i * 12) ⟨xk, xa, .slice sx xkey.length cx, xkey, .slice sy xval.length cy, xval, xn⟩ := HD0.out.below HT6.out.below hbl
                          refine hKK.out _ _ ⟨hdat, H16.out⟩ ?_
                          clear hKK KK hc hs hf hno hho HT1 H11 H21 hS hdat hbl6
                          (try simp only [Act.put, List.setIfInBounds_toArray, List.set_cons_zero, List.set_cons_succ])
                          refine RP.t_done ?_
                          go_wp2_with fail
                          go_roundw
                          case rel => exact ⟨i + 1, k, stp kA g3 ⟨xk, xa, .slice sx xkey.length cx, xkey, .slice sy xval.length cy, xval, xn⟩, by omega, by omega, by go_num, by go_num, ⟨_, _, _, HT6.out⟩, HB6.out.mono (by omega), (fun q => by rw [HTK.out, runs_snoc]; exact stp_at _ HEA.out q), (fun q => (stp_other (by decide) _ _ _).trans (HEB.out q)), H16.out, H26.out⟩
                          case measure => simp [intOf]; omega
                      | false =>
                        as_aux_lemma =>
                          obtain ⟨x, hx⟩ : ∃ x, B[k]? = some x := ⟨_, List.getElem?_eq_getElem hlt2⟩
                          obtain ⟨b, off, rfl, hbl, hat⟩ := HSB.out (by intro e; simp [e] at hlt2)
                          obtain ⟨⟨hby, _⟩, ⟨hby2, _⟩⟩ := HBB.out x (List.mem_of_getElem? hx)
                          obtain ⟨hlk, _⟩ := HLB.out x (List.mem_of_getElem? hx)
                          have hd := (hat k x hx).below HT.out.below hbl
                          have HTK := Lib.hid (show B.take (k + 1) = B.take k ++ [x] from by rw [List.take_add_one, hx]; rfl)
                          have hd0 := hat k x hx
                          clear hat hx
                          obtain ⟨xk, xa, xkv, xkey, xvv, xval, xn⟩ := x
                          obtain ⟨sx, cx, hvx⟩ : ∃ sx cx, xkv = .slice sx xkey.length cx := by obtain ⟨s, c, e, _⟩ := hby; exact ⟨s, c, e⟩
                          obtain ⟨sy, cy, hvy⟩ : ∃ sx cx, xvv = .slice sx xval.length cx := by obtain ⟨s, c, e, _⟩ := hby2; exact ⟨s, c, e⟩
                          subst hvx hvy
                          replace hlk : xkey.length ≤ 30000 := hlk
                          have HD := Lib.hid hd
                          have HD0 := Lib.hid hd0
                          have HBK := Lib.hid (show Byt W (.slice sx xkey.length cx) xkey from hby)
                          have HBV := Lib.hid (show Byt W (.slice sy xval.length cy) xval from hby2)
                          clear hd hd0 hby hby2
                          go_wp2_with fail
                          refine RP.region (RP.take 0 (RP.take 1 (RP.take 2 (RP.take 3 (RP.take 4 (RP.take 5 (RP.take 6 (RP.run 7 RP.done)))))))) (fun w' => KdoAt w' b (off + k * 12) ⟨xk, xa, .slice sx xkey.length cx, xkey, .slice sy xval.length cy, xval, xn⟩ ∧ Lies w' n2 24 kB.cs.toArray) (by as_aux_lemma => kernel_rfl) (by as_aux_lemma => kernel_rfl) (fun _ _ d _ _ h => by cases d <;> exact h) ⟨HD.out.below (Below.refl wr.heap.size wr).drew (Nat.lt_of_lt_of_le hbl HT.out.below.size), H2.out.drew⟩ (fun hS => ?_)
                          have hbd := (Below.refl wr.heap.size wr).drew
                          have HT1 := Lib.hid (HT.out.later hbd)
                          have H11 := Lib.hid (H1.out.below hbd H1.out.lt)
                          have H21 := Lib.hid (H2.out.below hbd H2.out.lt)
                          generalize wr.drew = W1 at hS HT1 H11 H21 ⊢
                          clear hbd HT H1 H2
                          iterate 5 (first | (refine RP.t_take (v := ?_) rfl rfl (fun w' hw' => ?_) ?_; rotate_left; (focus ((obtain ⟨a0, a1, a2, a3, a4, a5, a6, a7⟩ := lies_addr hw'.2; simp only [kB] at a0 a1 a2 a3 a4 a5 a6 a7); go_simp; (try go_bits); (try (with_reducible rfl)))); (try simp only [Act.put, List.setIfInBounds_toArray, List.set_cons_zero, List.set_cons_succ])) | (refine RP.t_skip rfl rfl ?_; (try simp only [Act.put, List.setIfInBounds_toArray, List.set_cons_zero, List.set_cons_succ])))
                          refine RP.t_take (v := .agg (Kdo.cs ⟨xk, xa, .slice sx xkey.length cx, xkey, .slice sy xval.length cy, xval, xn⟩).toArray) rfl rfl (fun w' hw' => exec_loadK ⟨xk, xa, .slice sx xkey.length cx, xkey, .slice sy xval.length cy, xval, xn⟩ _ _ hw'.1 _ rfl rfl) ?_
                          (try simp only [Kdo.cs, Act.put, List.setIfInBounds_toArray, List.set_cons_zero, List.set_cons_succ])
                          repeat (first | (refine RP.t_take (v := ?_) rfl rfl (fun w' hw' => ?_) ?_; rotate_left; (focus ((obtain ⟨a0, a1, a2, a3, a4, a5, a6, a7⟩ := lies_addr hw'.2; simp only [kB] at a0 a1 a2 a3 a4 a5 a6 a7); go_simp; (try go_bits); (try (with_reducible rfl)))); (try simp only [Act.put, List.setIfInBounds_toArray, List.set_cons_zero, List.set_cons_succ])) | (refine RP.t_skip rfl rfl ?_; (try simp only [Act.put, List.setIfInBounds_toArray, List.set_cons_zero, List.set_cons_succ])))
                          refine RP.t_run rfl (fun KK hKK => ?_)
                          go_simp
                          have hho : ∀ i, W1.heap.size ≤ i → (o3 i ∨ W1.heap.size ≤ i) := fun i hi => Or.inr hi
                          have hc := call_any (HT1.out.s3.mono (own2 := fun i => o3 i ∨ W1.heap.size ≤ i) (fun i _ hi => Or.inl hi)) hho HBD.out ⟨xk, xa, .slice sx xkey.length cx, xkey, .slice sy xval.length cy, xval, xn⟩ (HBK.out.later HT1.out.below) (HBV.out.later HT1.out.below) hlk kB
                          replace hc := Lib.hid hc
                          refine hc.out.mono ?_
                          rintro en w6 ⟨rfl, hs, hf⟩
                          have HT6 := Lib.hid (HT1.out.on3 hs hf)
                          have hno : ∀ i, i < n0 → ¬ (o3 i ∨ W1.heap.size ≤ i) := fun i hi e => by
                            rcases e with e | e
                            · have := (HT1.out.lt i (Or.inr (Or.inr e))).2; omega
                            · have := HT1.out.base; omega
                          have H16 := Lib.hid (lies_fr H11.out hf (hno n1 hn1))
                          have H26 := Lib.hid (lies_fr H21.out hf (hno n2 hn2))
                          have HB6 := Lib.hid (HBD.out.stp kB ⟨xk, xa, .slice sx xkey.length cx, xkey, .slice sy xval.length cy, xval, xn⟩)
                          have hbl6 : b < W.heap.size := hbl
                          have hdat : KdoAt w6 b (off + k * 12) ⟨xk, xa, .slice sx xkey.length cx, xkey, .slice sy xval.length cy, xval, xn⟩ := HD0.out.below HT6.out.below hbl
                          refine hKK.out _ _ ⟨hdat, H26.out⟩ ?_
                          clear hKK KK hc hs hf hno hho HT1 H11 H21 hS hdat hbl6
                          (try simp only [Act.put, List.setIfInBounds_toArray, List.set_cons_zero, List.set_cons_succ])
                          refine RP.t_done ?_
                          go_wp2_with fail
                          go_roundw
                          case rel => exact ⟨i, k + 1, stp kB g3 ⟨xk, xa, .slice sx xkey.length cx, xkey, .slice sy xval.length cy, xval, xn⟩, by omega, by omega, by go_num, by go_num, ⟨_, _, _, HT6.out⟩, HB6.out.mono (by omega), (fun q => (stp_other (by decide) _ _ _).trans (HEA.out q)), (fun q => by rw [HTK.out, runs_snoc]; exact stp_at _ HEB.out q), H16.out, H26.out⟩
                          case measure => simp [intOf]; omega
                    · as_aux_lemma =>
                      obtain ⟨x, hx⟩ : ∃ x, B[k]? = some x := ⟨_, List.getElem?_eq_getElem hlt2⟩
                      obtain ⟨b, off, rfl, hbl, hat⟩ := HSB.out (by intro e; simp [e] at hlt2)
                      obtain ⟨⟨hby, _⟩, ⟨hby2, _⟩⟩ := HBB.out x (List.mem_of_getElem? hx)
                      obtain ⟨hlk, _⟩ := HLB.out x (List.mem_of_getElem? hx)
                      have hd := (hat k x hx).below HT.out.below hbl
                      have HTK := Lib.hid (show B.take (k + 1) = B.take k ++ [x] from by rw [List.take_add_one, hx]; rfl)
                      have hd0 := hat k x hx
                      clear hat hx
                      obtain ⟨xk, xa, xkv, xkey, xvv, xval, xn⟩ := x
                      obtain ⟨sx, cx, hvx⟩ : ∃ sx cx, xkv = .slice sx xkey.length cx := by obtain ⟨s, c, e, _⟩ := hby; exact ⟨s, c, e⟩
                      obtain ⟨sy, cy, hvy⟩ : ∃ sx cx, xvv = .slice sx xval.length cx := by obtain ⟨s, c, e, _⟩ := hby2; exact ⟨s, c, e⟩
                      subst hvx hvy
                      replace hlk : xkey.length ≤ 30000 := hlk
                      have HD := Lib.hid hd
                      have HD0 := Lib.hid hd0
                      have HBK := Lib.hid (show Byt W (.slice sx xkey.length cx) xkey from hby)
                      have HBV := Lib.hid (show Byt W (.slice sy xval.length cy) xval from hby2)
                      clear hd hd0 hby hby2
                      go_wp2_with fail
                      refine RP.region (RP.take 0 (RP.take 1 (RP.take 2 (RP.take 3 (RP.take 4 (RP.take 5 (RP.take 6 (RP.run 7 RP.done)))))))) (fun w' => KdoAt w' b (off + k * 12) ⟨xk, xa, .slice sx xkey.length cx, xkey, .slice sy xval.length cy, xval, xn⟩ ∧ Lies w' n2 24 kB.cs.toArray) (by as_aux_lemma => kernel_rfl) (by as_aux_lemma => kernel_rfl) (fun _ _ d _ _ h => by cases d <;> exact h) ⟨HD.out.below (Below.refl wr.heap.size wr).drew (Nat.lt_of_lt_of_le hbl HT.out.below.size), H2.out.drew⟩ (fun hS => ?_)
                      have hbd := (Below.refl wr.heap.size wr).drew
                      have HT1 := Lib.hid (HT.out.later hbd)
                      have H11 := Lib.hid (H1.out.below hbd H1.out.lt)
                      have H21 := Lib.hid (H2.out.below hbd H2.out.lt)
                      generalize wr.drew = W1 at hS HT1 H11 H21 ⊢
                      clear hbd HT H1 H2
                      iterate 5 (first | (refine RP.t_take (v := ?_) rfl rfl (fun w' hw' => ?_) ?_; rotate_left; (focus ((obtain ⟨a0, a1, a2, a3, a4, a5, a6, a7⟩ := lies_addr hw'.2; simp only [kB] at a0 a1 a2 a3 a4 a5 a6 a7); go_simp; (try go_bits); (try (with_reducible rfl)))); (try simp only [Act.put, List.setIfInBounds_toArray, List.set_cons_zero, List.set_cons_succ])) | (refine RP.t_skip rfl rfl ?_; (try simp only [Act.put, List.setIfInBounds_toArray, List.set_cons_zero, List.set_cons_succ])))
                      refine RP.t_take (v := .agg (Kdo.cs ⟨xk, xa, .slice sx xkey.length cx, xkey, .slice sy xval.length cy, xval, xn⟩).toArray) rfl rfl (fun w' hw' => exec_loadK ⟨xk, xa, .slice sx xkey.length cx, xkey, .slice sy xval.length cy, xval, xn⟩ _ _ hw'.1 _ rfl rfl) ?_
                      (try simp only [Kdo.cs, Act.put, List.setIfInBounds_toArray, List.set_cons_zero, List.set_cons_succ])
                      repeat (first | (refine RP.t_take (v := ?_) rfl rfl (fun w' hw' => ?_) ?_; rotate_left; (focus ((obtain ⟨a0, a1, a2, a3, a4, a5, a6, a7⟩ := lies_addr hw'.2; simp only [kB] at a0 a1 a2 a3 a4 a5 a6 a7); go_simp; (try go_bits); (try (with_reducible rfl)))); (try simp only [Act.put, List.setIfInBounds_toArray, List.set_cons_zero, List.set_cons_succ])) | (refine RP.t_skip rfl rfl ?_; (try simp only [Act.put, List.setIfInBounds_toArray, List.set_cons_zero, List.set_cons_succ])))
                      refine RP.t_run rfl (fun KK hKK => ?_)
                      go_simp
                      have hho : ∀ i, W1.heap.size ≤ i → (o3 i ∨ W1.heap.size ≤ i) := fun i hi => Or.inr hi
                      have hc := call_any (HT1.out.s3.mono (own2 := fun i => o3 i ∨ W1.heap.size ≤ i) (fun i _ hi => Or.inl hi)) hho HBD.out ⟨xk, xa, .slice sx xkey.length cx, xkey, .slice sy xval.length cy, xval, xn⟩ (HBK.out.later HT1.out.below) (HBV.out.later HT1.out.below) hlk kB
                      replace hc := Lib.hid hc
                      refine hc.out.mono ?_
                      rintro en w6 ⟨rfl, hs, hf⟩
                      have HT6 := Lib.hid (HT1.out.on3 hs hf)
                      have hno : ∀ i, i < n0 → ¬ (o3 i ∨ W1.heap.size ≤ i) := fun i hi e => by
                        rcases e with e | e
                        · have := (HT1.out.lt i (Or.inr (Or.inr e))).2; omega
                        · have := HT1.out.base; omega
                      have H16 := Lib.hid (lies_fr H11.out hf (hno n1 hn1))
                      have H26 := Lib.hid (lies_fr H21.out hf (hno n2 hn2))
                      have HB6 := Lib.hid (HBD.out.stp kB ⟨xk, xa, .slice sx xkey.length cx, xkey, .slice sy xval.length cy, xval, xn⟩)
                      have hbl6 : b < W.heap.size := hbl
                      have hdat : KdoAt w6 b (off + k * 12) ⟨xk, xa, .slice sx xkey.length cx, xkey, .slice sy xval.length cy, xval, xn⟩ := HD0.out.below HT6.out.below hbl
                      refine hKK.out _ _ ⟨hdat, H26.out⟩ ?_
                      clear hKK KK hc hs hf hno hho HT1 H11 H21 hS hdat hbl6
                      (try simp only [Act.put, List.setIfInBounds_toArray, List.set_cons_zero, List.set_cons_succ])
                      refine RP.t_done ?_
                      go_wp2_with fail
                      go_roundw
                      case rel => exact ⟨i, k + 1, stp kB g3 ⟨xk, xa, .slice sx xkey.length cx, xkey, .slice sy xval.length cy, xval, xn⟩, by omega, by omega, by go_num, by go_num, ⟨_, _, _, HT6.out⟩, HB6.out.mono (by omega), (fun q => (stp_other (by decide) _ _ _).trans (HEA.out q)), (fun q => by rw [HTK.out, runs_snoc]; exact stp_at _ HEB.out q), H16.out, H26.out⟩
                      case measure => simp [intOf]; omega
                  · as_aux_lemma =>
                    obtain ⟨x, hx⟩ : ∃ x, B[k]? = some x := ⟨_, List.getElem?_eq_getElem hlt2⟩
                    obtain ⟨b, off, rfl, hbl, hat⟩ := HSB.out (by intro e; simp [e] at hlt2)
                    obtain ⟨⟨hby, _⟩, ⟨hby2, _⟩⟩ := HBB.out x (List.mem_of_getElem? hx)
                    obtain ⟨hlk, _⟩ := HLB.out x (List.mem_of_getElem? hx)
                    have hd := (hat k x hx).below HT.out.below hbl
                    have HTK := Lib.hid (show B.take (k + 1) = B.take k ++ [x] from by rw [List.take_add_one, hx]; rfl)
                    have hd0 := hat k x hx
                    clear hat hx
                    obtain ⟨xk, xa, xkv, xkey, xvv, xval, xn⟩ := x
                    obtain ⟨sx, cx, hvx⟩ : ∃ sx cx, xkv = .slice sx xkey.length cx := by obtain ⟨s, c, e, _⟩ := hby; exact ⟨s, c, e⟩
                    obtain ⟨sy, cy, hvy⟩ : ∃ sx cx, xvv = .slice sx xval.length cx := by obtain ⟨s, c, e, _⟩ := hby2; exact ⟨s, c, e⟩
                    subst hvx hvy
                    replace hlk : xkey.length ≤ 30000 := hlk
                    have HD := Lib.hid hd
                    have HD0 := Lib.hid hd0
                    have HBK := Lib.hid (show Byt W (.slice sx xkey.length cx) xkey from hby)
                    have HBV := Lib.hid (show Byt W (.slice sy xval.length cy) xval from hby2)
                    clear hd hd0 hby hby2
                    go_wp2_with fail
                    refine RP.region (RP.take 0 (RP.take 1 (RP.take 2 (RP.take 3 (RP.take 4 (RP.take 5 (RP.take 6 (RP.run 7 RP.done)))))))) (fun w' => KdoAt w' b (off + k * 12) ⟨xk, xa, .slice sx xkey.length cx, xkey, .slice sy xval.length cy, xval, xn⟩ ∧ Lies w' n2 24 kB.cs.toArray) (by as_aux_lemma => kernel_rfl) (by as_aux_lemma => kernel_rfl) (fun _ _ d _ _ h => by cases d <;> exact h) ⟨HD.out.below (Below.refl wr.heap.size wr).drew (Nat.lt_of_lt_of_le hbl HT.out.below.size), H2.out.drew⟩ (fun hS => ?_)
                    have hbd := (Below.refl wr.heap.size wr).drew
                    have HT1 := Lib.hid (HT.out.later hbd)
                    have H11 := Lib.hid (H1.out.below hbd H1.out.lt)
                    have H21 := Lib.hid (H2.out.below hbd H2.out.lt)
                    generalize wr.drew = W1 at hS HT1 H11 H21 ⊢
                    clear hbd HT H1 H2
                    iterate 5 (first | (refine RP.t_take (v := ?_) rfl rfl (fun w' hw' => ?_) ?_; rotate_left; (focus ((obtain ⟨a0, a1, a2, a3, a4, a5, a6, a7⟩ := lies_addr hw'.2; simp only [kB] at a0 a1 a2 a3 a4 a5 a6 a7); go_simp; (try go_bits); (try (with_reducible rfl)))); (try simp only [Act.put, List.setIfInBounds_toArray, List.set_cons_zero, List.set_cons_succ])) | (refine RP.t_skip rfl rfl ?_; (try simp only [Act.put, List.setIfInBounds_toArray, List.set_cons_zero, List.set_cons_succ])))
                    refine RP.t_take (v := .agg (Kdo.cs ⟨xk, xa, .slice sx xkey.length cx, xkey, .slice sy xval.length cy, xval, xn⟩).toArray) rfl rfl (fun w' hw' => exec_loadK ⟨xk, xa, .slice sx xkey.length cx, xkey, .slice sy xval.length cy, xval, xn⟩ _ _ hw'.1 _ rfl rfl) ?_
                    (try simp only [Kdo.cs, Act.put, List.setIfInBounds_toArray, List.set_cons_zero, List.set_cons_succ])
                    repeat (first | (refine RP.t_take (v := ?_) rfl rfl (fun w' hw' => ?_) ?_; rotate_left; (focus ((obtain ⟨a0, a1, a2, a3, a4, a5, a6, a7⟩ := lies_addr hw'.2; simp only [kB] at a0 a1 a2 a3 a4 a5 a6 a7); go_simp; (try go_bits); (try (with_reducible rfl)))); (try simp only [Act.put, List.setIfInBounds_toArray, List.set_cons_zero, List.set_cons_succ])) | (refine RP.t_skip rfl rfl ?_; (try simp only [Act.put, List.setIfInBounds_toArray, List.set_cons_zero, List.set_cons_succ])))
                    refine RP.t_run rfl (fun KK hKK => ?_)
                    go_simp
                    have hho : ∀ i, W1.heap.size ≤ i → (o3 i ∨ W1.heap.size ≤ i) := fun i hi => Or.inr hi
                    have hc := call_any (HT1.out.s3.mono (own2 := fun i => o3 i ∨ W1.heap.size ≤ i) (fun i _ hi => Or.inl hi)) hho HBD.out ⟨xk, xa, .slice sx xkey.length cx, xkey, .slice sy xval.length cy, xval, xn⟩ (HBK.out.later HT1.out.below) (HBV.out.later HT1.out.below) hlk kB
                    replace hc := Lib.hid hc
                    refine hc.out.mono ?_
                    rintro en w6 ⟨rfl, hs, hf⟩
                    have HT6 := Lib.hid (HT1.out.on3 hs hf)
                    have hno : ∀ i, i < n0 → ¬ (o3 i ∨ W1.heap.size ≤ i) := fun i hi e => by
                      rcases e with e | e
                      · have := (HT1.out.lt i (Or.inr (Or.inr e))).2; omega
                      · have := HT1.out.base; omega
                    have H16 := Lib.hid (lies_fr H11.out hf (hno n1 hn1))
                    have H26 := Lib.hid (lies_fr H21.out hf (hno n2 hn2))
                    have HB6 := Lib.hid (HBD.out.stp kB ⟨xk, xa, .slice sx xkey.length cx, xkey, .slice sy xval.length cy, xval, xn⟩)
                    have hbl6 : b < W.heap.size := hbl
                    have hdat : KdoAt w6 b (off + k * 12) ⟨xk, xa, .slice sx xkey.length cx, xkey, .slice sy xval.length cy, xval, xn⟩ := HD0.out.below HT6.out.below hbl
                    refine hKK.out _ _ ⟨hdat, H26.out⟩ ?_
                    clear hKK KK hc hs hf hno hho HT1 H11 H21 hS hdat hbl6
                    (try simp only [Act.put, List.setIfInBounds_toArray, List.set_cons_zero, List.set_cons_succ])
                    refine RP.t_done ?_
                    go_wp2_with fail
                    go_roundw
                    case rel => exact ⟨i, k + 1, stp kB g3 ⟨xk, xa, .slice sx xkey.length cx, xkey, .slice sy xval.length cy, xval, xn⟩, by omega, by omega, by go_num, by go_num, ⟨_, _, _, HT6.out⟩, HB6.out.mono (by omega), (fun q => (stp_other (by decide) _ _ _).trans (HEA.out q)), (fun q => by rw [HTK.out, runs_snoc]; exact stp_at _ HEB.out q), H16.out, H26.out⟩
                    case measure => simp [intOf]; omega
                · by_cases hlt1 : i < A.length
                  · as_aux_lemma =>
                    obtain ⟨x, hx⟩ : ∃ x, A[i]? = some x := ⟨_, List.getElem?_eq_getElem hlt1⟩
                    obtain ⟨b, off, rfl, hbl, hat⟩ := HSA.out (by intro e; simp [e] at hlt1)
                    obtain ⟨⟨hby, _⟩, ⟨hby2, _⟩⟩ := HBA.out x (List.mem_of_getElem? hx)
                    obtain ⟨hlk, _⟩ := HLA.out x (List.mem_of_getElem? hx)
                    have hd := (hat i x hx).below HT.out.below hbl
                    have HTK := Lib.hid (show A.take (i + 1) = A.take i ++ [x] from by rw [List.take_add_one, hx]; rfl)
                    have hd0 := hat i x hx
                    clear hat hx
                    obtain ⟨xk, xa, xkv, xkey, xvv, xval, xn⟩ := x
                    obtain ⟨sx, cx, hvx⟩ : ∃ sx cx, xkv = .slice sx xkey.length cx := by obtain ⟨s, c, e, _⟩ := hby; exact ⟨s, c, e⟩
                    obtain ⟨sy, cy, hvy⟩ : ∃ sx cx, xvv = .slice sx xval.length cx := by obtain ⟨s, c, e, _⟩ := hby2; exact ⟨s, c, e⟩
                    subst hvx hvy
                    replace hlk : xkey.length ≤ 30000 := hlk
                    have HD := Lib.hid hd
                    have HD0 := Lib.hid hd0
                    have HBK := Lib.hid (show Byt W (.slice sx xkey.length cx) xkey from hby)
                    have HBV := Lib.hid (show Byt W (.slice sy xval.length cy) xval from hby2)
                    clear hd hd0 hby hby2
                    go_wp2_with fail
                    refine RP.region (RP.take 0 (RP.take 1 (RP.take 2 (RP.take 3 (RP.take 4 (RP.take 5 (RP.take 6 (RP.run 7 RP.done)))))))) (fun w' => KdoAt w' b (off + i * 12) ⟨xk, xa, .slice sx xkey.length cx, xkey, .slice sy xval.length cy, xval, xn⟩ ∧ Lies w' n1 24 kA.cs.toArray) (by as_aux_lemma => kernel_rfl) (by as_aux_lemma => kernel_rfl) (fun _ _ d _ _ h => by cases d <;> exact h) ⟨HD.out.below (Below.refl wr.heap.size wr).drew (Nat.lt_of_lt_of_le hbl HT.out.below.size), H1.out.drew⟩ (fun hS => ?_)
                    have hbd := (Below.refl wr.heap.size wr).drew
                    have HT1 := Lib.hid (HT.out.later hbd)
                    have H11 := Lib.hid (H1.out.below hbd H1.out.lt)
                    have H21 := Lib.hid (H2.out.below hbd H2.out.lt)
                    generalize wr.drew = W1 at hS HT1 H11 H21 ⊢
                    clear hbd HT H1 H2
                    iterate 5 (first | (refine RP.t_take (v := ?_) rfl rfl (fun w' hw' => ?_) ?_; rotate_left; (focus ((obtain ⟨a0, a1, a2, a3, a4, a5, a6, a7⟩ := lies_addr hw'.2; simp only [kA] at a0 a1 a2 a3 a4 a5 a6 a7); go_simp; (try go_bits); (try (with_reducible rfl)))); (try simp only [Act.put, List.setIfInBounds_toArray, List.set_cons_zero, List.set_cons_succ])) | (refine RP.t_skip rfl rfl ?_; (try simp only [Act.put, List.setIfInBounds_toArray, List.set_cons_zero, List.set_cons_succ])))
                    refine RP.t_take (v := .agg (Kdo.cs ⟨xk, xa, .slice sx xkey.length cx, xkey, .slice sy xval.length cy, xval, xn⟩).toArray) rfl rfl (fun w' hw' => exec_loadK ⟨xk, xa, .slice sx xkey.length cx, xkey, .slice sy xval.length cy, xval, xn⟩ _ _ hw'.1 _ rfl rfl) ?_
                    (try simp only [Kdo.cs, Act.put, List.setIfInBounds_toArray, List.set_cons_zero, List.set_cons_succ])
                    repeat (first | (refine RP.t_take (v := ?_) rfl rfl (fun w' hw' => ?_) ?_; rotate_left; (focus ((obtain ⟨a0, a1, a2, a3, a4, a5, a6, a7⟩ := lies_addr hw'.2; simp only [kA] at a0 a1 a2 a3 a4 a5 a6 a7); go_simp; (try go_bits); (try (with_reducible rfl)))); (try simp only [Act.put, List.setIfInBounds_toArray, List.set_cons_zero, List.set_cons_succ])) | (refine RP.t_skip rfl rfl ?_; (try simp only [Act.put, List.setIfInBounds_toArray, List.set_cons_zero, List.set_cons_succ])))
                    refine RP.t_run rfl (fun KK hKK => ?_)
                    go_simp
                    have hho : ∀ i, W1.heap.size ≤ i → (o3 i ∨ W1.heap.size ≤ i) := fun i hi => Or.inr hi
                    have hc := call_any (HT1.out.s3.mono (own2 := fun i => o3 i ∨ W1.heap.size ≤ i) (fun i _ hi => Or.inl hi)) hho HBD.out ⟨xk, xa, .slice sx xkey.length cx, xkey, .slice sy xval.length cy, xval, xn⟩ (HBK.out.later HT1.out.below) (HBV.out.later HT1.out.below) hlk kA
                    replace hc := Lib.hid hc
                    refine hc.out.mono ?_
                    rintro en w6 ⟨rfl, hs, hf⟩
                    have HT6 := Lib.hid (HT1.out.on3 hs hf)
                    have hno : ∀ i, i < n0 → ¬ (o3 i ∨ W1.heap.size ≤ i) := fun i hi e => by
                      rcases e with e | e
                      · have := (HT1.out.lt i (Or.inr (Or.inr e))).2; omega
                      · have := HT1.out.base; omega
                    have H16 := Lib.hid (lies_fr H11.out hf (hno n1 hn1))
                    have H26 := Lib.hid (lies_fr H21.out hf (hno n2 hn2))
                    have HB6 := Lib.hid (HBD.out.stp kA ⟨xk, xa, .slice sx xkey.length cx, xkey, .slice sy xval.length cy, xval, xn⟩)
                    have hbl6 : b < W.heap.size := hbl
                    have hdat : KdoAt w6 b (off + i * 12) ⟨xk, xa, .slice sx xkey.length cx, xkey, .slice sy xval.length cy, xval, xn⟩ := HD0.out.below HT6.out.below hbl
                    refine hKK.out _ _ ⟨hdat, H16.out⟩ ?_
                    clear hKK KK hc hs hf hno hho HT1 H11 H21 hS hdat hbl6
                    (try simp only [Act.put, List.setIfInBounds_toArray, List.set_cons_zero, List.set_cons_succ])
                    refine RP.t_done ?_
                    go_wp2_with fail
                    go_roundw
                    case rel => exact ⟨i + 1, k, stp kA g3 ⟨xk, xa, .slice sx xkey.length cx, xkey, .slice sy xval.length cy, xval, xn⟩, by omega, by omega, by go_num, by go_num, ⟨_, _, _, HT6.out⟩, HB6.out.mono (by omega), (fun q => by rw [HTK.out, runs_snoc]; exact stp_at _ HEA.out q), (fun q => (stp_other (by decide) _ _ _).trans (HEB.out q)), H16.out, H26.out⟩
                    case measure => simp [intOf]; omega
                  · obtain rfl : i = A.length := by omega
                    obtain rfl : k = B.length := by omega
                    rw [List.take_length] at HEA HEB
                    clear hi hk hlt1 hlt2
                    go_wp2_with fail
                    refine RP.region (RP.take 0 (RP.take 1 (RP.take 3 (RP.take 4 (RP.run 2 (RP.run 5 (RP.run 6 (RP.take 7 (RP.take 8 (RP.take 9 (RP.take 11 (RP.take 12 (RP.run 10 (RP.run 13 (RP.run 14 (RP.take 15 (RP.take 16 (RP.take 17 (RP.take 18 (RP.take 21 (RP.take 22 (RP.run 19 (RP.take 20 (RP.run 23 (RP.take 24 (RP.take 25 (RP.take 26 (RP.take 27 (RP.take 28 RP.done))))))))))))))))))))))))))))) (fun w' => Lies w' n1 24 kA.cs.toArray ∧ Lies w' n2 24 kB.cs.toArray) (by as_aux_lemma => kernel_rfl) (by as_aux_lemma => kernel_rfl) (fun _ _ d _ _ h => by cases d <;> exact h) ⟨H1.out.drew, H2.out.drew⟩ (fun hS => ?_)
                    replace HT := Lib.hid (HT.out.later (Below.refl wr.heap.size wr).drew)
                    generalize wr.drew = u0 at hS HT ⊢
                    clear H1 H2
                    repeat (first | (refine RP.t_take (v := ?_) rfl rfl (fun w' hw' => ?_) ?_; rotate_left; (focus ((obtain ⟨hF1, hF2⟩ := hw'; obtain ⟨a0, a1, a2, a3, a4, a5, a6, a7⟩ := lies_addr hF1; obtain ⟨e0, e1, e2, e3, e4, e5, e6, e7⟩ := lies_addr hF2; simp only [kA, kB] at a0 a1 a2 a3 a4 a5 a6 a7 e0 e1 e2 e3 e4 e5 e6 e7); go_simp; (try go_bits); (try (with_reducible rfl)))); (try simp only [Act.put, List.setIfInBounds_toArray, List.set_cons_zero, List.set_cons_succ])) | (refine RP.t_skip rfl rfl ?_; (try simp only [Act.put, List.setIfInBounds_toArray, List.set_cons_zero, List.set_cons_succ])))
                    refine RP.t_run rfl (fun KK hKK => ?_)
                    go_simp
                    refine (sto_list HT.out.s3 HBD.out (by omega) kA).mono ?_
                    rintro ex u1 ⟨vp, Tp, rfl, hP, hT, hb⟩
                    obtain ⟨sp, cp, hvp, _⟩ := hP.row
                    subst hvp
                    replace hS := And.intro (hS.1.below hb hS.1.lt) (hS.2.below hb hS.2.lt)
                    replace HT := Lib.hid (HT.out.later hb)
                    have HPp := Lib.hid hP
                    have HQp := Lib.hid hT
                    have hlp := hT.len HBD.out
                    rw [saidP_len] at hlp
                    refine hKK.out _ _ hS ?_
                    clear hKK KK hb hP hT
                    (try simp only [Act.put, List.setIfInBounds_toArray, List.set_cons_zero, List.set_cons_succ])
                    repeat (first | (refine RP.t_take (v := ?_) rfl rfl (fun w' hw' => ?_) ?_; rotate_left; (focus ((obtain ⟨hF1, hF2⟩ := hw'; obtain ⟨a0, a1, a2, a3, a4, a5, a6, a7⟩ := lies_addr hF1; obtain ⟨e0, e1, e2, e3, e4, e5, e6, e7⟩ := lies_addr hF2; simp only [kA, kB] at a0 a1 a2 a3 a4 a5 a6 a7 e0 e1 e2 e3 e4 e5 e6 e7); go_simp; (try go_bits); (try (with_reducible rfl)))); (try simp only [Act.put, List.setIfInBounds_toArray, List.set_cons_zero, List.set_cons_succ])) | (refine RP.t_skip rfl rfl ?_; (try simp only [Act.put, List.setIfInBounds_toArray, List.set_cons_zero, List.set_cons_succ])))
                    refine RP.t_run rfl (fun KK hKK => ?_)
                    go_simp
                    refine (sto_list HT.out.s1 HBA0.out (by omega) kA).mono ?_
                    rintro ex u2 ⟨vq, Tq, rfl, hP, hT, hb⟩
                    obtain ⟨sq, cq, hvq, _⟩ := hP.row
                    subst hvq
                    replace hS := And.intro (hS.1.below hb hS.1.lt) (hS.2.below hb hS.2.lt)
                    replace HT := Lib.hid (HT.out.later hb)
                    replace HPp := Lib.hid (HPp.out.later hb)
                    have HPq := Lib.hid hP
                    have HQq := Lib.hid hT
                    have hlq := hT.len HBA0.out
                    rw [saidP_len] at hlq
                    refine hKK.out _ _ hS ?_
                    clear hKK KK hb hP hT
                    (try simp only [Act.put, List.setIfInBounds_toArray, List.set_cons_zero, List.set_cons_succ])
                    repeat (first | (refine RP.t_take (v := ?_) rfl rfl (fun w' hw' => ?_) ?_; rotate_left; (focus ((obtain ⟨hF1, hF2⟩ := hw'; obtain ⟨a0, a1, a2, a3, a4, a5, a6, a7⟩ := lies_addr hF1; obtain ⟨e0, e1, e2, e3, e4, e5, e6, e7⟩ := lies_addr hF2; simp only [kA, kB] at a0 a1 a2 a3 a4 a5 a6 a7 e0 e1 e2 e3 e4 e5 e6 e7); go_simp; (try go_bits); (try (with_reducible rfl)))); (try simp only [Act.put, List.setIfInBounds_toArray, List.set_cons_zero, List.set_cons_succ])) | (refine RP.t_skip rfl rfl ?_; (try simp only [Act.put, List.setIfInBounds_toArray, List.set_cons_zero, List.set_cons_succ])))
                    refine RP.t_run rfl (fun KK hKK => ?_)
                    go_simp
                    have hc := samep_any HPp.out HPq.out (by omega)
                    rw [decide_eq_true ((HQp.out.congr HEA.out).uniq HQq.out)] at hc
                    replace hc := Lib.hid hc
                    refine hc.out.mono ?_
                    rintro ex u3 ⟨rfl, hb⟩
                    replace hS := And.intro (hS.1.below hb hS.1.lt) (hS.2.below hb hS.2.lt)
                    replace HT := Lib.hid (HT.out.later hb)
                    refine hKK.out _ _ hS ?_
                    clear hKK KK hb hc HPp HPq HQp HQq hlp hlq
                    (try simp only [Act.put, List.setIfInBounds_toArray, List.set_cons_zero, List.set_cons_succ])
                    repeat (first | (refine RP.t_take (v := ?_) rfl rfl (fun w' hw' => ?_) ?_; rotate_left; (focus ((obtain ⟨hF1, hF2⟩ := hw'; obtain ⟨a0, a1, a2, a3, a4, a5, a6, a7⟩ := lies_addr hF1; obtain ⟨e0, e1, e2, e3, e4, e5, e6, e7⟩ := lies_addr hF2; simp only [kA, kB] at a0 a1 a2 a3 a4 a5 a6 a7 e0 e1 e2 e3 e4 e5 e6 e7); go_simp; (try go_bits); (try (with_reducible rfl)))); (try simp only [Act.put, List.setIfInBounds_toArray, List.set_cons_zero, List.set_cons_succ])) | (refine RP.t_skip rfl rfl ?_; (try simp only [Act.put, List.setIfInBounds_toArray, List.set_cons_zero, List.set_cons_succ])))
                    refine RP.t_run rfl (fun KK hKK => ?_)
                    go_simp
                    refine (sto_list HT.out.s3 HBD.out (by omega) kB).mono ?_
                    rintro ex u4 ⟨vr, Tr, rfl, hP, hT, hb⟩
                    obtain ⟨sr, cr, hvr, _⟩ := hP.row
                    subst hvr
                    replace hS := And.intro (hS.1.below hb hS.1.lt) (hS.2.below hb hS.2.lt)
                    replace HT := Lib.hid (HT.out.later hb)
                    have HPr := Lib.hid hP
                    have HQr := Lib.hid hT
                    have hlr := hT.len HBD.out
                    rw [saidP_len] at hlr
                    refine hKK.out _ _ hS ?_
                    clear hKK KK hb hP hT
                    (try simp only [Act.put, List.setIfInBounds_toArray, List.set_cons_zero, List.set_cons_succ])
                    repeat (first | (refine RP.t_take (v := ?_) rfl rfl (fun w' hw' => ?_) ?_; rotate_left; (focus ((obtain ⟨hF1, hF2⟩ := hw'; obtain ⟨a0, a1, a2, a3, a4, a5, a6, a7⟩ := lies_addr hF1; obtain ⟨e0, e1, e2, e3, e4, e5, e6, e7⟩ := lies_addr hF2; simp only [kA, kB] at a0 a1 a2 a3 a4 a5 a6 a7 e0 e1 e2 e3 e4 e5 e6 e7); go_simp; (try go_bits); (try (with_reducible rfl)))); (try simp only [Act.put, List.setIfInBounds_toArray, List.set_cons_zero, List.set_cons_succ])) | (refine RP.t_skip rfl rfl ?_; (try simp only [Act.put, List.setIfInBounds_toArray, List.set_cons_zero, List.set_cons_succ])))
                    refine RP.t_run rfl (fun KK hKK => ?_)
                    go_simp
                    refine (sto_list HT.out.s2 HBB0.out (by omega) kB).mono ?_
                    rintro ex u5 ⟨vt, Tt, rfl, hP, hT, hb⟩
                    obtain ⟨st, ct, hvt, _⟩ := hP.row
                    subst hvt
                    replace hS := And.intro (hS.1.below hb hS.1.lt) (hS.2.below hb hS.2.lt)
                    replace HT := Lib.hid (HT.out.later hb)
                    replace HPr := Lib.hid (HPr.out.later hb)
                    have HPt := Lib.hid hP
                    have HQt := Lib.hid hT
                    have hlt := hT.len HBB0.out
                    rw [saidP_len] at hlt
                    refine hKK.out _ _ hS ?_
                    clear hKK KK hb hP hT
                    (try simp only [Act.put, List.setIfInBounds_toArray, List.set_cons_zero, List.set_cons_succ])
                    repeat (first | (refine RP.t_take (v := ?_) rfl rfl (fun w' hw' => ?_) ?_; rotate_left; (focus ((obtain ⟨hF1, hF2⟩ := hw'; obtain ⟨a0, a1, a2, a3, a4, a5, a6, a7⟩ := lies_addr hF1; obtain ⟨e0, e1, e2, e3, e4, e5, e6, e7⟩ := lies_addr hF2; simp only [kA, kB] at a0 a1 a2 a3 a4 a5 a6 a7 e0 e1 e2 e3 e4 e5 e6 e7); go_simp; (try go_bits); (try (with_reducible rfl)))); (try simp only [Act.put, List.setIfInBounds_toArray, List.set_cons_zero, List.set_cons_succ])) | (refine RP.t_skip rfl rfl ?_; (try simp only [Act.put, List.setIfInBounds_toArray, List.set_cons_zero, List.set_cons_succ])))
                    refine RP.t_run rfl (fun KK hKK => ?_)
                    go_simp
                    have hc := samep_any HPr.out HPt.out (by omega)
                    rw [decide_eq_true ((HQr.out.congr HEB.out).uniq HQt.out)] at hc
                    replace hc := Lib.hid hc
                    refine hc.out.mono ?_
                    rintro ex u6 ⟨rfl, hb⟩
                    replace hS := And.intro (hS.1.below hb hS.1.lt) (hS.2.below hb hS.2.lt)
                    replace HT := Lib.hid (HT.out.later hb)
                    refine hKK.out _ _ hS ?_
                    clear hKK KK hb hc HPr HPt HQr HQt hlr hlt
                    (try simp only [Act.put, List.setIfInBounds_toArray, List.set_cons_zero, List.set_cons_succ])
                    repeat (first | (refine RP.t_take (v := ?_) rfl rfl (fun w' hw' => ?_) ?_; rotate_left; (focus ((obtain ⟨hF1, hF2⟩ := hw'; obtain ⟨a0, a1, a2, a3, a4, a5, a6, a7⟩ := lies_addr hF1; obtain ⟨e0, e1, e2, e3, e4, e5, e6, e7⟩ := lies_addr hF2; simp only [kA, kB] at a0 a1 a2 a3 a4 a5 a6 a7 e0 e1 e2 e3 e4 e5 e6 e7); go_simp; (try go_bits); (try (with_reducible rfl)))); (try simp only [Act.put, List.setIfInBounds_toArray, List.set_cons_zero, List.set_cons_succ])) | (refine RP.t_skip rfl rfl ?_; (try simp only [Act.put, List.setIfInBounds_toArray, List.set_cons_zero, List.set_cons_succ])))
                    refine RP.t_run rfl (fun KK hKK => ?_)
                    go_simp
                    refine (sto_list HT.out.s1 HBA0.out (by omega) kB).mono ?_
                    rintro ex u7 ⟨vy, Ty, rfl, hP, hT, hb⟩
                    obtain ⟨sy, cy, hvy, _⟩ := hP.row
                    subst hvy
                    replace hS := And.intro (hS.1.below hb hS.1.lt) (hS.2.below hb hS.2.lt)
                    replace HT := Lib.hid (HT.out.later hb)
                    have he : Ty = [] := List.map_eq_nil_iff.1 (tells_none hT (fun q => runs_other (by decide) _ q))
                    subst he
                    simp only [List.length_nil]
                    refine hKK.out _ _ hS ?_
                    clear hKK KK hb hP hT
                    (try simp only [Act.put, List.setIfInBounds_toArray, List.set_cons_zero, List.set_cons_succ])
                    repeat (first | (refine RP.t_take (v := ?_) rfl rfl (fun w' hw' => ?_) ?_; rotate_left; (focus ((obtain ⟨hF1, hF2⟩ := hw'; obtain ⟨a0, a1, a2, a3, a4, a5, a6, a7⟩ := lies_addr hF1; obtain ⟨e0, e1, e2, e3, e4, e5, e6, e7⟩ := lies_addr hF2; simp only [kA, kB] at a0 a1 a2 a3 a4 a5 a6 a7 e0 e1 e2 e3 e4 e5 e6 e7); go_simp; (try go_bits); (try (with_reducible rfl)))); (try simp only [Act.put, List.setIfInBounds_toArray, List.set_cons_zero, List.set_cons_succ])) | (refine RP.t_skip rfl rfl ?_; (try simp only [Act.put, List.setIfInBounds_toArray, List.set_cons_zero, List.set_cons_succ])))
                    refine RP.t_run rfl (fun KK hKK => ?_)
                    go_simp
                    refine (sto_list HT.out.s2 HBB0.out (by omega) kA).mono ?_
                    rintro ex u8 ⟨vz, Tz, rfl, hP, hT, hb⟩
                    obtain ⟨sz, cz, hvz, _⟩ := hP.row
                    subst hvz
                    replace hS := And.intro (hS.1.below hb hS.1.lt) (hS.2.below hb hS.2.lt)
                    replace HT := Lib.hid (HT.out.later hb)
                    have he : Tz = [] := List.map_eq_nil_iff.1 (tells_none hT (fun q => runs_other (by decide) _ q))
                    subst he
                    simp only [List.length_nil]
                    refine hKK.out _ _ hS ?_
                    clear hKK KK hb hP hT
                    (try simp only [Act.put, List.setIfInBounds_toArray, List.set_cons_zero, List.set_cons_succ])
                    repeat (first | (refine RP.t_take (v := ?_) rfl rfl (fun w' hw' => ?_) ?_; rotate_left; (focus ((obtain ⟨hF1, hF2⟩ := hw'; obtain ⟨a0, a1, a2, a3, a4, a5, a6, a7⟩ := lies_addr hF1; obtain ⟨e0, e1, e2, e3, e4, e5, e6, e7⟩ := lies_addr hF2; simp only [kA, kB] at a0 a1 a2 a3 a4 a5 a6 a7 e0 e1 e2 e3 e4 e5 e6 e7); go_simp; (try go_bits); (try (with_reducible rfl)))); (try simp only [Act.put, List.setIfInBounds_toArray, List.set_cons_zero, List.set_cons_succ])) | (refine RP.t_skip rfl rfl ?_; (try simp only [Act.put, List.setIfInBounds_toArray, List.set_cons_zero, List.set_cons_succ])))
                    refine RP.t_done ?_
                    clear hS
                    go_wp2_with fail
                    go_ret
                    exact ⟨rfl, HT.out.below⟩
end Go.Proofs.Yteeghdkejnhjnaa.Kv
