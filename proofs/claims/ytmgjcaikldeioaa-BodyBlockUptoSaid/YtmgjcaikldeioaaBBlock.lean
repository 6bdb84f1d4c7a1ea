/- The statement BodyBlockUpto: for every input of bulk at most 1048576 the call returns true (a body that is well typed is so within a block of the function's result; a branch of the outermost label is a return) and each argument reads behind it as it did: the row. Conditions: the bulk's bound alone. -/
import Derived.Test.YtmgjcaikldeioaaVe
import Derived.Test.YtmgjcaikldeioaaVh
import Derived.Test.YtmgjcaikldeioaaVg
namespace Go.Proofs.Ytmgjcaikldeioaa.Ty
open Go Go.RowKit Go.Lib Kt Fm Gr
/-- A slice of one instruction that was just built: it lies. -/
theorem wl_i1L {ops : Array Oper} {rest : List Oper} {op : Oper} {a : Act} {w : World} {Q : Exit → Act → World → Prop} (x0 : Ins) (p0 : Operand) (hgd : op.guard = none) (ho : op.op = .buildSlice 38 1 #[(0, p0)]) (h0 : a.eval p0 = .agg x0.cs.toArray)
    (hK : ∀ w1, Below w.heap.size w w1 → Lies w1 w.heap.size 49 ([x0].flatMap Ins.cs).toArray → wpList Try.prog ops Q rest (a.put op.dst (.slice (some ⟨w.heap.size, 0, none⟩) 1 1)) w1) : wpList Try.prog ops Q (op :: rest) a w :=
  wpList_plain hgd fun _ hK' => wp_i1 x0 p0 ho h0 (fun w1 h1 h2 => hK' _ _ (hK w1 h1 h2))
theorem row1 {w : World} {base g : Nat} {x : Ins} (h : Lies w g 49 ([x].flatMap Ins.cs).toArray) (hb : base ≤ g) : w.ownsRow base 49 5 (.slice (some ⟨g, 0, none⟩) 1 1) 1 ([x].flatMap Ins.cs) :=
  ⟨rfl, .inr ⟨g, 1, _, rfl, hb, h, Nat.le_refl _, by decide, rfl, rfl⟩⟩
theorem row_in {w : World} {base n : Nat} {v : Value} {x y : Ins} {B : List Ins} (h : w.ownsRow base 49 5 v (1 + B.length + [y].length) ([x].flatMap Ins.cs ++ B.flatMap Ins.cs ++ [y].flatMap Ins.cs)) (hn : n = (x :: B ++ [y]).length) : w.ownsRow base 49 5 v n ((x :: B ++ [y]).flatMap Ins.cs) := by
  rw [hn, show (x :: B ++ [y]).length = 1 + B.length + [y].length by simp; omega, show x :: B ++ [y] = [x] ++ B ++ [y] from rfl, List.flatMap_append, List.flatMap_append]
  exact h
/-! ### the copy whose outer branches are returns -/
def dpL : Int → List Ins → Int
  | d, [] => d
  | d, x :: r => dpL (dp d x.op) r
theorem dpL_snoc : ∀ (A : List Ins) (d : Int) (x : Ins), dpL d (A ++ [x]) = dp (dpL d A) x.op
  | [], _, _ => rfl
  | y :: A, d, x => by rw [List.cons_append, dpL, dpL_snoc A, dpL]
theorem outL_snoc : ∀ (A : List Ins) (d : Int) (x : Ins), outL d (A ++ [x]) = outL d A ++ [outX (dpL d A) x]
  | [], _, _ => rfl
  | y :: A, d, x => by rw [List.cons_append, outL, outL_snoc A, outL, dpL]; rfl
theorem dp_2 {d : Int} {op : UInt8} (h : op = 2) : dp d op = IntKind.u32.wrap (d + 1) := by rw [dp, if_pos (.inl h)]
theorem dp_3 {d : Int} {op : UInt8} (h : op = 3) : dp d op = IntKind.u32.wrap (d + 1) := by rw [dp, if_pos (.inr (.inl h))]
theorem dp_4 {d : Int} {op : UInt8} (h : op = 4) : dp d op = IntKind.u32.wrap (d + 1) := by rw [dp, if_pos (.inr (.inr h))]
theorem dp_11 {d : Int} {op : UInt8} (h : op = 11) : dp d op = IntKind.u32.wrap (d - 1) := by rw [dp, if_neg (by rw [h]; decide), if_pos h]
theorem dp_12 {d : Int} {op : UInt8} (h : op = 12) : dp d op = d := by rw [dp, if_neg (by rw [h]; decide), if_neg (by rw [h]; decide)]
theorem dp_ne {d : Int} {op : UInt8} (h : op ≠ 2 ∧ op ≠ 3 ∧ op ≠ 4 ∧ op ≠ 11 ∧ op ≠ 12) : dp d op = d := by
  rw [dp, if_neg (fun e => e.elim h.1 (fun e => e.elim h.2.1 h.2.2.1)), if_neg h.2.2.2.1]
theorem outX_ne {d : Int} {x : Ins} (h : x.op ≠ 12) : outX d x = x := if_neg (fun e => h e.1)
theorem outX_na {d : Int} {x : Ins} (h : ¬ (x.a : Int) = d) : outX d x = x := if_neg (fun e => h e.2)
theorem outX_eq {d : Int} {x : Ins} (h : x.op = 12) (ha : (x.a : Int) = d) : outX d x = ins 15 0 0 := if_pos ⟨h, ha⟩
theorem wl_rowset_n {α : Type} {en : α → List Value} {P : Program} {ops : Array Oper} {rest : List Oper} {op : Oper} {a : Act} {w : World} {Q : Exit → Act → World → Prop} {ty : TypeId} {base sz g cap n : Nat} {L : List α} (h : w.ownsRow base ty sz (.slice (some ⟨g, 0, none⟩) n cap) n (L.flatMap en)) (hn : L.length = n) (hlen : ∀ x, (en x).length = sz) {i : Nat} (hi : i < n) (y : α) (p q : Operand) (hgd : op.guard = none) (ho : op.op = .store ty p q)
    (hx : a.eval p = .pointer (some ⟨g, i * sz, none⟩)) (hy : a.eval q = .agg (en y).toArray) (hs : (P.info? ty).map (·.size) = some sz) (h1 : (en y).toArray.all (·.oneCell') = true)
    (hk : ∀ w', w'.ownsRow base ty sz (.slice (some ⟨g, 0, none⟩) n cap) n ((L.set i y).flatMap en) → w.grownBy w' (some g) → wpList P ops Q rest (a.put op.dst undef) w') : wpList P ops Q (op :: rest) a w := by
  subst hn
  exact wl_rowset h hlen hi y p q hgd ho hx hy hs h1 hk
/-- What the loop over the copy has. -/
structure Lo (y7 : World) (Bo : Nat) (lv : Value) (so : Option Addr) (n co : Nat) (A R : List Ins) (wr : World) : Prop where
  box : Lies wr Bo 40 #[lv, .slice so n co]
  row : wr.ownsRow y7.heap.size 49 5 (.slice so n co) n ((outL 0 A ++ R).flatMap Ins.cs)
  bel : Below y7.heap.size y7 wr
section
variable {y7 wr w : World} {Bo : Nat} {lv : Value} {so : Option Addr} {g n co k : Nat} {A R : List Ins} {x : Ins}
theorem Lo.later (h : Lo y7 Bo lv so n co A R wr) (hb : Below wr.heap.size wr w) : Lo y7 Bo lv so n co A R w :=
  ⟨h.box.below hb h.box.lt, ownsRow_keep h.row hb, bt h.bel hb⟩
theorem Lo.skip (h : Lo y7 Bo lv so n co A (x :: R) w) (hx : outX (dpL 0 A) x = x) : Lo y7 Bo lv so n co (A ++ [x]) R w :=
  ⟨h.box, by rw [outL_snoc, hx, List.append_assoc]; exact h.row, h.bel⟩
theorem lo_len (h : A.length + (R.length + 1) = n) : (outL 0 A ++ x :: R).length = n := by
  rw [List.length_append, outL_len, List.length_cons, h]
theorem lo_at (h : Lo y7 Bo lv (some ⟨g, 0, none⟩) n co A (x :: R) w) (hk : k = A.length) : w.rangeAt g (k * 5) x.cs :=
  row_at Ins.len h.row (by rw [hk, ← outL_len A 0, List.getElem?_append_right (Nat.le_refl _), Nat.sub_self]; rfl)
theorem Lo.put {w9 : World} (h : Lo y7 Bo lv (some ⟨g, 0, none⟩) n co A (x :: R) w) (hk : k = A.length) {y : Ins} (hx : outX (dpL 0 A) x = y) (hr : w9.ownsRow y7.heap.size 49 5 (.slice (some ⟨g, 0, none⟩) n co) n (((outL 0 A ++ x :: R).set k y).flatMap Ins.cs)) (hg : w.grownBy w9 (some g)) : Lo y7 Bo lv (some ⟨g, 0, none⟩) n co (A ++ [x]) R w9 := by
  refine ⟨lies_frT h.box (FrT.grown h.row hg) (by decide), ?_, h.bel.grown hg h.bel.size (fun _ e => (row_block h.row e).1)⟩
  rw [outL_snoc, hx, List.append_assoc]
  rw [hk, ← outL_len A 0, List.set_append_right _ _ (Nat.le_refl _), Nat.sub_self] at hr
  exact hr
end
theorem row_0 {w : World} {base n : Nat} {v : Value} {B : List Ins} (h : w.ownsRow base 49 5 v (0 + B.length) ([] ++ B.flatMap Ins.cs)) (hn : n = B.length) : w.ownsRow base 49 5 v n (B.flatMap Ins.cs) := by
  rw [Nat.zero_add, List.nil_append] at h
  rw [hn]
  exact h
theorem outL_ok {w : World} : ∀ {L : List Ins} {d : Int}, (∀ y ∈ L, InsOk w y) → ∀ y ∈ outL d L, InsOk w y
  | [], _, _, y, hy => by cases hy
  | x :: L, d, h, y, hy => by
    rw [outL] at hy
    rcases List.mem_cons.1 hy with rfl | hy
    · unfold outX
      split
      · exact ins_ok _ (by decide) (by decide)
      · exact h x (.head _)
    · exact outL_ok (fun z hz => h z (.tail _ hz)) y hy
/-- What the guard tells. -/
def BlkSays (r : Bts) (P : Prop) (u : Value) : Prop := ∃ b : Bool, u = .bool b ∧ (b = false → P ∧ ∃ T : Nat, (T = 64 ∧ r = [] ∨ (T = 127 ∨ T = 126) ∧ r = [UInt8.ofNat T]))
theorem sl_head {w : World} {g off n c : Nat} {t : UInt8} (h : Sl w 1 u8c (.slice (some ⟨g, off, none⟩) n c) [t]) : w.cell? ⟨g, off, none⟩ = some (.int .u8 t.toNat) := by
  obtain ⟨s', c', e, h2⟩ := h
  injection e with e1 _ _
  subst e1
  obtain ⟨g2, off2, e, hlt, hc2⟩ := h2 (by simp)
  injection e with e
  injection e with e3 e4
  subst e3 e4
  exact hc2 0 t rfl 0 _ rfl
set_option maxRecDepth 100000 in
set_option maxHeartbeats 16000000 in
theorem law_block {W : World} {m : Mod} {f : Ft} {c : Cod} (hm : ModOk W m) (hf : FtOk W f) (hc : CodOk W c) :
    Calls Try.prog 4 #[.agg m.cs.toArray, .agg f.cs.toArray, .agg c.cs.toArray] W fun e w' => e = .returned (.bool true) ∧ Below W.heap.size W w' := by
  obtain ⟨sb, cb, hbv, hsb⟩ := hc.2.1.form
  obtain ⟨sr, cr, hrv, hsr⟩ := hf.2.1.form
  have hrl : f.r.length ≤ 1048576 := hf.2.2.2
  have hcl : c.body.length ≤ 1048576 := hc.2.2.2
  have HM := Lib.hid hm
  have HF := Lib.hid hf
  have HC := Lib.hid hc
  have HBV := Lib.hid hbv
  have HRV := Lib.hid hrv
  have HSR := Lib.hid hsr
  have HSB := Lib.hid hsb
  clear hm hf hc hbv hsb hrv hsr
  go_enter Try.func4, Try.ntmps4
  go_wp2_with (first | (refine wl_box m.cs _ rfl rfl rfl (fun w1 hb1 hl1 => ?_); have HB1 := Lib.hid hb1; have HL1 := Lib.hid hl1; clear hb1 hl1; simp only [Act.put, List.setIfInBounds_toArray, List.set_cons_zero, List.set_cons_succ]) | (refine wl_box f.cs _ rfl rfl rfl (fun w2 hb2 hl2 => ?_); have HB2 := Lib.hid (bt HB1.out hb2); have HL2 := Lib.hid (HL1.out.below hb2 HL1.out.lt); have HF2 := Lib.hid hl2; clear hb2 hl2; simp only [Act.put, List.setIfInBounds_toArray, List.set_cons_zero, List.set_cons_succ]) | (refine wl_box c.cs _ rfl rfl rfl (fun w3 hb3 hl3 => ?_); have HB3 := Lib.hid (bt HB2.out hb3); have HL3 := Lib.hid (HL2.out.below hb3 HL2.out.lt); have HF3 := Lib.hid (HF2.out.below hb3 HF2.out.lt); have HD3 := Lib.hid hl3; clear hb3 hl3; simp only [Act.put, List.setIfInBounds_toArray, List.set_cons_zero, List.set_cons_succ]))
  refine knownL_any.mono ?_
  rintro en w4 ⟨rfl, hb4⟩
  have HB4 := Lib.hid (bt HB3.out hb4)
  have HL4 := Lib.hid (HL3.out.below hb4 HL3.out.lt)
  have HF4 := Lib.hid (HF3.out.below hb4 HF3.out.lt)
  have HD4 := Lib.hid (HD3.out.below hb4 HD3.out.lt)
  clear hb4 HB1 HB2 HB3 HL1 HL2 HL3 HF2 HF3 HD3
  obtain ⟨Bm, hBm⟩ : ∃ Bm, Bm = W.heap.size := ⟨_, rfl⟩
  obtain ⟨Bf, hBf⟩ : ∃ Bf, Bf = w1.heap.size := ⟨_, rfl⟩
  obtain ⟨Bc, hBc⟩ : ∃ Bc, Bc = w2.heap.size := ⟨_, rfl⟩
  rw [← hBm] at HL4
  rw [← hBf] at HF4
  rw [← hBc] at HD4
  rw [← hBm, ← hBf, ← hBc]
  clear hBm hBf hBc
  go_upto_region 3 with fail
  go_cut [51] from 22 to 51 (fun u wx => BlkSays f.r (Short m ∧ c.body.length ≤ 3000 ∧ f.p.length + f.r.length + c.locs.length ≤ 500) u ∧ Below w4.heap.size w4 wx)
  case first =>
    go_wp2_with (first | (refine wpList_load_mid rfl 33 _ rfl Bm 0 rfl m.cs _ (lies_range HL4.out) Try.underlying33 rfl sizeMod ?_; simp only [Act.put, List.setIfInBounds_toArray, List.set_cons_zero, List.set_cons_succ]) | (refine wpList_load_mid rfl 36 _ rfl Bf 0 rfl f.cs _ (lies_range HF4.out) Try.underlying36 rfl sizeFt ?_; simp only [Act.put, List.setIfInBounds_toArray, List.set_cons_zero, List.set_cons_succ]) | (refine wpList_load_mid rfl 40 _ rfl Bc 0 rfl c.cs _ (lies_range HD4.out) Try.underlying40 rfl sizeCod ?_; simp only [Act.put, List.setIfInBounds_toArray, List.set_cons_zero, List.set_cons_succ]))
    refine (great_any (HM.out.later HB4.out) (HF.out.later HB4.out) (HC.out.later HB4.out)).mono ?_
    rintro en w5 ⟨⟨bg, rfl, hg⟩, hb5⟩
    have HG := Lib.hid hg
    have HB5 := Lib.hid hb5
    have HBW5 := Lib.hid (bt HB4.out hb5)
    have HF5 := Lib.hid (HF4.out.below hb5 HF4.out.lt)
    have d1 : w5.cell? ⟨Bf, 1, none⟩ = some (.slice sr f.r.length cr) := (HF5.out.cell 1).trans (congrArg some HRV.out)
    clear hg hb5
    cases bg with
    | true =>
      go_wp2_with fail
      go_meet
      exact ⟨⟨true, rfl, fun e => by cases e⟩, HB5.out⟩
    | false =>
      by_cases h1 : (1 : Int) < (f.r.length : Int)
      · go_wp2_with fail
        go_meet
        exact ⟨⟨true, rfl, fun e => by cases e⟩, HB5.out⟩
      by_cases hr1 : f.r.length = 1
      · obtain ⟨t, ht⟩ := List.length_eq_one_iff.1 hr1
        obtain ⟨gr, off, rfl, hgl⟩ := HSR.out (by rw [ht]; simp)
        have d2 : w5.cell? ⟨gr, off, none⟩ = some (.int .u8 t.toNat) := by
          have hsl := HF.out.2.1.later HBW5.out
          rw [HRV.out, ht] at hsl
          exact sl_head hsl
        have HR1 := Lib.hid hr1
        rw [hr1] at d1
        have HT := Lib.hid ht
        clear ht hr1 h1
        by_cases h7 : (t.toNat : Int) = 127
        · obtain rfl : t = 127 := UInt8.toNat_inj.1 (by show t.toNat = 127; omega)
          clear h7
          go_wp2_with fail
          go_meet
          exact ⟨⟨false, rfl, fun _ => ⟨HG.out trivial, 127, .inr ⟨.inl rfl, HT.out⟩⟩⟩, HB5.out⟩
        by_cases h6 : (t.toNat : Int) = 126
        · obtain rfl : t = 126 := UInt8.toNat_inj.1 (by show t.toNat = 126; omega)
          clear h6 h7
          go_wp2_with fail
          go_meet
          exact ⟨⟨false, rfl, fun _ => ⟨HG.out trivial, 126, .inr ⟨.inr rfl, HT.out⟩⟩⟩, HB5.out⟩
        · go_wp2_with fail
          all_goals go_meet
          all_goals exact ⟨⟨true, congrArg Value.bool (by simp [h6, h7]), fun e => by cases e⟩, HB5.out⟩
      · have hr0 : f.r.length = 0 := by omega
        have HR0 := Lib.hid (List.length_eq_zero_iff.1 hr0)
        rw [hr0] at d1
        clear hr1 hr0 h1
        go_wp2_with fail
        go_meet
        exact ⟨⟨false, rfl, fun _ => ⟨HG.out trivial, 64, .inl ⟨rfl, HR0.out⟩⟩⟩, HB5.out⟩
  case rest =>
    obtain ⟨⟨bg, rfl, hg⟩, hb5⟩ := hcut
    have HG := Lib.hid hg
    have HB5 := Lib.hid (bt HB4.out hb5)
    have HL5 := Lib.hid (HL4.out.below hb5 HL4.out.lt)
    have HF5 := Lib.hid (HF4.out.below hb5 HF4.out.lt)
    have HD5 := Lib.hid (HD4.out.below hb5 HD4.out.lt)
    clear hg hb5 HB4 HL4 HF4 HD4
    cases bg with
    | true =>
      go_wp2_with fail
      go_ret
      exact ⟨rfl, HB5.out⟩
    | false =>
    obtain ⟨hgg, T, hT⟩ := HG.out rfl
    have HGG := Lib.hid hgg
    have HT := Lib.hid hT
    have hT4 : T < 4294967296 := by rcases hT with ⟨rfl, _⟩ | ⟨rfl | rfl, _⟩ <;> decide
    have hc3 : c.body.length ≤ 3000 := HGG.out.2.1
    clear hgg hT HG
    go_wp2_with (refine wpList_load_mid rfl 33 _ rfl Bm 0 rfl m.cs _ (lies_range HL5.out) Try.underlying33 rfl sizeMod ?_; simp only [Act.put, List.setIfInBounds_toArray, List.set_cons_zero, List.set_cons_succ])
    refine (sof_any (HM.out.later HB5.out)).mono ?_
    rintro en w6 ⟨S0, rfl, hsp, _, hb6⟩
    obtain ⟨GS, BS, MS, hg6⟩ := SpG.of hsp
    have HSP := Lib.hid hg6
    have HB6 := Lib.hid (bt HB5.out hb6)
    have HF6 := Lib.hid (HF5.out.below hb6 HF5.out.lt)
    have HD6 := Lib.hid (HD5.out.below hb6 HD5.out.lt)
    clear hsp hg6 hb6 HL5 HF5 HD5
    go_wp2_with (first | (refine wpList_load_mid rfl 36 _ rfl Bf 0 rfl f.cs _ (lies_range HF6.out) Try.underlying36 rfl sizeFt ?_; simp only [Act.put, List.setIfInBounds_toArray, List.set_cons_zero, List.set_cons_succ]) | (refine wpList_load_mid rfl 40 _ rfl Bc 0 rfl c.cs _ (lies_range HD6.out) Try.underlying40 rfl sizeCod ?_; simp only [Act.put, List.setIfInBounds_toArray, List.set_cons_zero, List.set_cons_succ]))
    refine (check_any HSP.out (HM.out.later HB6.out) (HF.out.later HB6.out) (HC.out.later HB6.out) (by omega) (cxB_of HGG.out.1 (by have := HGG.out.2.2; omega))).mono ?_
    rintro en w7 ⟨rfl, hb7⟩
    obtain ⟨p, hp⟩ : ∃ p, p = (chk ⟨spcOf m GS BS MS, f, c⟩).1 := ⟨_, rfl⟩
    obtain ⟨q, hq⟩ : ∃ q, q = (chk ⟨spcOf m GS BS MS, f, c⟩).2 := ⟨_, rfl⟩
    rw [← hp, ← hq]
    have HP := Lib.hid hp
    have HQ := Lib.hid hq
    have HB7 := Lib.hid (bt HB6.out hb7)
    have HF7 := Lib.hid (HF6.out.below hb7 HF6.out.lt)
    have HD7 := Lib.hid (HD6.out.below hb7 HD6.out.lt)
    have HSP7 := Lib.hid (HSP.out.later hb7)
    clear hp hq hb7 HF6 HD6 HSP
    obtain ⟨nr, hnr⟩ : ∃ nr, nr = f.r.length := ⟨_, rfl⟩
    have HNR := Lib.hid hnr
    clear hnr
    have d1 : w7.cell? ⟨Bf, 1, none⟩ = some (.slice sr nr cr) := by
      rw [HNR.out]
      exact (HF7.out.cell 1).trans (congrArg some HRV.out)
    go_upto_if 64 with fail
    go_cut [10] from 61 to 69 (fun u wx => u = .int .u32 T ∧ wx = w7)
    case first =>
      rcases HT.out with ⟨rfl, hr⟩ | ⟨ht, hr⟩
      · obtain rfl : nr = 0 := by rw [HNR.out, hr]; rfl
        clear hr HT hT4
        go_wp2_with fail
        go_meet
        exact ⟨rfl, rfl⟩
      · obtain ⟨gr, off, rfl, hgl⟩ := HSR.out (by rw [hr]; simp)
        have d2 : w7.cell? ⟨gr, off, none⟩ = some (.int .u8 (UInt8.ofNat T).toNat) := by
          have hsl := HF.out.2.1.later HB7.out
          rw [HRV.out, hr] at hsl
          exact sl_head hsl
        obtain rfl : nr = 1 := by rw [HNR.out, hr]; rfl
        clear hr HT hT4
        rcases ht with rfl | rfl
        · go_wp2_with fail
          go_meet
          exact ⟨rfl, rfl⟩
        · go_wp2_with fail
          go_meet
          exact ⟨rfl, rfl⟩
    case rest =>
      obtain ⟨rfl, hw⟩ := hcut
      obtain rfl := hw.symm
      clear d1
      have d0 : w7.cell? ⟨Bc, 1, none⟩ = some (.slice sb c.body.length cb) := (HD7.out.cell 1).trans (congrArg some HBV.out)
      have HBC := Lib.hid (HC.out.2.1.later HB7.out)
      rw [HBV.out] at HBC
      have HONE := Lib.hid (show ∀ y ∈ c.body, ∀ u ∈ y.cs, u.oneCell' = true from fun y hy => oneInsL (HC.out.2.2.1 y hy))
      obtain ⟨n5, hn5'⟩ : ∃ n5, n5 = (inL T c.body).length := ⟨_, rfl⟩
      have hn5b : n5 ≤ 3002 := by rw [hn5']; unfold inL; simp; omega
      have HN5 := Lib.hid hn5'
      clear hn5'
      go_wp2_with (first | (refine wpList_load_mid rfl 40 _ rfl Bc 0 rfl c.cs _ (lies_range HD7.out) Try.underlying40 rfl sizeCod ?_; simp only [Act.put, List.setIfInBounds_toArray, List.set_cons_zero, List.set_cons_succ]) | (refine wl_put (Lies.new _ _ _) c.cs _ _ rfl rfl rfl rfl rfl sizeCod (oneCod HC.out) (fun y1 hl1 hf1 => ?_); have hz1 : Below w7.heap.size w7 y1 := below_put ((Below.refl w7.heap.size w7).alloc (Nat.le_refl _) _) hf1 (Nat.le_refl _); have HX1 := Lib.hid hl1; have HDy := Lib.hid (HD7.out.below hz1 HD7.out.lt); have d2 : y1.cell? ⟨Bc, 1, none⟩ = some (.slice sb c.body.length cb) := (HDy.out.cell 1).trans (congrArg some HBV.out); obtain ⟨Bb, hBb⟩ : ∃ Bb, Bb = w7.heap.size := ⟨_, rfl⟩; rw [← hBb] at HX1 ⊢; have HBB := Lib.hid hBb; clear hBb hl1 hf1 d0; try simp only [Act.put]) | (refine wl_i1L (ins 2 T 0) _ rfl rfl rfl (fun y2 hb2 hl2 => ?_); have hz2 := hz1.trans (hb2.mono hz1.size); have HX2 := Lib.hid (HX1.out.below hb2 HX1.out.lt); have HR2 := Lib.hid (row1 hl2 hz1.size); have hltB : Bc < y1.heap.size := HDy.out.lt; have d3 : y2.cell? ⟨Bc, 1, none⟩ = some (.slice sb c.body.length cb) := keepc hb2 d2; clear hb2 hl2; try simp only [Act.put, List.setIfInBounds_toArray, List.set_cons_zero, List.set_cons_succ]) | (refine wl_i1 (ins 11 0 0) _ rfl rfl rfl (fun y4 hb4 hs4 => ?_); have hz4 := hz3.trans (hb4.mono hz3.size); have HX4 := Lib.hid (HX3.out.below hb4 HX3.out.lt); have HR4 := Lib.hid (ownsRow_keep HR3.out hb4); have HU4 := Lib.hid hs4; clear hb4 hs4; try simp only [Act.put, List.setIfInBounds_toArray, List.set_cons_zero, List.set_cons_succ]) | (refine wl_app (by_ := 48) _ _ rfl rfl und_is inf_is (by decide) rfl HR4.out Ins.len rfl HU4.out (fun y hy => by obtain rfl := List.mem_singleton.1 hy; exact oneInsL (ins_ok W (by decide) (by decide))) (by unfold maxLen; simp; omega) (by simp; omega) hz4.size (fun v5 y5 hr5 hg5 hno => ?_); have hz5 := hz4.grown hg5 hz4.size (fun _ hk => (row_block HR4.out hk).1); have HX5 := Lib.hid (lies_frT HX4.out (FrT.grown HR4.out hg5) (by decide)); have HR5 := Lib.hid (show y5.ownsRow w7.heap.size 49 5 v5 n5 ((inL T c.body).flatMap Ins.cs) from row_in hr5 HN5.out); obtain ⟨s5, c5, rfl, -, -⟩ := row_form HR5.out; clear hr5 hg5 hno; try simp only [Act.put, List.setIfInBounds_toArray, List.set_cons_zero, List.set_cons_succ]) | (refine wl_app (by_ := 48) _ _ rfl rfl und_is inf_is (by decide) rfl HR2.out Ins.len rfl (HBC.out.later hz2) HONE.out (by unfold maxLen; omega) (by omega) hz2.size (fun v3 y3 hr3 hg3 hno => ?_); have hz3 := hz2.grown hg3 hz2.size (fun _ hk => (row_block HR2.out hk).1); have HX3 := Lib.hid (lies_frT HX2.out (FrT.grown HR2.out hg3) (by decide)); have HR3 := Lib.hid hr3; clear hr3 hg3 d2 d3 hno; try simp only [Act.put, List.setIfInBounds_toArray, List.set_cons_zero, List.set_cons_succ]) | (refine wl_fld (c0 := c.cs) HX5.out _ _ rfl rfl rfl rfl [.slice s5 n5 c5] [c.lv, .slice s5 n5 c5] rfl siz_is (by intro u hu; obtain rfl := List.mem_singleton.1 hu; rfl) (by simp [Cod.cs]) rfl (fun y6 hl6 hf6 => ?_); have hz6 := hz5.trans (hf6.below hz5.size (fun k hk => by rw [hk, HBB.out]; exact Nat.le_refl _)); have HX6 := Lib.hid hl6; have HR6 := Lib.hid (row_frT HR5.out (FrT.field HX5.out hf6) (by decide)); have HFX6 := Lib.hid (HF7.out.below hz6 HF7.out.lt); clear hl6 hf6; (try simp only [Act.put]) ) | (refine wpList_load_mid rfl 36 _ rfl Bf 0 rfl f.cs _ (lies_range HFX6.out) Try.underlying36 rfl sizeFt ?_; simp only [Act.put, List.setIfInBounds_toArray, List.set_cons_zero, List.set_cons_succ]) | (refine wpList_load_mid rfl 40 _ rfl Bb 0 rfl [c.lv, .slice s5 n5 c5] _ (lies_range HX6.out) Try.underlying40 rfl sizeCod ?_; simp only [Act.put, List.setIfInBounds_toArray, List.set_cons_zero, List.set_cons_succ]))
      have hn5 : (inL T c.body).length ≤ 3002 := by unfold inL; simp; omega
      have HY6 := Lib.hid (bt HB7.out hz6)
      have HBD := Lib.hid (show ∀ y ∈ inL T c.body, InsOk y6 y from fun y hy => by
        rcases List.mem_append.1 hy with hy | hy
        · rcases List.mem_cons.1 hy with rfl | hy
          · exact ins_ok _ hT4 (by decide)
          · exact (HC.out.2.2.1 y hy).later HY6.out
        · obtain rfl := List.mem_singleton.1 hy
          exact ins_ok _ (by decide) (by decide))
      have HC6 := Lib.hid (show CodOk y6 ⟨c.lv, c.locs, .slice s5 n5 c5, inL T c.body⟩ from ⟨(HC.out.later HY6.out).1, own_sl Ins.len (by rw [← HN5.out]; exact HR6.out), HBD.out, Nat.le_trans hn5 (by decide)⟩)
      refine (check_any (c := ⟨c.lv, c.locs, .slice s5 n5 c5, inL T c.body⟩) (HSP7.out.later hz6) (HM.out.later HY6.out) (HF.out.later HY6.out) HC6.out (Nat.le_trans hn5 (by decide)) (cxB_of HGG.out.1 (by have := HGG.out.2.2; omega))).mono ?_
      rintro en y7 ⟨rfl, hb7⟩
      obtain ⟨p2, hp2⟩ : ∃ p2, p2 = (chk ⟨spcOf m GS BS MS, f, ⟨c.lv, c.locs, .slice s5 n5 c5, inL T c.body⟩⟩).1 := ⟨_, rfl⟩
      obtain ⟨q2, hq2⟩ : ∃ q2, q2 = (chk ⟨spcOf m GS BS MS, f, ⟨c.lv, c.locs, .slice s5 n5 c5, inL T c.body⟩⟩).2 := ⟨_, rfl⟩
      rw [← hp2, ← hq2]
      have HIN := Lib.hid (show q = 0 → p2 = max p nr ∧ q2 = 0 from fun h0 => by
        have h := chk_in (cx := ⟨spcOf m GS BS MS, f, c⟩) (cx' := ⟨spcOf m GS BS MS, f, ⟨c.lv, c.locs, .slice s5 n5 c5, inL T c.body⟩⟩) rfl rfl rfl rfl HT.out (HQ.out.symm.trans h0)
        rw [hp2, hq2, h, HP.out, HNR.out]
        exact ⟨rfl, rfl⟩)
      have hz7 := hz6.trans (hb7.mono hz6.size)
      have HY7 := Lib.hid (bt HB7.out hz7)
      have HFy := Lib.hid (HF7.out.below hz7 HF7.out.lt)
      have HDz := Lib.hid (HD7.out.below hz7 HD7.out.lt)
      have HSPy := Lib.hid (HSP7.out.later hz7)
      have d4 : y7.cell? ⟨Bf, 1, none⟩ = some (.slice sr nr cr) := by
        rw [HNR.out]
        exact (HFy.out.cell 1).trans (congrArg some HRV.out)
      clear hp2 hq2 hb7 hz1 hz2 hz3 hz4 hz5 hz6 hltB HC6 HBD HX1 HX2 HX3 HX4 HX5 HX6 HR2 HR3 HR4 HR5 HR6 HU4 HN5 hn5 hn5b HBB HDy HFX6 HBC HY6 HT hT4 HNR hz7 HF7 HD7 HSP7
      go_upto_region 13 with fail
      go_cut [102] from 88 to 102 (fun u wx => u = .bool false ∧ wx = y7)
      case first =>
        by_cases hq : q = 0
        · obtain ⟨h1, rfl⟩ := HIN.out hq
          subst hq
          have h1' : (p2 : Int) = max (p : Int) (nr : Int) := by rw [h1]; omega
          clear h1 HIN
          go_wp2_with fail
          go_meet
          exact ⟨rfl, rfl⟩
        · have hq1 : ¬ (q : Int) = 0 := by omega
          have hq2 : ((q : Int) != 0) = true := by simpa using hq
          go_wp2_with fail
          go_meet
          exact ⟨rfl, rfl⟩
      case rest =>
        obtain ⟨rfl, hw⟩ := hcut
        obtain rfl := hw.symm
        clear d4 HIN

        have e0 : y7.cell? ⟨Bc, 1, none⟩ = some (.slice sb c.body.length cb) := (HDz.out.cell 1).trans (congrArg some HBV.out)
        have HBC := Lib.hid (HC.out.2.1.later HY7.out)
        rw [HBV.out] at HBC
        obtain ⟨n, hn'⟩ : ∃ n, n = c.body.length := ⟨_, rfl⟩
        have hn3 : n ≤ 3000 := by omega
        have HN := Lib.hid hn'
        clear hn'
        go_wp2_with (first | (refine wpList_load_mid rfl 40 _ rfl Bc 0 rfl c.cs _ (lies_range HDz.out) Try.underlying40 rfl sizeCod ?_; simp only [Act.put, List.setIfInBounds_toArray, List.set_cons_zero, List.set_cons_succ]) | (refine wl_put (Lies.new _ _ _) c.cs _ _ rfl rfl rfl rfl rfl sizeCod (oneCod HC.out) (fun y1 hl1 hf1 => ?_); have hz1 : Below y7.heap.size y7 y1 := below_put ((Below.refl y7.heap.size y7).alloc (Nat.le_refl _) _) hf1 (Nat.le_refl _); have HX1 := Lib.hid hl1; have HDy := Lib.hid (HDz.out.below hz1 HDz.out.lt); have e2 : y1.cell? ⟨Bc, 1, none⟩ = some (.slice sb c.body.length cb) := (HDy.out.cell 1).trans (congrArg some HBV.out); obtain ⟨Bo, hBo⟩ : ∃ Bo, Bo = y7.heap.size := ⟨_, rfl⟩; rw [← hBo] at HX1 ⊢; have HBO := Lib.hid hBo; clear hBo hl1 hf1 e0; try simp only [Act.put]) | (refine wl_i0 rfl rfl (fun y2 hb2 hl2 => ?_); have hz2 := hz1.trans (hb2.mono hz1.size); have HX2 := Lib.hid (HX1.out.below hb2 HX1.out.lt); have HR2 := Lib.hid (row0 hl2 hz1.size); have hltB : Bc < y1.heap.size := HDy.out.lt; have e3 : y2.cell? ⟨Bc, 1, none⟩ = some (.slice sb c.body.length cb) := keepc hb2 e2; clear hb2 hl2; try simp only [Act.put, List.setIfInBounds_toArray, List.set_cons_zero, List.set_cons_succ]) | (refine wl_app (by_ := 48) _ _ rfl rfl und_is inf_is (by decide) rfl HR2.out Ins.len rfl (HBC.out.later hz2) HONE.out (by unfold maxLen; omega) (by omega) hz2.size (fun v3 y3 hr3 hg3 hno => ?_); have hz3 := hz2.grown hg3 hz2.size (fun _ hk => (row_block HR2.out hk).1); have HX3 := Lib.hid (lies_frT HX2.out (FrT.grown HR2.out hg3) (by decide)); have HR3 := Lib.hid (row_0 hr3 HN.out); obtain ⟨so, co, rfl, -, hso⟩ := row_form HR3.out; have HSO := Lib.hid hso; clear hr3 hg3 e2 e3 hso hno; try simp only [Act.put, List.setIfInBounds_toArray, List.set_cons_zero, List.set_cons_succ]) | (refine wl_fld (c0 := c.cs) HX3.out _ _ rfl rfl rfl rfl [.slice so n co] [c.lv, .slice so n co] rfl siz_is (by intro u hu; obtain rfl := List.mem_singleton.1 hu; rfl) (by simp [Cod.cs]) rfl (fun y4 hl4 hf4 => ?_); have hz4 := hz3.trans (hf4.below hz3.size (fun k hk => by rw [hk, HBO.out]; exact Nat.le_refl _)); have HLO := Lib.hid (show Lo y7 Bo c.lv so n co [] c.body y4 from ⟨hl4, row_frT HR3.out (FrT.field HX3.out hf4) (by decide), hz4⟩); have e4 : y4.cell? ⟨Bo, 1, none⟩ = some (.slice so n co) := hl4.cell 1; clear hl4 hf4; (try simp only [Act.put])))
        clear e4 hz1 hz2 hz3 hz4 HX1 HX2 HX3 HR2 HR3 HDy hltB HBC
        go_loopw [15, 112] (fun dv iv wr => ∃ (A R : List Ins), c.body = A ++ R ∧ dv = .int .u32 (dpL 0 A) ∧ iv = .int .i64 A.length ∧ Lo y7 Bo c.lv so n co A R wr)
          (fun _ iv _ => n - (Lib.intOf iv).toNat)
        case atStart => exact ⟨[], c.body, rfl, rfl, rfl, HLO.out⟩
        case round =>
          obtain ⟨A, R, hAR, rfl, rfl, hlo⟩ := hrel
          have HAR := Lib.hid hAR
          have HLO2 := Lib.hid hlo
          have hnl : A.length + R.length = n := by rw [HN.out, hAR, List.length_append]
          clear hAR hlo HLO
          obtain ⟨k, hk⟩ : ∃ k, k = A.length := ⟨_, rfl⟩
          obtain ⟨d, hd⟩ : ∃ d, d = dpL 0 A := ⟨_, rfl⟩
          rw [← hk, ← hd]
          rw [← hk] at hnl
          have HK := Lib.hid hk
          have HDP := Lib.hid hd
          clear hk hd
          cases R with
          | cons x R =>
            simp only [List.length_cons] at hnl
            have hlt2 : (k : Int) < (n : Int) := by omega
            have hltn : k < n := by omega
            obtain ⟨g, rfl⟩ := HSO.out (by omega)
            have HOK := Lib.hid (HC.out.2.2.1 x (by rw [HAR.out]; simp))
            have HON := Lib.hid (oneIns HOK.out)
            have HRA := Lib.hid (lo_at HLO2.out HK.out)
            have e5 : wr.cell? ⟨Bo, 1, none⟩ = some (.slice (some ⟨g, 0, none⟩) n co) := HLO2.out.box.cell 1
            obtain ⟨o, ho⟩ : ∃ o : Int, o = x.op.toNat := ⟨_, rfl⟩
            have HO := Lib.hid ho
            clear ho
            have HNK := Lib.hid (show A.length + (R.length + 1) = n from by have := HK.out; omega)
            by_cases h2 : o = 2
            · subst h2
              have hop : x.op = 2 := UInt8.toNat_inj.1 (by have := HO.out; show x.op.toNat = 2; omega)
              have HOP := Lib.hid hop
              clear hop
              go_wp2_with (first | (refine wpList_load_mid rfl 49 _ rfl g (k * 5) rfl x.cs _ HRA.out Try.underlying49 rfl sizeIns ?_; simp only [Act.put, List.setIfInBounds_toArray, List.set_cons_zero, List.set_cons_succ]) | (refine wpList_load_mid rfl 49 _ rfl g (0 + k * 5) rfl x.cs _ (by rw [Nat.zero_add]; exact HRA.out) Try.underlying49 rfl sizeIns ?_; simp only [Act.put, List.setIfInBounds_toArray, List.set_cons_zero, List.set_cons_succ]) | (refine wl_put (Lies.new _ _ _) x.cs _ _ rfl rfl rfl rfl rfl sizeIns HON.out (fun w8 hL8 hF8 => ?_); have hb8 : Below wr.heap.size wr w8 := below_put ((Below.refl wr.heap.size wr).alloc (Nat.le_refl _) _) hF8 (Nat.le_refl _); have HX8 := Lib.hid hL8; have HLO8 := Lib.hid (HLO2.out.later hb8); obtain ⟨Bx, hBx⟩ : ∃ Bx, Bx = wr.heap.size := ⟨_, rfl⟩; rw [← hBx] at HX8 ⊢; have e6 : w8.cell? ⟨Bx, 0, none⟩ = some (.int .u8 2) := (HX8.out.cell 0).trans (congrArg (fun z => some (Value.int .u8 z)) HO.out.symm); have e7 : w8.cell? ⟨Bx, 1, none⟩ = some (.int .u32 x.a) := HX8.out.cell 1; have e8 : w8.cell? ⟨Bo, 1, none⟩ = some (.slice (some ⟨g, 0, none⟩) n co) := HLO8.out.box.cell 1; clear hBx hL8 hF8 hb8 e5; try simp only [Act.put]) )
              exact ⟨⟨A ++ [x], R, by rw [HAR.out]; simp, by rw [HDP.out, dpL_snoc, dp_2 HOP.out]; rfl, by rw [List.length_append, HK.out]; rfl, HLO8.out.skip (outX_ne (by rw [HOP.out]; decide))⟩, by simp [Lib.intOf]; omega⟩
            by_cases h3 : o = 3
            · subst h3
              have hop : x.op = 3 := UInt8.toNat_inj.1 (by have := HO.out; show x.op.toNat = 3; omega)
              have HOP := Lib.hid hop
              clear hop
              go_wp2_with (first | (refine wpList_load_mid rfl 49 _ rfl g (k * 5) rfl x.cs _ HRA.out Try.underlying49 rfl sizeIns ?_; simp only [Act.put, List.setIfInBounds_toArray, List.set_cons_zero, List.set_cons_succ]) | (refine wpList_load_mid rfl 49 _ rfl g (0 + k * 5) rfl x.cs _ (by rw [Nat.zero_add]; exact HRA.out) Try.underlying49 rfl sizeIns ?_; simp only [Act.put, List.setIfInBounds_toArray, List.set_cons_zero, List.set_cons_succ]) | (refine wl_put (Lies.new _ _ _) x.cs _ _ rfl rfl rfl rfl rfl sizeIns HON.out (fun w8 hL8 hF8 => ?_); have hb8 : Below wr.heap.size wr w8 := below_put ((Below.refl wr.heap.size wr).alloc (Nat.le_refl _) _) hF8 (Nat.le_refl _); have HX8 := Lib.hid hL8; have HLO8 := Lib.hid (HLO2.out.later hb8); obtain ⟨Bx, hBx⟩ : ∃ Bx, Bx = wr.heap.size := ⟨_, rfl⟩; rw [← hBx] at HX8 ⊢; have e6 : w8.cell? ⟨Bx, 0, none⟩ = some (.int .u8 3) := (HX8.out.cell 0).trans (congrArg (fun z => some (Value.int .u8 z)) HO.out.symm); have e7 : w8.cell? ⟨Bx, 1, none⟩ = some (.int .u32 x.a) := HX8.out.cell 1; have e8 : w8.cell? ⟨Bo, 1, none⟩ = some (.slice (some ⟨g, 0, none⟩) n co) := HLO8.out.box.cell 1; clear hBx hL8 hF8 hb8 e5; try simp only [Act.put]) )
              exact ⟨⟨A ++ [x], R, by rw [HAR.out]; simp, by rw [HDP.out, dpL_snoc, dp_3 HOP.out]; rfl, by rw [List.length_append, HK.out]; rfl, HLO8.out.skip (outX_ne (by rw [HOP.out]; decide))⟩, by simp [Lib.intOf]; omega⟩
            by_cases h4 : o = 4
            · subst h4
              have hop : x.op = 4 := UInt8.toNat_inj.1 (by have := HO.out; show x.op.toNat = 4; omega)
              have HOP := Lib.hid hop
              clear hop
              go_wp2_with (first | (refine wpList_load_mid rfl 49 _ rfl g (k * 5) rfl x.cs _ HRA.out Try.underlying49 rfl sizeIns ?_; simp only [Act.put, List.setIfInBounds_toArray, List.set_cons_zero, List.set_cons_succ]) | (refine wpList_load_mid rfl 49 _ rfl g (0 + k * 5) rfl x.cs _ (by rw [Nat.zero_add]; exact HRA.out) Try.underlying49 rfl sizeIns ?_; simp only [Act.put, List.setIfInBounds_toArray, List.set_cons_zero, List.set_cons_succ]) | (refine wl_put (Lies.new _ _ _) x.cs _ _ rfl rfl rfl rfl rfl sizeIns HON.out (fun w8 hL8 hF8 => ?_); have hb8 : Below wr.heap.size wr w8 := below_put ((Below.refl wr.heap.size wr).alloc (Nat.le_refl _) _) hF8 (Nat.le_refl _); have HX8 := Lib.hid hL8; have HLO8 := Lib.hid (HLO2.out.later hb8); obtain ⟨Bx, hBx⟩ : ∃ Bx, Bx = wr.heap.size := ⟨_, rfl⟩; rw [← hBx] at HX8 ⊢; have e6 : w8.cell? ⟨Bx, 0, none⟩ = some (.int .u8 4) := (HX8.out.cell 0).trans (congrArg (fun z => some (Value.int .u8 z)) HO.out.symm); have e7 : w8.cell? ⟨Bx, 1, none⟩ = some (.int .u32 x.a) := HX8.out.cell 1; have e8 : w8.cell? ⟨Bo, 1, none⟩ = some (.slice (some ⟨g, 0, none⟩) n co) := HLO8.out.box.cell 1; clear hBx hL8 hF8 hb8 e5; try simp only [Act.put]) )
              exact ⟨⟨A ++ [x], R, by rw [HAR.out]; simp, by rw [HDP.out, dpL_snoc, dp_4 HOP.out]; rfl, by rw [List.length_append, HK.out]; rfl, HLO8.out.skip (outX_ne (by rw [HOP.out]; decide))⟩, by simp [Lib.intOf]; omega⟩
            by_cases h11 : o = 11
            · subst h11
              have hop : x.op = 11 := UInt8.toNat_inj.1 (by have := HO.out; show x.op.toNat = 11; omega)
              have HOP := Lib.hid hop
              clear hop
              go_wp2_with (first | (refine wpList_load_mid rfl 49 _ rfl g (k * 5) rfl x.cs _ HRA.out Try.underlying49 rfl sizeIns ?_; simp only [Act.put, List.setIfInBounds_toArray, List.set_cons_zero, List.set_cons_succ]) | (refine wpList_load_mid rfl 49 _ rfl g (0 + k * 5) rfl x.cs _ (by rw [Nat.zero_add]; exact HRA.out) Try.underlying49 rfl sizeIns ?_; simp only [Act.put, List.setIfInBounds_toArray, List.set_cons_zero, List.set_cons_succ]) | (refine wl_put (Lies.new _ _ _) x.cs _ _ rfl rfl rfl rfl rfl sizeIns HON.out (fun w8 hL8 hF8 => ?_); have hb8 : Below wr.heap.size wr w8 := below_put ((Below.refl wr.heap.size wr).alloc (Nat.le_refl _) _) hF8 (Nat.le_refl _); have HX8 := Lib.hid hL8; have HLO8 := Lib.hid (HLO2.out.later hb8); obtain ⟨Bx, hBx⟩ : ∃ Bx, Bx = wr.heap.size := ⟨_, rfl⟩; rw [← hBx] at HX8 ⊢; have e6 : w8.cell? ⟨Bx, 0, none⟩ = some (.int .u8 11) := (HX8.out.cell 0).trans (congrArg (fun z => some (Value.int .u8 z)) HO.out.symm); have e7 : w8.cell? ⟨Bx, 1, none⟩ = some (.int .u32 x.a) := HX8.out.cell 1; have e8 : w8.cell? ⟨Bo, 1, none⟩ = some (.slice (some ⟨g, 0, none⟩) n co) := HLO8.out.box.cell 1; clear hBx hL8 hF8 hb8 e5; try simp only [Act.put]) )
              exact ⟨⟨A ++ [x], R, by rw [HAR.out]; simp, by rw [HDP.out, dpL_snoc, dp_11 HOP.out]; rfl, by rw [List.length_append, HK.out]; rfl, HLO8.out.skip (outX_ne (by rw [HOP.out]; decide))⟩, by simp [Lib.intOf]; omega⟩
            by_cases h12 : o = 12
            · subst h12
              have hop : x.op = 12 := UInt8.toNat_inj.1 (by have := HO.out; show x.op.toNat = 12; omega)
              have HOP := Lib.hid hop
              clear hop h2 h3 h4 h11
              by_cases ha : (x.a : Int) = d
              · have HA := Lib.hid (ha.trans HDP.out)
                go_wp2_with (first | (refine wpList_load_mid rfl 49 _ rfl g (k * 5) rfl x.cs _ HRA.out Try.underlying49 rfl sizeIns ?_; simp only [Act.put, List.setIfInBounds_toArray, List.set_cons_zero, List.set_cons_succ]) | (refine wpList_load_mid rfl 49 _ rfl g (0 + k * 5) rfl x.cs _ (by rw [Nat.zero_add]; exact HRA.out) Try.underlying49 rfl sizeIns ?_; simp only [Act.put, List.setIfInBounds_toArray, List.set_cons_zero, List.set_cons_succ]) | (refine wl_put (Lies.new _ _ _) x.cs _ _ rfl rfl rfl rfl rfl sizeIns HON.out (fun w8 hL8 hF8 => ?_); have hb8 : Below wr.heap.size wr w8 := below_put ((Below.refl wr.heap.size wr).alloc (Nat.le_refl _) _) hF8 (Nat.le_refl _); have HX8 := Lib.hid hL8; have HLO8 := Lib.hid (HLO2.out.later hb8); obtain ⟨Bx, hBx⟩ : ∃ Bx, Bx = wr.heap.size := ⟨_, rfl⟩; rw [← hBx] at HX8 ⊢; have e6 : w8.cell? ⟨Bx, 0, none⟩ = some (.int .u8 12) := (HX8.out.cell 0).trans (congrArg (fun z => some (Value.int .u8 z)) HO.out.symm); have e7 : w8.cell? ⟨Bx, 1, none⟩ = some (.int .u32 x.a) := HX8.out.cell 1; have e8 : w8.cell? ⟨Bo, 1, none⟩ = some (.slice (some ⟨g, 0, none⟩) n co) := HLO8.out.box.cell 1; clear hBx hL8 hF8 hb8 e5; try simp only [Act.put]) | (refine wl_rowset_n (L := outL 0 A ++ x :: R) (i := k) HLO8.out.row (lo_len HNK.out) Ins.len hltn (ins 15 0 0) _ _ rfl rfl rfl rfl sizeIns (oneIns (ins_ok W (by decide) (by decide))) (fun w9 hr9 hg9 => ?_); have HR9 := Lib.hid hr9; have HG9 := Lib.hid hg9; clear hr9 hg9; try simp only [Act.put]))
                exact ⟨⟨A ++ [x], R, by rw [HAR.out]; simp, by rw [HDP.out, dpL_snoc, dp_12 HOP.out], by rw [List.length_append, HK.out]; rfl, HLO8.out.put HK.out (outX_eq HOP.out HA.out) HR9.out HG9.out⟩, by simp [Lib.intOf]; omega⟩
              · have HA := Lib.hid (show ¬ (x.a : Int) = dpL 0 A from fun e => ha (e.trans HDP.out.symm))
                go_wp2_with (first | (refine wpList_load_mid rfl 49 _ rfl g (k * 5) rfl x.cs _ HRA.out Try.underlying49 rfl sizeIns ?_; simp only [Act.put, List.setIfInBounds_toArray, List.set_cons_zero, List.set_cons_succ]) | (refine wpList_load_mid rfl 49 _ rfl g (0 + k * 5) rfl x.cs _ (by rw [Nat.zero_add]; exact HRA.out) Try.underlying49 rfl sizeIns ?_; simp only [Act.put, List.setIfInBounds_toArray, List.set_cons_zero, List.set_cons_succ]) | (refine wl_put (Lies.new _ _ _) x.cs _ _ rfl rfl rfl rfl rfl sizeIns HON.out (fun w8 hL8 hF8 => ?_); have hb8 : Below wr.heap.size wr w8 := below_put ((Below.refl wr.heap.size wr).alloc (Nat.le_refl _) _) hF8 (Nat.le_refl _); have HX8 := Lib.hid hL8; have HLO8 := Lib.hid (HLO2.out.later hb8); obtain ⟨Bx, hBx⟩ : ∃ Bx, Bx = wr.heap.size := ⟨_, rfl⟩; rw [← hBx] at HX8 ⊢; have e6 : w8.cell? ⟨Bx, 0, none⟩ = some (.int .u8 12) := (HX8.out.cell 0).trans (congrArg (fun z => some (Value.int .u8 z)) HO.out.symm); have e7 : w8.cell? ⟨Bx, 1, none⟩ = some (.int .u32 x.a) := HX8.out.cell 1; have e8 : w8.cell? ⟨Bo, 1, none⟩ = some (.slice (some ⟨g, 0, none⟩) n co) := HLO8.out.box.cell 1; clear hBx hL8 hF8 hb8 e5; try simp only [Act.put]) )
                exact ⟨⟨A ++ [x], R, by rw [HAR.out]; simp, by rw [HDP.out, dpL_snoc, dp_12 HOP.out], by rw [List.length_append, HK.out]; rfl, HLO8.out.skip (outX_na HA.out)⟩, by simp [Lib.intOf]; omega⟩
            have HOP := Lib.hid (show x.op ≠ 2 ∧ x.op ≠ 3 ∧ x.op ≠ 4 ∧ x.op ≠ 11 ∧ x.op ≠ 12 from by have := HO.out; refine ⟨?_, ?_, ?_, ?_, ?_⟩ <;> intro e <;> rw [e] at this <;> simp at this <;> omega)
            go_wp2_with (first | (refine wpList_load_mid rfl 49 _ rfl g (k * 5) rfl x.cs _ HRA.out Try.underlying49 rfl sizeIns ?_; simp only [Act.put, List.setIfInBounds_toArray, List.set_cons_zero, List.set_cons_succ]) | (refine wpList_load_mid rfl 49 _ rfl g (0 + k * 5) rfl x.cs _ (by rw [Nat.zero_add]; exact HRA.out) Try.underlying49 rfl sizeIns ?_; simp only [Act.put, List.setIfInBounds_toArray, List.set_cons_zero, List.set_cons_succ]) | (refine wl_put (Lies.new _ _ _) x.cs _ _ rfl rfl rfl rfl rfl sizeIns HON.out (fun w8 hL8 hF8 => ?_); have hb8 : Below wr.heap.size wr w8 := below_put ((Below.refl wr.heap.size wr).alloc (Nat.le_refl _) _) hF8 (Nat.le_refl _); have HX8 := Lib.hid hL8; have HLO8 := Lib.hid (HLO2.out.later hb8); obtain ⟨Bx, hBx⟩ : ∃ Bx, Bx = wr.heap.size := ⟨_, rfl⟩; rw [← hBx] at HX8 ⊢; have e6 : w8.cell? ⟨Bx, 0, none⟩ = some (.int .u8 o) := (HX8.out.cell 0).trans (congrArg (fun z => some (Value.int .u8 z)) HO.out.symm); have e7 : w8.cell? ⟨Bx, 1, none⟩ = some (.int .u32 x.a) := HX8.out.cell 1; have e8 : w8.cell? ⟨Bo, 1, none⟩ = some (.slice (some ⟨g, 0, none⟩) n co) := HLO8.out.box.cell 1; clear hBx hL8 hF8 hb8 e5; try simp only [Act.put]) )
            exact ⟨⟨A ++ [x], R, by rw [HAR.out]; simp, by rw [HDP.out, dpL_snoc, dp_ne HOP.out], by rw [List.length_append, HK.out]; rfl, HLO8.out.skip (outX_ne HOP.out.2.2.2.2)⟩, by simp [Lib.intOf]; omega⟩
          | nil =>
            obtain rfl : k = n := by simpa using hnl
            have hlt2 : ¬ (k : Int) < (k : Int) := by omega
            clear hnl
            have HA := Lib.hid (show A = c.body from by rw [HAR.out, List.append_nil])
            have HFw := Lib.hid (HFy.out.below HLO2.out.bel HFy.out.lt)
            have HYw := Lib.hid (bt HY7.out HLO2.out.bel)
            have HROW := Lib.hid (show wr.ownsRow y7.heap.size 49 5 (.slice so k co) (outL 0 c.body).length ((outL 0 c.body).flatMap Ins.cs) from by
              have h := HLO2.out.row
              rw [HA.out, List.append_nil] at h
              rw [outL_len, ← HN.out]
              exact h)
            go_wp2_with (first | (refine wpList_load_mid rfl 36 _ rfl Bf 0 rfl f.cs _ (lies_range HFw.out) Try.underlying36 rfl sizeFt ?_; simp only [Act.put, List.setIfInBounds_toArray, List.set_cons_zero, List.set_cons_succ]) | (refine wpList_load_mid rfl 40 _ rfl Bo 0 rfl [c.lv, .slice so k co] _ (lies_range HLO2.out.box) Try.underlying40 rfl sizeCod ?_; simp only [Act.put, List.setIfInBounds_toArray, List.set_cons_zero, List.set_cons_succ]))
            have hlo : (outL 0 c.body).length ≤ 3000 := by rw [outL_len]; omega
            have HCw := Lib.hid (show CodOk wr ⟨c.lv, c.locs, .slice so k co, outL 0 c.body⟩ from ⟨(HC.out.later HYw.out).1, own_sl Ins.len HROW.out, outL_ok (HC.out.later HYw.out).2.2.1, Nat.le_trans hlo (by decide)⟩)
            refine (check_any (c := ⟨c.lv, c.locs, .slice so k co, outL 0 c.body⟩) (HSPy.out.later HLO2.out.bel) (HM.out.later HYw.out) (HF.out.later HYw.out) HCw.out (Nat.le_trans hlo (by decide)) (cxB_of HGG.out.1 (by have := HGG.out.2.2; omega))).mono ?_
            rintro en w10 ⟨rfl, hb10⟩
            obtain ⟨p3, hp3⟩ : ∃ p3, p3 = (chk ⟨spcOf m GS BS MS, f, ⟨c.lv, c.locs, .slice so k co, outL 0 c.body⟩⟩).1 := ⟨_, rfl⟩
            obtain ⟨q3, hq3⟩ : ∃ q3, q3 = (chk ⟨spcOf m GS BS MS, f, ⟨c.lv, c.locs, .slice so k co, outL 0 c.body⟩⟩).2 := ⟨_, rfl⟩
            rw [← hp3, ← hq3]
            have hout : q ≠ 2 → p3 = p ∧ q3 = q := fun h2 => by
              have h := chk_out (cx := ⟨spcOf m GS BS MS, f, c⟩) (cx' := ⟨spcOf m GS BS MS, f, ⟨c.lv, c.locs, .slice so k co, outL 0 c.body⟩⟩) rfl rfl rfl rfl (Nat.le_trans hc3 (by decide)) (fun e => h2 (HQ.out.trans e))
              rw [hp3, hq3, h, HP.out, HQ.out]
              exact ⟨rfl, rfl⟩
            have HYz := Lib.hid (bt HYw.out hb10)
            clear hp3 hq3 hb10
            by_cases hq : q = 2
            · subst hq
              clear hout
              go_wp2_with fail
              go_ret
              exact ⟨rfl, HYz.out⟩
            · obtain ⟨rfl, rfl⟩ := hout hq
              have hq1 : ¬ (q3 : Int) = 2 := by omega
              have hq2 : ((q3 : Int) == 2) = false := by rw [beq_eq_false_iff_ne]; omega
              go_wp2_with fail
              go_ret
              exact ⟨rfl, HYz.out⟩
end Go.Proofs.Ytmgjcaikldeioaa.Ty
namespace Go.Proofs.Ytmgjcaikldeioaa.lwBlock
open Go Go.ChangeShapes Go.WideShapes Go.ChangeAt Go.RowKit Kt Fm Gr Ty
theorem laidOut : laidOutB Try.prog = true := by kernel_rfl
theorem readable : (Try.f4.params.toList.all fun t => Try.prog.readableRec t && decide (t < Try.prog.types.size)) = true := by kernel_rfl
set_option maxRecDepth 100000 in
theorem contract (H : Type) (enc : TypeId × Value → H) (W : World) (base : Nat) (args : Array Value) (ds gs : List (DataW H)) (before : List MemPlace)
    (hval : ∀ (j : Nat) t v, Try.f4.params[j]? = some t → args[j]? = some v → Value.okWide Try.prog W .any base t v)
    (hW : DataW.Whole enc Try.prog Try.f4.params.toList Rows.bodyBlockSpec.vars false W args.toList ds gs before) (hk : Rows.uptoSmall H (ds ++ gs) = true) :
    Calls Try.prog 4 args W fun e W' => ∃ v, e = .returned v ∧ Rows.bodyBlockSpec.post enc Try.prog Try.f4 false true false false W args v W' := by
  have hW' := hW
  obtain ⟨p, q, hA0, hV, rfl, hfz, hnd⟩ := hW
  have hA : DataW.TrodAll enc Try.prog W 0 (fun _ => true) true Try.f4.params.toList args.toList ds p := hA0
  rw [Try.params4] at hA hval
  obtain ⟨v0, vs0, d0, ds0, p0, q0, hargs0, rfl, rfl, h0, r0⟩ := trodAll_cons hA
  obtain ⟨v1, vs1, d1, ds1, p1, q1, hargs1, rfl, rfl, h1, r1⟩ := trodAll_cons r0
  subst hargs1
  obtain ⟨v2, vs2, d2, ds2, p2, q2, hargs2, rfl, rfl, h2, r2⟩ := trodAll_cons r1
  subst hargs2
  obtain ⟨rfl, rfl, rfl⟩ := trodAll_nil r2
  obtain rfl : args = #[v0, v1, v2] := by cases args; simp_all
  obtain ⟨rfl, rfl⟩ := trodVars_none hV
  obtain ⟨x0, rfl, hx0⟩ := open_mod (hval 0 _ v0 rfl rfl) h0 (small hk (by simp))
  obtain ⟨x1, rfl, hx1⟩ := open_ft (hval 1 _ v1 rfl rfl) h1 (small hk (by simp))
  obtain ⟨x2, rfl, hx2, hc2⟩ := open_cod (hval 2 _ v2 rfl rfl) h2 (small hk (by simp))
  refine (law_block hx0 hx1 hx2).mono fun e W' ⟨he, hb⟩ => ?_
  subst he
  exact ⟨_, rfl, Rw.law_post laidOut readable rfl Try.underlying4 rfl (fun _ => rfl) (fun _ => rfl) (fun _ => rfl) hW' hb⟩
set_option maxRecDepth 100000 in
theorem reads (os : Os) {H : Type} (enc : TypeId × Value → H) : ∃ places, DataW.whole enc Try.prog ((Rw.plainWorld os).forCall (fun _ _ => 0) ⟨#[], #[(.agg #[.slice none 0 0, .slice none 0 0, .slice none 0 0, .slice none 0 0, .slice none 0 0, .slice none 0 0, .slice none 0 0, .bool false, .int .u32 0, .slice none 0 0, .slice none 0 0, .slice none 0 0]), (.agg #[.slice none 0 0, .slice none 0 0]), (.agg #[.slice none 0 0, .slice none 0 0])], []⟩).memory Try.f4.params.toList Rows.bodyBlockSpec.vars false (#[(.agg #[.slice none 0 0, .slice none 0 0, .slice none 0 0, .slice none 0 0, .slice none 0 0, .slice none 0 0, .slice none 0 0, .bool false, .int .u32 0, .slice none 0 0, .slice none 0 0, .slice none 0 0]), (.agg #[.slice none 0 0, .slice none 0 0]), (.agg #[.slice none 0 0, .slice none 0 0])] : Array Value).toList 8 = some ([(.agg [.nil, .nil, .nil, .nil, .nil, .nil, .nil, .lit (.bool false), .lit (.int .u32 0), .nil, .nil, .nil]), (.agg [.nil, .nil]), (.agg [.nil, .nil])], [], places) :=
  ⟨[], by kernel_rfl⟩
set_option maxRecDepth 100000 in
theorem lifted (os : Os) (started : os.Started) (H : Type) (enc : TypeId × Value → H) (F : Stop.Interp) :
    ReturnsInHanded {} Try.checked os 4 .any ((Rows.OpenSpec.upto Rows.bodyBlockSpec).preRow enc Try.prog Try.f4 Rows.bodyBlockUptoRow.domain false Rows.bodyBlockUptoRow.laid) (((Rows.OpenSpec.upto Rows.bodyBlockSpec).at F).post enc Try.prog Try.f4 false true false false) := by
  obtain ⟨places, hx⟩ := reads os enc
  refine returnsInHanded_of_row (C := Try.checked) (s := Rows.OpenSpec.upto Rows.bodyBlockSpec) Rw.own started (by kernel_rfl) Try.func4
    (witness_row_at (enc := enc) (C := Try.checked) false (Rw.plainWorld os) #[(.agg #[.slice none 0 0, .slice none 0 0, .slice none 0 0, .slice none 0 0, .slice none 0 0, .slice none 0 0, .slice none 0 0, .bool false, .int .u32 0, .slice none 0 0, .slice none 0 0, .slice none 0 0]), (.agg #[.slice none 0 0, .slice none 0 0]), (.agg #[.slice none 0 0, .slice none 0 0])] rfl (by kernel_rfl) (by kernel_rfl) (by kernel_rfl)
      (OpenSpec.preRow_of_cond 8 hx (by kernel_rfl) (fun k hk => by cases hk; kernel_rfl) (by kernel_rfl) (Rw.met_nil _))) ?_
  intro W base args ds gs before hval hW _ hcond _ _ _ _
  exact contract H enc W base args ds gs before hval hW (hcond _ rfl)
theorem said : Rows.BodyBlockUptoSaid :=
  OpenClaim.holds_of_cond 4 Try.f4 rfl rfl rfl rfl rfl rfl rfl ⟨rfl, rfl, rfl, rfl, rfl⟩ rfl rfl rfl rfl rfl (by kernel_rfl) Try.func4 (by kernel_rfl)
    (of_decide_eq_true (by kernel_rfl)) (by unfold Func.isWrapper; first | (rw [if_pos (by decide +kernel)]; kernel_rfl) | (rw [if_neg (by decide +kernel)]; exact ⟨rfl, rfl⟩))
    (fun os started H enc _ F => by rw [OpenClaim.pre_eq_preRow]; exact lifted os started H enc F)
#print axioms said
end Go.Proofs.Ytmgjcaikldeioaa.lwBlock
