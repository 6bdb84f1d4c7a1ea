/- What is not great has few instructions, and short types; the chapter's rows, plain; gabellelaw10's fn, get, one, of. -/
import Derived.Test.YtmgjcaikldeioaaUr
namespace Go.Proofs.Ytmgjcaikldeioaa.Ty
open Go Go.RowKit Go.Lib Kt Fm Gr

/-- An answer that tells something where it is false. -/
def GreatSays (P : Prop) (e : Ending) : Prop := ∃ b : Bool, e = .returned (.bool b) ∧ (b = false → P)
set_option maxRecDepth 100000 in
set_option maxHeartbeats 8000000 in
theorem g4_any {W : World} {v : Value} {L : List Ins} (h : Sl W 5 Ins.cs v L) (hx : ∀ y ∈ L, InsOk W y) (hl : L.length ≤ Bd) :
    Calls Try.prog 15 #[v] W fun e w' => GreatSays (L.length ≤ 3000) e ∧ Below W.heap.size W w' := by
  obtain ⟨s, c, rfl, hs⟩ := h.form
  have HS := Lib.hid hs
  have H := Lib.hid h
  have HX := Lib.hid hx
  have hl : L.length ≤ 1048576 := hl
  clear hs h hx
  go_enter Try.func15, Try.ntmps15
  go_wp2_with fail
  go_loopw [3, 4] (fun nv iv wr => ∃ i n : Nat, i ≤ L.length ∧ iv = .int .i64 i ∧ nv = .int .i64 n ∧ i ≤ n ∧ n ≤ 2000000 ∧ Below W.heap.size W wr)
    (fun _ iv _ => L.length - (Lib.intOf iv).toNat)
  case atStart => exact ⟨0, 0, by omega, rfl, rfl, by omega, by omega, Below.refl _ _⟩
  case round =>
    obtain ⟨i, n, hi, rfl, rfl, hin, hn, hbr⟩ := hrel
    have HBR := Lib.hid hbr
    clear hbr
    by_cases hlt : i < L.length
    · have hlt2 : (i : Int) < (L.length : Int) := by omega
      by_cases hn3 : n ≤ 3000
      · have hn32 : (n : Int) ≤ 3000 := by omega
        obtain ⟨x, hx⟩ : ∃ x, L[i]? = some x := ⟨_, List.getElem?_eq_getElem hlt⟩
        have hok := HX.out x (List.mem_of_getElem? hx)
        obtain ⟨sl, cl, hlv, _⟩ := hok.2.2.2.1.form
        have hll : x.ls.length ≤ 1048576 := hok.2.2.2.2.2
        obtain ⟨g, off, rfl, hg⟩ := HS.out (by intro e; rw [e] at hlt; simp at hlt)
        have hcx : wr.cell? ⟨g, off + i * 5 + 4, none⟩ = some (.slice sl x.ls.length cl) := ((H.out.later HBR.out).cell hx (j := 4) rfl).trans (congrArg some hlv)
        clear hx hok hlv
        go_wp2_with fail
        exact ⟨⟨i + 1, n + 1 + x.ls.length, by omega, by go_num, by go_num, by omega, by omega, HBR.out⟩, by simp [Lib.intOf]; omega⟩
      · have hn32 : ¬ (n : Int) ≤ 3000 := by omega
        have hn33 : (3000 : Int) < (n : Int) := by omega
        go_wp2_with fail
        go_ret
        exact ⟨⟨_, rfl, fun e => by simp at e⟩, HBR.out⟩
    · obtain rfl : i = L.length := by omega
      have hge : ¬ ((L.length : Nat) : Int) < ((L.length : Nat) : Int) := by omega
      go_wp2_with fail
      go_ret
      exact ⟨⟨_, rfl, fun e => by rw [decide_eq_false_iff_not] at e; omega⟩, HBR.out⟩
/-- What holds of a module that is not great. -/
def Short (m : Mod) : Prop := ∀ t ∈ m.types, t.p.length + t.r.length ≤ 3000
set_option maxRecDepth 100000 in
set_option maxHeartbeats 8000000 in
theorem g8_any {W : World} {m : Mod} (hm : ModOk W m) :
    Calls Try.prog 14 #[.agg m.cs.toArray] W fun e w' => GreatSays (Short m) e ∧ Below W.heap.size W w' := by
  have hlT : m.types.length ≤ 1048576 := hm.1.2.2
  have hlI : m.imps.length ≤ 1048576 := hm.2.1.2.2
  have hlF : m.funcs.length ≤ 1048576 := hm.2.2.1.2.2
  have hlB : m.tabs.length ≤ 1048576 := hm.2.2.2.1.2.2
  have hlM : m.mems.length ≤ 1048576 := hm.2.2.2.2.1.2.2
  have hlG : m.globs.length ≤ 1048576 := hm.2.2.2.2.2.1.2.2
  have hlE : m.exps.length ≤ 1048576 := hm.2.2.2.2.2.2.1.2.2
  obtain ⟨s0, c0, hv0, hs0⟩ := hm.1.1.form
  obtain ⟨s1, c1, hv1, _⟩ := hm.2.1.1.form
  obtain ⟨s2, c2, hv2, _⟩ := hm.2.2.1.1.form
  obtain ⟨s3, c3, hv3, _⟩ := hm.2.2.2.1.1.form
  obtain ⟨s4, c4, hv4, _⟩ := hm.2.2.2.2.1.1.form
  obtain ⟨s5, c5, hv5, _⟩ := hm.2.2.2.2.2.1.1.form
  obtain ⟨s6, c6, hv6, _⟩ := hm.2.2.2.2.2.2.1.1.form
  have HT := Lib.hid hm.1
  rw [hv0] at HT
  have HS0 := Lib.hid hs0
  have HV := Lib.hid (And.intro hv0 (And.intro hv1 (And.intro hv2 (And.intro hv3 (And.intro hv4 (And.intro hv5 hv6))))))
  obtain ⟨N0, hN0⟩ : ∃ N0, N0 = m.imps.length + m.funcs.length + m.tabs.length + m.mems.length + m.globs.length + m.exps.length := ⟨_, rfl⟩
  have hN0b : N0 ≤ 6291456 := by omega
  have HN0 := Lib.hid hN0
  clear hm hv0 hv1 hv2 hv3 hv4 hv5 hv6 hs0 hN0
  go_enter Try.func14, Try.ntmps14
  go_wp2_with (refine wl_box m.cs _ rfl rfl rfl (fun w1 hb1 hl1 => ?_); have HB1 := Lib.hid hb1; have HL1 := Lib.hid hl1; have h1 : w1.cell? ⟨W.heap.size, 1, none⟩ = some (.slice s1 m.imps.length c1) := (hl1.cell 1).trans (congrArg some HV.out.2.1); have h2 : w1.cell? ⟨W.heap.size, 2, none⟩ = some (.slice s2 m.funcs.length c2) := (hl1.cell 2).trans (congrArg some HV.out.2.2.1); have h3 : w1.cell? ⟨W.heap.size, 3, none⟩ = some (.slice s3 m.tabs.length c3) := (hl1.cell 3).trans (congrArg some HV.out.2.2.2.1); have h4 : w1.cell? ⟨W.heap.size, 4, none⟩ = some (.slice s4 m.mems.length c4) := (hl1.cell 4).trans (congrArg some HV.out.2.2.2.2.1); have h5 : w1.cell? ⟨W.heap.size, 5, none⟩ = some (.slice s5 m.globs.length c5) := (hl1.cell 5).trans (congrArg some HV.out.2.2.2.2.2.1); have h6 : w1.cell? ⟨W.heap.size, 6, none⟩ = some (.slice s6 m.exps.length c6) := (hl1.cell 6).trans (congrArg some HV.out.2.2.2.2.2.2); clear hb1 hl1; simp only [Act.put, List.setIfInBounds_toArray, List.set_cons_zero, List.set_cons_succ])
  clear h1 h2 h3 h4 h5 h6
  go_loopw [3, 4] (fun nv iv wr => ∃ i n : Nat, i ≤ m.types.length ∧ iv = .int .i64 i ∧ nv = .int .i64 n ∧ n ≤ 20000000 ∧ (∀ t ∈ m.types.take i, t.p.length + t.r.length ≤ n) ∧ Below w1.heap.size w1 wr)
    (fun _ iv _ => m.types.length - (Lib.intOf iv).toNat)
  case atStart => exact ⟨0, N0, by omega, rfl, by rw [HN0.out]; simp; done, by omega, fun t ht => by simp at ht, Below.refl _ _⟩
  case round =>
    obtain ⟨i, n, hi, rfl, rfl, hn, hall, hbr⟩ := hrel
    have HBR := Lib.hid hbr
    have HALL := Lib.hid hall
    have hc0 : wr.cell? ⟨W.heap.size, 0, none⟩ = some (.slice s0 m.types.length c0) := keepc hbr ((HL1.out.cell 0).trans (congrArg some HV.out.1))
    clear hbr hall
    by_cases hlt : i < m.types.length
    · have hlt2 : (i : Int) < (m.types.length : Int) := by omega
      by_cases hn3 : n ≤ 3000
      · have hn32 : (n : Int) ≤ 3000 := by omega
        obtain ⟨x, hx⟩ : ∃ x, m.types[i]? = some x := ⟨_, List.getElem?_eq_getElem hlt⟩
        have hok := HT.out.2.1 x (List.mem_of_getElem? hx)
        obtain ⟨sp, cp, hpv, _⟩ := hok.1.1.form
        obtain ⟨sr, cr, hrv, _⟩ := hok.2.1.form
        have hpl : x.p.length ≤ 1048576 := hok.1.2.2
        have hrl : x.r.length ≤ 1048576 := hok.2.2.2
        obtain ⟨g, off, rfl, hg⟩ := HS0.out (by intro e; rw [e] at hlt; simp at hlt)
        have hsl := HT.out.1.later (bt HB1.out HBR.out)
        have hcp : wr.cell? ⟨g, off + i * 2 + 0, none⟩ = some (.slice sp x.p.length cp) := (hsl.cell hx (j := 0) rfl).trans (congrArg some hpv)
        have hcr : wr.cell? ⟨g, off + i * 2 + 1, none⟩ = some (.slice sr x.r.length cr) := (hsl.cell hx (j := 1) rfl).trans (congrArg some hrv)
        rw [Nat.add_zero] at hcp
        have HXX := Lib.hid hx
        clear hx hok hpv hrv hsl
        go_wp2_with fail
        refine wp_region_t [(0, 1), (1, 1), (2, 1), (3, 1), (4, 1), (5, 1), (6, 1), (7, 1), (8, 1), (9, 1), (10, 1), (11, 1), (12, 1), (13, 1), (14, 1), (15, 1), (16, 1), (17, 1), (18, 1)] (fun w' => w'.cell? ⟨W.heap.size, 0, none⟩ = some (.slice (some ⟨g, off, none⟩) m.types.length c0) ∧ w'.cell? ⟨g, off + i * 2, none⟩ = some (.slice sp x.p.length cp) ∧ w'.cell? ⟨g, off + i * 2 + 1, none⟩ = some (.slice sr x.r.length cr)) [] [] rfl (by kernel_rfl) (by kernel_rfl) (fun _ _ d _ _ h => by cases d <;> exact h) ⟨hc0, hcp, hcr⟩ (fun p hp => by cases hp) ?_
        have HD := Lib.hid (bt HBR.out (below_drew wr))
        generalize wr.drew = wv at HD ⊢
        repeat (first | (refine ts_take (v := ?_) rfl rfl (fun w' hw' => ?_) ?_; rotate_left; (focus (obtain ⟨q1, q2, q3⟩ := hw'; (try simp only [Act.put, List.setIfInBounds_toArray, List.set_cons_zero, List.set_cons_succ]); go_simp; (try go_bits); (try (with_reducible rfl)))); (try simp only [Act.put, List.setIfInBounds_toArray, List.set_cons_zero, List.set_cons_succ])) | (refine ts_skip rfl rfl ?_; (try simp only [Act.put, List.setIfInBounds_toArray, List.set_cons_zero, List.set_cons_succ])))
        refine ts_done ?_
        go_wp2_with fail
        refine ⟨⟨i + 1, n + 1 + x.p.length + x.r.length, by omega, by go_num, by go_num, by omega, fun t ht => ?_, HD.out⟩, by simp [Lib.intOf]; omega⟩
        rw [List.take_add_one, HXX.out] at ht
        rcases List.mem_append.1 ht with ht | ht
        · have := HALL.out t ht; omega
        · obtain rfl : t = x := by simpa using ht
          omega
      · have hn32 : ¬ (n : Int) ≤ 3000 := by omega
        have hn33 : (3000 : Int) < (n : Int) := by omega
        go_wp2_with fail
        go_ret
        exact ⟨⟨_, rfl, fun e => by simp at e⟩, bt HB1.out HBR.out⟩
    · obtain rfl : i = m.types.length := by omega
      have hge : ¬ ((m.types.length : Nat) : Int) < ((m.types.length : Nat) : Int) := by omega
      go_wp2_with fail
      go_ret
      refine ⟨⟨_, rfl, fun e t ht => ?_⟩, bt HB1.out HBR.out⟩
      have := HALL.out t (by rw [List.take_length]; exact ht)
      rw [decide_eq_false_iff_not] at e
      omega
set_option maxRecDepth 100000 in
set_option maxHeartbeats 8000000 in
theorem great_any {W : World} {m : Mod} {f : Ft} {c : Cod} (hm : ModOk W m) (hf : FtOk W f) (hc : CodOk W c) :
    Calls Try.prog 6 #[.agg m.cs.toArray, .agg f.cs.toArray, .agg c.cs.toArray] W fun e w' => GreatSays (Short m ∧ c.body.length ≤ 3000 ∧ f.p.length + f.r.length + c.locs.length ≤ 500) e ∧ Below W.heap.size W w' := by
  obtain ⟨sp, cp, hpv, _⟩ := hf.1.1.form
  obtain ⟨sr, cr, hrv, _⟩ := hf.2.1.form
  obtain ⟨sl, cl, hlv, _⟩ := hc.1.1.form
  obtain ⟨sb, cb, hbv, _⟩ := hc.2.1.form
  have hpl : f.p.length ≤ 1048576 := hf.1.2.2
  have hrl : f.r.length ≤ 1048576 := hf.2.2.2
  have hll : c.locs.length ≤ 1048576 := hc.1.2.2
  have HM := Lib.hid hm
  have HC := Lib.hid hc
  have HV := Lib.hid (And.intro hpv (And.intro hrv (And.intro hlv hbv)))
  clear hm hf hc hpv hrv hlv hbv
  go_enter Try.func6, Try.ntmps6
  go_wp2_with (first | (refine wl_box m.cs _ rfl rfl rfl (fun w1 hb1 hl1 => ?_); have HB1 := Lib.hid hb1; have HL1 := Lib.hid hl1; clear hb1 hl1; simp only [Act.put, List.setIfInBounds_toArray, List.set_cons_zero, List.set_cons_succ]) | (refine wl_box f.cs _ rfl rfl rfl (fun w2 hb2 hl2 => ?_); have HB2 := Lib.hid (bt HB1.out hb2); have HL2 := Lib.hid (HL1.out.below hb2 HL1.out.lt); have HF2 := Lib.hid hl2; clear hb2 hl2; simp only [Act.put, List.setIfInBounds_toArray, List.set_cons_zero, List.set_cons_succ]) | (refine wl_box c.cs _ rfl rfl rfl (fun w3 hb3 hl3 => ?_); have HB3 := Lib.hid (bt HB2.out hb3); have HL3 := Lib.hid (HL2.out.below hb3 HL2.out.lt); have HF3 := Lib.hid (HF2.out.below hb3 HF2.out.lt); have HD3 := Lib.hid hl3; clear hb3 hl3; simp only [Act.put, List.setIfInBounds_toArray, List.set_cons_zero, List.set_cons_succ]) | (refine wpList_load_mid rfl 33 _ rfl W.heap.size 0 rfl m.cs _ (lies_range HL3.out) Try.underlying33 rfl sizeMod ?_; simp only [Act.put, List.setIfInBounds_toArray, List.set_cons_zero, List.set_cons_succ]))
  refine (g8_any (HM.out.later HB3.out)).mono ?_
  rintro en w4 ⟨⟨b8, rfl, h8⟩, hb4⟩
  have H8 := Lib.hid h8
  have HB4 := Lib.hid (bt HB3.out hb4)
  have d1 : w4.cell? ⟨w2.heap.size, 1, none⟩ = some (.slice sb c.body.length cb) := (keepc hb4 (HD3.out.cell 1)).trans (congrArg some HV.out.2.2.2)
  have HF4 := Lib.hid (HF3.out.below hb4 HF3.out.lt)
  have HD4 := Lib.hid (HD3.out.below hb4 HD3.out.lt)
  clear h8 hb4
  cases b8 with
  | true =>
    go_wp2_with fail
    go_ret
    exact ⟨⟨true, rfl, fun e => by cases e⟩, HB4.out⟩
  | false =>
    go_wp2_with fail
    have hsl := HC.out.2.1.later HB4.out
    rw [HV.out.2.2.2] at hsl
    refine (g4_any hsl (fun y hy => (HC.out.2.2.1 y hy).later HB4.out) HC.out.2.2.2).mono ?_
    clear hsl
    rintro en w5 ⟨⟨b4, rfl, h4⟩, hb5⟩
    have H4 := Lib.hid h4
    have HB5 := Lib.hid (bt HB4.out hb5)
    have e0 : w5.cell? ⟨w1.heap.size, 0, none⟩ = some (.slice sp f.p.length cp) := (keepc hb5 (HF4.out.cell 0)).trans (congrArg some HV.out.1)
    have e1 : w5.cell? ⟨w1.heap.size, 1, none⟩ = some (.slice sr f.r.length cr) := (keepc hb5 (HF4.out.cell 1)).trans (congrArg some HV.out.2.1)
    have e2 : w5.cell? ⟨w2.heap.size, 0, none⟩ = some (.slice sl c.locs.length cl) := (keepc hb5 (HD4.out.cell 0)).trans (congrArg some HV.out.2.2.1)
    clear h4 hb5 d1
    cases b4 with
    | true =>
      go_wp2_with fail
      go_ret
      exact ⟨⟨true, rfl, fun e => by cases e⟩, HB5.out⟩
    | false =>
      go_wp2_with fail
      go_ret
      refine ⟨⟨_, rfl, fun e => ⟨H8.out trivial, H4.out trivial, ?_⟩⟩, HB5.out⟩
      rw [decide_eq_false_iff_not] at e
      omega

def mod0 : Mod := ⟨.slice none 0 0, [], .slice none 0 0, [], .slice none 0 0, [], .slice none 0 0, [], .slice none 0 0, [], .slice none 0 0, [], .slice none 0 0, [], false, 0, .slice none 0 0, [], .slice none 0 0, [], .slice none 0 0⟩
def ins (op : UInt8) (a : Nat) (c : Int) : Ins := ⟨op, a, 0, c, .slice none 0 0, []⟩
def cx0 (S : Spc) (pv rv lv bv : Value) (L : List Ins) : Cx := ⟨S, ⟨pv, [127], rv, [126]⟩, ⟨lv, [], bv, L⟩⟩
def spc0 (g : Nat → Option Gt) (a b : Bool) : Spc := ⟨fun _ => none, fun _ => none, g, a, b⟩
section
variable (g : Nat → Option Gt) (a b : Bool) (pv rv lv bv : Value)
theorem kn1 : chk (cx0 (spc0 g a b) pv rv lv bv [ins 32 0 0, ins 173 0 0]) = (1, 0) := by rfl
theorem kn2 : chk (cx0 (spc0 g a b) pv rv lv bv [ins 0 0 0]) = (0, 0) := by rfl
theorem kn3 : chk (cx0 (spc0 g a b) pv rv lv bv [ins 15 0 0]) = (0, 100) := by rfl
theorem kn4 : chk (cx0 (spc0 g a b) pv rv lv bv [ins 66 0 1, ins 12 0 0]) = (1, 0) := by rfl
theorem kn5 : chk (cx0 (spc0 g a b) pv rv lv bv [ins 32 1 0]) = (0, 80) := by rfl
theorem kn6 : chk (cx0 (spc0 g a b) pv rv lv bv [ins 12 1 0]) = (0, 101) := by rfl
theorem kn7 : chk (cx0 (spc0 g a b) pv rv lv bv [ins 65 0 0]) = (0, 100) := by rfl
theorem kn8 : chk (cx0 (spc0 g a b) pv rv lv bv [ins 16 0 0]) = (0, 80) := by rfl
theorem kn9 : chk (cx0 (spc0 g a b) pv rv lv bv [ins 66 0 1, ins 32 0 0, ins 4 64 0, ins 11 0 0]) = (2, 0) := by rfl
end

set_option maxRecDepth 100000 in
set_option maxHeartbeats 8000000 in
theorem fn_any {W : World} : Calls Try.prog 13 #[] W fun e w' => (∃ pv rv, e = .returned (.agg (Ft.cs ⟨pv, [127], rv, [126]⟩).toArray) ∧ FtOk w' ⟨pv, [127], rv, [126]⟩) ∧ Below W.heap.size W w' := by
  go_enter Try.func13, Try.ntmps13
  go_wp2_with fail
  have hl : Lies (((W.alloc (.cells [.slice (some ⟨W.heap.size + 1, 0, none⟩) 1 1, .slice (some ⟨W.heap.size + 1 + 1, 0, none⟩) 1 1].toArray 36)).alloc (.cells #[.int .u8 127] 5)).alloc (.cells #[.int .u8 126] 5)) W.heap.size 36 [.slice (some ⟨W.heap.size + 1, 0, none⟩) 1 1, .slice (some ⟨W.heap.size + 1 + 1, 0, none⟩) 1 1].toArray := ((Lies.new _ _ _).alloc _).alloc _
  have h1 : Lies ((W.alloc (.cells [.slice (some ⟨W.heap.size + 1, 0, none⟩) 1 1, .slice (some ⟨W.heap.size + 1 + 1, 0, none⟩) 1 1].toArray 36)).alloc (.cells #[.int .u8 127] 5)) (W.heap.size + 1) 5 #[.int .u8 127] := lies_new2 _ _ _ _
  have h2 : Lies (((W.alloc (.cells [.slice (some ⟨W.heap.size + 1, 0, none⟩) 1 1, .slice (some ⟨W.heap.size + 1 + 1, 0, none⟩) 1 1].toArray 36)).alloc (.cells #[.int .u8 127] 5)).alloc (.cells #[.int .u8 126] 5)) (W.heap.size + 1 + 1) 5 #[.int .u8 126] := by
    have := lies_new2 (W.alloc (.cells [.slice (some ⟨W.heap.size + 1, 0, none⟩) 1 1, .slice (some ⟨W.heap.size + 1 + 1, 0, none⟩) 1 1].toArray 36)) (.cells #[.int .u8 127] 5) 5 #[.int .u8 126]
    rwa [World.size_alloc] at this
  (try simp only [Exit.inBlock, Exit.then])
  refine bodyPost_ret_by (results_c rfl _ _ W.heap.size [.slice (some ⟨W.heap.size + 1, 0, none⟩) 1 1, .slice (some ⟨W.heap.size + 1 + 1, 0, none⟩) 1 1] _ rfl hl Try.underlying36 rfl sizeFt) rfl ⟨⟨_, _, rfl, ⟨⟨sl_one (x := (127 : UInt8)) (en := u8c) (h1.alloc _), fun _ _ => trivial, (by show (1 : Nat) ≤ 1048576; decide)⟩, ⟨sl_one (x := (126 : UInt8)) (en := u8c) h2, fun _ _ => trivial, (by show (1 : Nat) ≤ 1048576; decide)⟩⟩⟩, ?_⟩
  exact (((Below.refl _ _).alloc (Nat.le_refl _) _).alloc (by simp) _).alloc (by simp; omega) _
set_option maxRecDepth 100000 in
set_option maxHeartbeats 8000000 in
theorem get_any {W : World} : Calls Try.prog 11 #[] W fun e w' => e = .returned (.agg (ins 32 0 0).cs.toArray) ∧ Below W.heap.size W w' := by
  go_enter Try.func11, Try.ntmps11
  go_wp2_with fail
  (try simp only [Exit.inBlock, Exit.then])
  exact bodyPost_ret_by (results_c rfl _ _ W.heap.size (ins 32 0 0).cs _ rfl (Lies.new _ _ _) Try.underlying49 rfl sizeIns) rfl ⟨rfl, (Below.refl _ _).alloc (Nat.le_refl _) _⟩
set_option maxRecDepth 100000 in
set_option maxHeartbeats 8000000 in
theorem one_any {W : World} : Calls Try.prog 12 #[] W fun e w' => e = .returned (.agg (ins 66 0 1).cs.toArray) ∧ Below W.heap.size W w' := by
  go_enter Try.func12, Try.ntmps12
  go_wp2_with fail
  (try simp only [Exit.inBlock, Exit.then])
  exact bodyPost_ret_by (results_c rfl _ _ W.heap.size (ins 66 0 1).cs _ rfl (Lies.new _ _ _) Try.underlying49 rfl sizeIns) rfl ⟨rfl, (Below.refl _ _).alloc (Nat.le_refl _) _⟩
theorem mod0_ok (w : World) : ModOk w mod0 := by
  unfold ModOk mod0
  refine ⟨⟨Sl.nil _ _ _ _, ?_, ?_⟩, ⟨Sl.nil _ _ _ _, ?_, ?_⟩, ⟨Sl.nil _ _ _ _, ?_, ?_⟩, ⟨Sl.nil _ _ _ _, ?_, ?_⟩, ⟨Sl.nil _ _ _ _, ?_, ?_⟩, ⟨Sl.nil _ _ _ _, ?_, ?_⟩, ⟨Sl.nil _ _ _ _, ?_, ?_⟩, ?_, ⟨Sl.nil _ _ _ _, ?_, ?_⟩, ⟨Sl.nil _ _ _ _, ?_, ?_⟩, ?_⟩
  all_goals first | (intro y hy; cases hy) | exact Nat.zero_le _ | (show (0 : Nat) < _; decide) | exact ⟨_, _, _, rfl⟩
theorem spc_mod0 (GS : List Gt) (BS MS : List Lim) : spcOf mod0 GS BS MS = spc0 (fun i => GS[i]?) (BS[0]?).isSome (MS[0]?).isSome := by
  unfold spcOf spc0
  congr 1
theorem cxB0 (S : Spc) (pv rv lv bv : Value) (L : List Ins) (h : S.func = fun _ => none) (h2 : S.type = fun _ => none) : CxB (cx0 S pv rv lv bv L) :=
  ⟨fun i f e => (by rw [show (cx0 S pv rv lv bv L).s.func = _ from h] at e; cases e), fun i f e => (by rw [show (cx0 S pv rv lv bv L).s.type = _ from h2] at e; cases e), by show [126].length ≤ _; decide⟩
set_option maxRecDepth 100000 in
set_option maxHeartbeats 8000000 in
theorem of2_any {W : World} {v : Value} {L : List Ins} {p q : Nat} (hs : Sl W 5 Ins.cs v L) (hx : ∀ y ∈ L, InsOk W y) (hl : L.length ≤ 10) (h : ∀ g a b pv rv lv bv, chk (cx0 (spc0 g a b) pv rv lv bv L) = (p, q)) :
    Calls Try.prog 10 #[v] W fun e w' => e = .returned (.tuple #[.int .i64 p, .int .i64 q]) ∧ Below W.heap.size W w' := by
  obtain ⟨sv, cv, rfl, _⟩ := hs.form
  have HS := Lib.hid hs
  have HX := Lib.hid hx
  have H := Lib.hid h
  clear hs hx h
  go_enter Try.func10, Try.ntmps10
  go_wp2_with fail
  refine (sof_any (m := mod0) (mod0_ok W)).mono ?_
  rintro en w1 ⟨S0, rfl, hsp, _, hb1⟩
  have HSP := Lib.hid hsp
  have HB1 := Lib.hid hb1
  clear hsp hb1
  go_wp2_with fail
  refine fn_any.mono ?_
  rintro en w2 ⟨⟨pv, rv, rfl, hf⟩, hb2⟩
  have HSP2 := Lib.hid (HSP.out.later hb2)
  have HF := Lib.hid hf
  have HB2 := Lib.hid (bt HB1.out hb2)
  clear hf hb2
  go_wp2_with fail
  obtain ⟨GS, BS, MS, hg⟩ := SpG.of HSP2.out
  have hcod : CodOk w2 ⟨.slice none 0 0, [], .slice sv L.length cv, L⟩ := ⟨⟨Sl.nil _ _ _ _, fun _ h => (by cases h), Nat.zero_le _⟩, ⟨HS.out.later HB2.out, fun y hy => (HX.out y hy).later HB2.out, by unfold Bd; show L.length ≤ _; omega⟩⟩
  refine (check_any (c := ⟨.slice none 0 0, [], .slice sv L.length cv, L⟩) hg (mod0_ok w2) HF.out hcod (by show L.length ≤ _; omega) (by rw [spc_mod0]; exact cxB0 _ _ _ _ _ _ rfl rfl)).mono ?_
  rintro en w3 ⟨rfl, hb3⟩
  rw [spc_mod0, show chk (Cx.mk (spc0 (fun i => GS[i]?) (BS[0]?).isSome (MS[0]?).isSome) ⟨pv, [127], rv, [126]⟩ ⟨.slice none 0 0, [], .slice sv L.length cv, L⟩) = (p, q) from H.out _ _ _ _ _ _ _]
  have HB3 := Lib.hid (bt HB2.out hb3)
  clear hb3
  go_wp2_with fail
  go_ret2
  exact ⟨rfl, HB3.out⟩
end Go.Proofs.Ytmgjcaikldeioaa.Ty
