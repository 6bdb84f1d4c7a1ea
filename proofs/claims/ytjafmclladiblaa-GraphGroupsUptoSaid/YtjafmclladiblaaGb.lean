/- The walk of the document's Calls. -/
import Derived.Test.YtjafmclladiblaaGa
namespace Go.Proofs.Ytjafmclladiblaa.Gr
open Go Go.RowKit Kt Fm

/-- Does an instruction call a function? -/
def hit (m : Mod) (h : Nat) (x : Ins) : Bool :=
  (x.op == 16 && x.a == h) || (x.op == 17 && (decide (x.a < m.types.length) && (listedB m h && match ftype m h, m.types[x.a]? with | some t, some u => same t u | _, _ => false)))
/-- Does one function call another one? -/
def callsB (m : Mod) (f h : Nat) : Bool := decide (h < cnt m) && match codeOf m f with | some c => c.body.any (hit m h) | none => false
theorem callsB_some {m : Mod} {f h : Nat} {c : Cod} (hc : codeOf m f = some c) (hh : h < cnt m) : callsB m f h = c.body.any (hit m h) := by rw [callsB, hc, decide_eq_true hh, Bool.true_and]
theorem ftype_mem {m : Mod} {i : Nat} {t : Ft} (h : ftype m i = some t) : t ∈ m.types := by
  unfold ftype at h
  obtain ⟨k, _, hk⟩ := Option.bind_eq_some_iff.1 h
  exact List.mem_of_getElem? hk
theorem sl_range {α : Type} {W : World} {sz : Nat} {en : α → List Value} {L : List α} {g off n c : Nat} (h : Sl W sz en (.slice (some ⟨g, off, none⟩) n c) L) {i : Nat} {x : α} (hi : L[i]? = some x) : W.rangeAt g (off + i * sz) (en x) := fun _ _ hj => h.cell hi hj
theorem exec_loadR {P : Program} {op : Oper} {act : Act} {w : World} {b o : Nat} {ty : TypeId} {cs : List Value} {d : TypeDesc} (hr : w.rangeAt b o cs) (p : Operand) (ho : op.op = .load ty p) (hx : act.eval p = .pointer (some ⟨b, o, none⟩))
    (hu : P.underlying ty = some d) (hd : d.isRow = true) (hi : (P.info? ty).map (·.size) = some cs.length) : (execOp act.eval op).run P w = .ok (.value (.agg cs.toArray)) w := by
  have hl := run_loadAt_mid (P := P) w b o ty cs d hr hu hd hi
  unfold execOp
  simp only [ho, hx, hl, Sem.run_bind, Sem.run_pure, Result.andThen_ok]
theorem codeOf_mem {m : Mod} {f : Nat} {c : Cod} (h : codeOf m f = some c) : c ∈ m.codes := by
  unfold codeOf at h
  split at h
  · exact List.mem_of_getElem? h
  · cases h
theorem u8k {x : UInt8} {k : Nat} (h : (x == UInt8.ofNat k) = true) (hk : k < 256) : (x.toNat : Int) = k := by
  rw [beq_iff_eq] at h
  subst h
  simp
  omega

set_option maxRecDepth 100000 in
set_option maxHeartbeats 16000000 in
theorem rcalls_any {W : World} {m : Mod} (hm : ModOk W m) {f h : Nat} (hf : f ≤ 4194304) (hh : h ≤ 4194304) :
    Calls Try.prog 13 #[.agg m.cs.toArray, .int .i64 f, .int .i64 h] W fun e w' => e = .returned (.bool (callsB m f h)) ∧ Below W.heap.size W w' := by
  have hl4 : m.types.length ≤ 1048576 := hm.1.2.2
  have HE := Lib.hid hm.1
  obtain ⟨s3, cap3, hiv3, hs3⟩ := hm.1.1.form
  have HS3 := Lib.hid hs3
  have hcn : cnt m ≤ 2097152 := by
    have := Nat.le_trans (fimps_le m) hm.2.1.2.2
    have := hm.2.2.1.2.2
    unfold cnt Bd at *
    omega
  have HM := Lib.hid hm
  clear hs3 hm
  go_enter Try.func13, Try.ntmps13
  go_wp2_with (first | (refine wm_box _ rfl rfl rfl (fun w1 hb1 hl1 => ?_); have HB1 := Lib.hid hb1; have HL1 := Lib.hid hl1; have hc1 := hl1.c0; rw [hiv3] at hc1; clear hb1 hl1; simp only [Act.put, List.setIfInBounds_toArray, List.set_cons_zero, List.set_cons_succ]) | (refine wm_load HL1.out _ rfl rfl rfl ?_; simp only [Act.put, List.setIfInBounds_toArray, List.set_cons_zero, List.set_cons_succ]) | (refine wm_loadw HL1.out _ (by first | rfl | (simp [Region.wanted, yielded, *]; done)) rfl rfl ?_; simp only [Act.put, List.setIfInBounds_toArray, List.set_cons_zero, List.set_cons_succ]))
  refine (rcode_any (HM.out.later HB1.out) hf).mono ?_
  rintro en w2 ⟨rfl, hb2⟩
  try dsimp only
  have HB2 := Lib.hid (bt HB1.out hb2)
  replace hc1 := keepc hb2 hc1
  replace HL1 := Lib.hid (HL1.out.later hb2)
  clear hb2 HB1
  cases hco : codeOf m f with
  | none =>
    go_wp2_with fail
    go_ret
    refine ⟨?_, HB2.out⟩
    rw [callsB, hco, Bool.and_false]
    rfl
  | some c =>
    have HCO := Lib.hid hco
    clear hco
    go_wp2_with (first | (refine wm_load HL1.out _ rfl rfl rfl ?_; simp only [Act.put, List.setIfInBounds_toArray, List.set_cons_zero, List.set_cons_succ]) | (refine wm_loadw HL1.out _ (by first | rfl | (simp [Region.wanted, yielded, *]; done)) rfl rfl ?_; simp only [Act.put, List.setIfInBounds_toArray, List.set_cons_zero, List.set_cons_succ]))
    refine (rlen_any (HM.out.later HB2.out)).mono ?_
    rintro en w3 ⟨rfl, hb3⟩
    have HB3 := Lib.hid (bt HB2.out hb3)
    replace hc1 := keepc hb3 hc1
    replace HL1 := Lib.hid (HL1.out.later hb3)
    clear hb3 HB2
    by_cases hlt : h < cnt m
    · have hlt' : ¬ cnt m ≤ h := by omega
      obtain ⟨_, hbsl, hbok, hbl⟩ := HM.out.2.2.2.2.2.2.2.2.2.1.2.1 c (codeOf_mem HCO.out)
      obtain ⟨s, cap, hbv, hs⟩ := hbsl.form
      have HS := Lib.hid hs
      have HC := Lib.hid hbsl
      have HOK := Lib.hid hbok
      have hbl2 : c.body.length ≤ 1048576 := hbl
      have hcv : codeV (some c) = .slice s c.body.length cap := hbv
      clear hs hbsl hbok hbl
      go_wp2_with fail
      go_loopw [9] (fun i wr => ∃ j : Nat, j ≤ c.body.length ∧ i = .int .i64 j ∧ Below w3.heap.size w3 wr ∧ (c.body.take j).any (hit m h) = false)
        (fun i _ => c.body.length - (intOf i).toNat)
      case atStart => exact ⟨0, by omega, rfl, Below.refl _ _, rfl⟩
      case round =>
        obtain ⟨j, hj, rfl, hbr, hno⟩ := hrel
        have HBR := Lib.hid hbr
        have HNO := Lib.hid hno
        replace hc1 := keepc hbr hc1
        replace HL1 := Lib.hid (HL1.out.later hbr)
        clear hbr hno
        by_cases hltj : j < c.body.length
        · obtain ⟨x, hx⟩ : ∃ x, c.body[j]? = some x := ⟨_, List.getElem?_eq_getElem hltj⟩
          obtain ⟨g, off, rfl, hg⟩ := HS.out (by intro e; simp [e] at hltj)
          have hsl := HC.out
          rw [hbv] at hsl
          have hcell := (hsl.later (bt HB3.out HBR.out)).cell hx (j := 0) rfl
          have hcell2 := (hsl.later (bt HB3.out HBR.out)).cell hx (j := 1) rfl
          rw [Nat.add_zero] at hcell
          have hxb : x.a < 4294967296 := (HOK.out x (List.mem_of_getElem? hx)).1
          have HX := Lib.hid hx
          have HANY := Lib.hid (fun (hf : hit m h x = false) => (show (c.body.take (j + 1)).any (hit m h) = false by rw [any_take _ hx, HNO.out, hf]; rfl))
          clear hx hsl
          cases h16 : x.op == 16 with
          | true =>
            have e16 : (x.op.toNat : Int) = 16 := u8k (k := 16) h16 (by decide)
            rw [e16] at hcell
            by_cases hxh : x.a = h
            · have hit1 : hit m h x = true := by rw [hit, h16, hxh, beq_self_eq_true]; rfl
              subst hxh
              go_wp2_with fail
              go_ret
              refine ⟨?_, bt HB3.out HBR.out⟩
              rw [callsB_some HCO.out hlt, any_of HX.out hit1]
              rfl
            · have hxh' : ¬ (x.a : Int) = (h : Int) := by omega
              have h17 : (x.op == 17) = false := by rw [beq_iff_eq] at h16; rw [h16]; rfl
              have HANY2 := Lib.hid (HANY.out (by rw [hit, h16, h17, beq_eq_false_iff_ne.2 hxh]; rfl))
              go_wp2_with fail
              refine wp_region_b [(0, true), (1, true), (2, true), (3, true), (4, true), (5, true), (6, true), (7, true), (8, true), (9, true), (10, true), (11, true), (12, true), (13, true), (14, true), (15, true), (16, true), (17, true), (18, true), (19, true), (20, true), (21, true), (22, false), (23, true), (24, true)] (by kernel_rfl) (by kernel_rfl) (fun _ _ d _ _ h => by cases d <;> exact h) ?_
              intro V hbV
              replace hc1 := keepc hbV hc1
              replace hcell := keepc hbV hcell
              replace hcell2 := keepc hbV hcell2
              replace HL1 := Lib.hid (HL1.out.later hbV)
              have hS0 : Below V.heap.size V V := Below.refl _ _
              repeat (first | (refine hs_take (v := .agg m.cs.toArray) rfl rfl (fun w' hw' => exec_loadM (HL1.out.later hw') _ rfl rfl) ?_; (try simp only [Act.put, List.setIfInBounds_toArray, List.set_cons_zero, List.set_cons_succ])) | (refine hs_take (v := ?_) rfl rfl (fun w' hw' => ?_) ?_; rotate_left; (focus (have q0 := keepc hw' hc1; have q1 := keepc hw' hcell; have q2 := keepc hw' hcell2; clear hw'; (try simp only [Act.put, List.setIfInBounds_toArray, List.set_cons_zero, List.set_cons_succ]); go_simp; (try go_bits); (try (with_reducible rfl)))); (try simp only [Act.put, List.setIfInBounds_toArray, List.set_cons_zero, List.set_cons_succ])) | (refine hs_skip rfl rfl ?_; (try simp only [Act.put, List.setIfInBounds_toArray, List.set_cons_zero, List.set_cons_succ])))
              refine hs_pass rfl rfl hS0 ?_
              have hS1 := hS0
              (try simp only [Act.put, List.setIfInBounds_toArray, List.set_cons_zero, List.set_cons_succ])
              repeat (first | (refine hs_take (v := .agg m.cs.toArray) rfl rfl (fun w' hw' => exec_loadM (HL1.out.later hw') _ rfl rfl) ?_; (try simp only [Act.put, List.setIfInBounds_toArray, List.set_cons_zero, List.set_cons_succ])) | (refine hs_take (v := ?_) rfl rfl (fun w' hw' => ?_) ?_; rotate_left; (focus (have q0 := keepc hw' hc1; have q1 := keepc hw' hcell; have q2 := keepc hw' hcell2; clear hw'; (try simp only [Act.put, List.setIfInBounds_toArray, List.set_cons_zero, List.set_cons_succ]); go_simp; (try go_bits); (try (with_reducible rfl)))); (try simp only [Act.put, List.setIfInBounds_toArray, List.set_cons_zero, List.set_cons_succ])) | (refine hs_skip rfl rfl ?_; (try simp only [Act.put, List.setIfInBounds_toArray, List.set_cons_zero, List.set_cons_succ])))
              refine hs_done ?_
              go_wp2_with fail
              exact ⟨⟨j + 1, by omega, by go_num, bt (bt HBR.out hbV) hS1, HANY2.out⟩, by simp [intOf]; omega⟩
          | false =>
            have e16 : ¬ (x.op.toNat : Int) = 16 := by have := u8b16 x.op; rw [h16] at this; simpa using this
            have h16b : (x.op == 16 && x.a == h) = false := by rw [h16]; rfl
            cases h17 : x.op == 17 with
            | false =>
              have e17 : ¬ (x.op.toNat : Int) = 17 := by have := u8b17 x.op; rw [h17] at this; simpa using this
              have e17b : ((x.op.toNat : Int) == 17) = false := by rw [u8b17, h17]
              have e17c : ((x.op.toNat : Int) != 17) = true := by rw [bne, e17b]; rfl
              have HANY2 := Lib.hid (HANY.out (by rw [hit, h16b, h17]; rfl))
              go_wp2_with fail
              refine wp_region_b [(0, true), (1, true), (2, true), (3, true), (4, true), (5, true), (6, true), (7, true), (8, true), (9, true), (10, true), (11, true), (12, true), (13, true), (14, true), (15, true), (16, true), (17, true), (18, true), (19, true), (20, true), (21, true), (22, false), (23, true), (24, true)] (by kernel_rfl) (by kernel_rfl) (fun _ _ d _ _ h => by cases d <;> exact h) ?_
              intro V hbV
              replace hc1 := keepc hbV hc1
              replace hcell := keepc hbV hcell
              replace hcell2 := keepc hbV hcell2
              replace HL1 := Lib.hid (HL1.out.later hbV)
              have hS0 : Below V.heap.size V V := Below.refl _ _
              repeat (first | (refine hs_take (v := .agg m.cs.toArray) rfl rfl (fun w' hw' => exec_loadM (HL1.out.later hw') _ rfl rfl) ?_; (try simp only [Act.put, List.setIfInBounds_toArray, List.set_cons_zero, List.set_cons_succ])) | (refine hs_take (v := ?_) rfl rfl (fun w' hw' => ?_) ?_; rotate_left; (focus (have q0 := keepc hw' hc1; have q1 := keepc hw' hcell; have q2 := keepc hw' hcell2; clear hw'; (try simp only [Act.put, List.setIfInBounds_toArray, List.set_cons_zero, List.set_cons_succ]); go_simp; (try go_bits); (try (with_reducible rfl)))); (try simp only [Act.put, List.setIfInBounds_toArray, List.set_cons_zero, List.set_cons_succ])) | (refine hs_skip rfl rfl ?_; (try simp only [Act.put, List.setIfInBounds_toArray, List.set_cons_zero, List.set_cons_succ])))
              refine hs_pass rfl rfl hS0 ?_
              have hS1 := hS0
              (try simp only [Act.put, List.setIfInBounds_toArray, List.set_cons_zero, List.set_cons_succ])
              repeat (first | (refine hs_take (v := .agg m.cs.toArray) rfl rfl (fun w' hw' => exec_loadM (HL1.out.later hw') _ rfl rfl) ?_; (try simp only [Act.put, List.setIfInBounds_toArray, List.set_cons_zero, List.set_cons_succ])) | (refine hs_take (v := ?_) rfl rfl (fun w' hw' => ?_) ?_; rotate_left; (focus (have q0 := keepc hw' hc1; have q1 := keepc hw' hcell; have q2 := keepc hw' hcell2; clear hw'; (try simp only [Act.put, List.setIfInBounds_toArray, List.set_cons_zero, List.set_cons_succ]); go_simp; (try go_bits); (try (with_reducible rfl)))); (try simp only [Act.put, List.setIfInBounds_toArray, List.set_cons_zero, List.set_cons_succ])) | (refine hs_skip rfl rfl ?_; (try simp only [Act.put, List.setIfInBounds_toArray, List.set_cons_zero, List.set_cons_succ])))
              refine hs_done ?_
              go_wp2_with fail
              exact ⟨⟨j + 1, by omega, by go_num, bt (bt HBR.out hbV) hS1, HANY2.out⟩, by simp [intOf]; omega⟩
            | true =>
              have e17 : (x.op.toNat : Int) = 17 := u8k (k := 17) h17 (by decide)
              rw [e17] at hcell
              clear e16
              by_cases ha : x.a < m.types.length
              · have ha' : ¬ m.types.length ≤ x.a := by omega
                go_wp2_with fail
                cases hli : listedB m h with
                | false =>
                  have HANY2 := Lib.hid (HANY.out (by rw [hit, h16b, h17, hli, Bool.false_and, Bool.and_false]; rfl))
                  refine wp_region_b [(0, true), (1, true), (2, true), (3, true), (4, true), (5, true), (6, true), (7, true), (8, true), (9, true), (10, true), (11, true), (12, true), (13, true), (14, true), (15, true), (16, true), (17, true), (18, true), (19, true), (20, true), (21, true), (22, false), (23, true), (24, true)] (by kernel_rfl) (by kernel_rfl) (fun _ _ d _ _ h => by cases d <;> exact h) ?_
                  intro V hbV
                  replace hc1 := keepc hbV hc1
                  replace hcell := keepc hbV hcell
                  replace hcell2 := keepc hbV hcell2
                  replace HL1 := Lib.hid (HL1.out.later hbV)
                  have hS0 : Below V.heap.size V V := Below.refl _ _
                  repeat (first | (refine hs_take (v := .agg m.cs.toArray) rfl rfl (fun w' hw' => exec_loadM (HL1.out.later hw') _ rfl rfl) ?_; (try simp only [Act.put, List.setIfInBounds_toArray, List.set_cons_zero, List.set_cons_succ])) | (refine hs_take (v := ?_) rfl rfl (fun w' hw' => ?_) ?_; rotate_left; (focus (have q0 := keepc hw' hc1; have q1 := keepc hw' hcell; have q2 := keepc hw' hcell2; clear hw'; (try simp only [Act.put, List.setIfInBounds_toArray, List.set_cons_zero, List.set_cons_succ]); go_simp; (try go_bits); (try (with_reducible rfl)))); (try simp only [Act.put, List.setIfInBounds_toArray, List.set_cons_zero, List.set_cons_succ])) | (refine hs_skip rfl rfl ?_; (try simp only [Act.put, List.setIfInBounds_toArray, List.set_cons_zero, List.set_cons_succ])))
                  refine hs_run rfl (fun K hK => ?_)
                  go_simp
                  refine (rlisted_any (HM.out.later (bt (bt (bt HB3.out HBR.out) hbV) hS0)) hh).mono ?_
                  rintro en V1 ⟨rfl, hB1⟩
                  have hS1 := bt hS0 hB1
                  clear hB1 hS0
                  refine hK.out _ _ hS1 ?_
                  clear hK K
                  (try simp only [Act.put, List.setIfInBounds_toArray, List.set_cons_zero, List.set_cons_succ])
                  repeat (first | (refine hs_take (v := .agg m.cs.toArray) rfl rfl (fun w' hw' => exec_loadM (HL1.out.later hw') _ rfl rfl) ?_; (try simp only [Act.put, List.setIfInBounds_toArray, List.set_cons_zero, List.set_cons_succ])) | (refine hs_take (v := ?_) rfl rfl (fun w' hw' => ?_) ?_; rotate_left; (focus (have q0 := keepc hw' hc1; have q1 := keepc hw' hcell; have q2 := keepc hw' hcell2; clear hw'; (try simp only [Act.put, List.setIfInBounds_toArray, List.set_cons_zero, List.set_cons_succ]); go_simp; (try go_bits); (try (with_reducible rfl)))); (try simp only [Act.put, List.setIfInBounds_toArray, List.set_cons_zero, List.set_cons_succ])) | (refine hs_skip rfl rfl ?_; (try simp only [Act.put, List.setIfInBounds_toArray, List.set_cons_zero, List.set_cons_succ])))
                  refine hs_done ?_
                  go_wp2_with fail
                  exact ⟨⟨j + 1, by omega, by go_num, bt (bt HBR.out hbV) hS1, HANY2.out⟩, by simp [intOf]; omega⟩
                | true =>
                  refine wp_region_b [(0, true), (1, true), (2, true), (3, true), (4, true), (5, true), (6, true), (7, true), (8, true), (9, true), (10, true), (11, true), (12, true), (13, true), (14, true), (15, true), (16, true), (17, true), (18, true), (19, true), (20, true), (21, true), (22, false), (23, true), (24, true)] (by kernel_rfl) (by kernel_rfl) (fun _ _ d _ _ h => by cases d <;> exact h) ?_
                  intro V hbV
                  replace hc1 := keepc hbV hc1
                  replace hcell := keepc hbV hcell
                  replace hcell2 := keepc hbV hcell2
                  replace HL1 := Lib.hid (HL1.out.later hbV)
                  have hS0 : Below V.heap.size V V := Below.refl _ _
                  repeat (first | (refine hs_take (v := .agg m.cs.toArray) rfl rfl (fun w' hw' => exec_loadM (HL1.out.later hw') _ rfl rfl) ?_; (try simp only [Act.put, List.setIfInBounds_toArray, List.set_cons_zero, List.set_cons_succ])) | (refine hs_take (v := ?_) rfl rfl (fun w' hw' => ?_) ?_; rotate_left; (focus (have q0 := keepc hw' hc1; have q1 := keepc hw' hcell; have q2 := keepc hw' hcell2; clear hw'; (try simp only [Act.put, List.setIfInBounds_toArray, List.set_cons_zero, List.set_cons_succ]); go_simp; (try go_bits); (try (with_reducible rfl)))); (try simp only [Act.put, List.setIfInBounds_toArray, List.set_cons_zero, List.set_cons_succ])) | (refine hs_skip rfl rfl ?_; (try simp only [Act.put, List.setIfInBounds_toArray, List.set_cons_zero, List.set_cons_succ])))
                  refine hs_run rfl (fun K hK => ?_)
                  go_simp
                  refine (rlisted_any (HM.out.later (bt (bt (bt HB3.out HBR.out) hbV) hS0)) hh).mono ?_
                  rintro en V1 ⟨rfl, hB1⟩
                  have hS1 := bt hS0 hB1
                  clear hB1 hS0
                  refine hK.out _ _ hS1 ?_
                  clear hK K
                  (try simp only [Act.put, List.setIfInBounds_toArray, List.set_cons_zero, List.set_cons_succ])
                  repeat (first | (refine hs_take (v := .agg m.cs.toArray) rfl rfl (fun w' hw' => exec_loadM (HL1.out.later hw') _ rfl rfl) ?_; (try simp only [Act.put, List.setIfInBounds_toArray, List.set_cons_zero, List.set_cons_succ])) | (refine hs_take (v := ?_) rfl rfl (fun w' hw' => ?_) ?_; rotate_left; (focus (have q0 := keepc hw' hc1; have q1 := keepc hw' hcell; have q2 := keepc hw' hcell2; clear hw'; (try simp only [Act.put, List.setIfInBounds_toArray, List.set_cons_zero, List.set_cons_succ]); go_simp; (try go_bits); (try (with_reducible rfl)))); (try simp only [Act.put, List.setIfInBounds_toArray, List.set_cons_zero, List.set_cons_succ])) | (refine hs_skip rfl rfl ?_; (try simp only [Act.put, List.setIfInBounds_toArray, List.set_cons_zero, List.set_cons_succ])))
                  refine hs_done ?_
                  have HBR2 := Lib.hid (bt (bt HBR.out hbV) hS1)
                  replace HL1 := Lib.hid (HL1.out.later hS1)
                  replace hc1 := keepc hS1 hc1
                  replace hcell := keepc hS1 hcell
                  replace hcell2 := keepc hS1 hcell2
                  clear hS1 hbV HBR
                  go_wp2_with (first | (refine wm_load HL1.out _ rfl rfl rfl ?_; simp only [Act.put, List.setIfInBounds_toArray, List.set_cons_zero, List.set_cons_succ]) | (refine wm_loadw HL1.out _ (by first | rfl | (simp [Region.wanted, yielded, *]; done)) rfl rfl ?_; simp only [Act.put, List.setIfInBounds_toArray, List.set_cons_zero, List.set_cons_succ]))
                  refine (rfunc_any (HM.out.later (bt HB3.out HBR2.out)) hh).mono ?_
                  rintro en w5 ⟨rfl, hb5⟩
                  try dsimp only
                  have HBR3 := Lib.hid (bt HBR2.out hb5)
                  replace HL1 := Lib.hid (HL1.out.later hb5)
                  replace hc1 := keepc hb5 hc1
                  replace hcell := keepc hb5 hcell
                  replace hcell2 := keepc hb5 hcell2
                  clear hb5 HBR2
                  cases hft : ftype m h with
                  | none =>
                    dsimp only [ftC, Option.isSome]
                    have HANY2 := Lib.hid (HANY.out (by rw [hit, h16b, h17, hli, hft]; simp))
                    go_wp2_with (refine wl_put (Lies.new _ _ _) nilFt _ _ rfl rfl rfl rfl rfl sizeFt oneNil (fun w6 hL6 hF6 => ?_); have HL6 := Lib.hid hL6; have HF6 := Lib.hid hF6; clear hL6 hF6; try simp only [Act.put])
                    have hb6 : Below w5.heap.size w5 w6 := below_put ((Below.refl _ _).alloc (Nat.le_refl _) _) HF6.out (Nat.le_refl _)
                    have HBR4 := Lib.hid (bt HBR3.out hb6)
                    replace HL1 := Lib.hid (HL1.out.later hb6)
                    replace hc1 := keepc hb6 hc1
                    replace hcell := keepc hb6 hcell
                    replace hcell2 := keepc hb6 hcell2
                    clear hb6 HBR3 HF6 HL6
                    refine wp_region_b [(0, true), (1, true), (2, true), (3, true), (4, true), (5, true), (6, true), (7, true), (8, true), (9, true), (10, true), (11, true), (12, false), (13, true)] (by kernel_rfl) (by kernel_rfl) (fun _ _ d _ _ h => by cases d <;> exact h) ?_
                    intro V2 hbV2
                    replace hc1 := keepc hbV2 hc1
                    replace hcell := keepc hbV2 hcell
                    replace hcell2 := keepc hbV2 hcell2
                    replace HL1 := Lib.hid (HL1.out.later hbV2)
                    have hS0 : Below V2.heap.size V2 V2 := Below.refl _ _
                    repeat (first | (refine hs_take (v := .agg m.cs.toArray) rfl rfl (fun w' hw' => exec_loadM (HL1.out.later hw') _ rfl rfl) ?_; (try simp only [Act.put, List.setIfInBounds_toArray, List.set_cons_zero, List.set_cons_succ])) | (refine hs_take (v := ?_) rfl rfl (fun w' hw' => ?_) ?_; rotate_left; (focus (have q0 := keepc hw' hc1; have q1 := keepc hw' hcell; have q2 := keepc hw' hcell2; clear hw'; (try simp only [Act.put, List.setIfInBounds_toArray, List.set_cons_zero, List.set_cons_succ]); go_simp; (try go_bits); (try (with_reducible rfl)))); (try simp only [Act.put, List.setIfInBounds_toArray, List.set_cons_zero, List.set_cons_succ])) | (refine hs_skip rfl rfl ?_; (try simp only [Act.put, List.setIfInBounds_toArray, List.set_cons_zero, List.set_cons_succ])))
                    refine hs_pass rfl rfl hS0 ?_
                    have hS1 := hS0
                    (try simp only [Act.put, List.setIfInBounds_toArray, List.set_cons_zero, List.set_cons_succ])
                    repeat (first | (refine hs_take (v := .agg m.cs.toArray) rfl rfl (fun w' hw' => exec_loadM (HL1.out.later hw') _ rfl rfl) ?_; (try simp only [Act.put, List.setIfInBounds_toArray, List.set_cons_zero, List.set_cons_succ])) | (refine hs_take (v := ?_) rfl rfl (fun w' hw' => ?_) ?_; rotate_left; (focus (have q0 := keepc hw' hc1; have q1 := keepc hw' hcell; have q2 := keepc hw' hcell2; clear hw'; (try simp only [Act.put, List.setIfInBounds_toArray, List.set_cons_zero, List.set_cons_succ]); go_simp; (try go_bits); (try (with_reducible rfl)))); (try simp only [Act.put, List.setIfInBounds_toArray, List.set_cons_zero, List.set_cons_succ])) | (refine hs_skip rfl rfl ?_; (try simp only [Act.put, List.setIfInBounds_toArray, List.set_cons_zero, List.set_cons_succ])))
                    refine hs_done ?_
                    go_wp2_with fail
                    exact ⟨⟨j + 1, by omega, by go_num, bt (bt HBR4.out hbV2) hS1, HANY2.out⟩, by simp [intOf]; omega⟩
                  | some t =>
                    dsimp only [ftC, Option.isSome]
                    have HT := Lib.hid (HM.out.1.2.1 t (ftype_mem hft))
                    obtain ⟨u, hu⟩ : ∃ u, m.types[x.a]? = some u := ⟨_, List.getElem?_eq_getElem ha⟩
                    have HU := Lib.hid (HM.out.1.2.1 u (List.mem_of_getElem? hu))
                    have HHIT := Lib.hid (show hit m h x = same t u by rw [hit, h16b, h17, hli, hft, hu, decide_eq_true ha]; rfl)
                    have HO := Lib.hid (oneFt HT.out)
                    go_wp2_with (refine wl_put (Lies.new _ _ _) t.cs _ _ rfl rfl rfl rfl rfl sizeFt HO.out (fun w6 hL6 hF6 => ?_); have HL6 := Lib.hid hL6; have HF6 := Lib.hid hF6; clear hL6 hF6; try simp only [Act.put])
                    have hb6 : Below w5.heap.size w5 w6 := below_put ((Below.refl _ _).alloc (Nat.le_refl _) _) HF6.out (Nat.le_refl _)
                    have HBR4 := Lib.hid (bt HBR3.out hb6)
                    replace HL1 := Lib.hid (HL1.out.later hb6)
                    replace hc1 := keepc hb6 hc1
                    replace hcell := keepc hb6 hcell
                    replace hcell2 := keepc hb6 hcell2
                    obtain ⟨g3, off3, rfl, hg3⟩ := HS3.out (by intro e; simp [e] at ha)
                    have hsl3 := HE.out.1
                    rw [hiv3] at hsl3
                    have hru := sl_range (hsl3.later (bt HB3.out HBR4.out)) hu
                    have hrt := lies_range HL6.out
                    clear hb6 HBR3 HF6 HL6 hsl3 hu hft
                    cases hsm : same t u with
                    | true =>
                      have hit1 : hit m h x = true := by rw [HHIT.out, hsm]
                      refine wp_region_b [(0, true), (1, true), (2, true), (3, true), (4, true), (5, true), (6, true), (7, true), (8, true), (9, true), (10, true), (11, true), (12, false), (13, true)] (by kernel_rfl) (by kernel_rfl) (fun _ _ d _ _ h => by cases d <;> exact h) ?_
                      intro V2 hbV2
                      replace hc1 := keepc hbV2 hc1
                      replace hcell := keepc hbV2 hcell
                      replace hcell2 := keepc hbV2 hcell2
                      replace HL1 := Lib.hid (HL1.out.later hbV2)
                      replace hrt := keepr hbV2 hrt
                      replace hru := keepr hbV2 hru
                      have hS0 : Below V2.heap.size V2 V2 := Below.refl _ _
                      repeat (first | (refine hs_take (v := .agg m.cs.toArray) rfl rfl (fun w' hw' => exec_loadM (HL1.out.later hw') _ rfl rfl) ?_; (try simp only [Act.put, List.setIfInBounds_toArray, List.set_cons_zero, List.set_cons_succ])) | (refine hs_take (v := .agg t.cs.toArray) rfl rfl (fun w' hw' => exec_loadR (keepr hw' hrt) _ rfl rfl Try.underlying78 rfl sizeFt) ?_; (try simp only [Act.put, List.setIfInBounds_toArray, List.set_cons_zero, List.set_cons_succ])) | (refine hs_take (v := .agg u.cs.toArray) rfl rfl (fun w' hw' => exec_loadR (keepr hw' hru) _ rfl rfl Try.underlying78 rfl sizeFt) ?_; (try simp only [Act.put, List.setIfInBounds_toArray, List.set_cons_zero, List.set_cons_succ])) | (refine hs_take (v := ?_) rfl rfl (fun w' hw' => ?_) ?_; rotate_left; (focus (have q0 := keepc hw' hc1; have q1 := keepc hw' hcell; have q2 := keepc hw' hcell2; clear hw'; (try simp only [Act.put, List.setIfInBounds_toArray, List.set_cons_zero, List.set_cons_succ]); go_simp; (try go_bits); (try (with_reducible rfl)))); (try simp only [Act.put, List.setIfInBounds_toArray, List.set_cons_zero, List.set_cons_succ])) | (refine hs_skip rfl rfl ?_; (try simp only [Act.put, List.setIfInBounds_toArray, List.set_cons_zero, List.set_cons_succ])))
                      refine hs_run rfl (fun K hK => ?_)
                      go_simp
                      refine (rsame_any (HT.out.later (bt (bt (bt HB3.out HBR4.out) hbV2) hS0)) (HU.out.later (bt (bt (bt HB3.out HBR4.out) hbV2) hS0))).mono ?_
                      rintro en V21 ⟨rfl, hB1⟩
                      have hS1 := bt hS0 hB1
                      clear hB1 hS0
                      refine hK.out _ _ hS1 ?_
                      clear hK K
                      (try simp only [Act.put, List.setIfInBounds_toArray, List.set_cons_zero, List.set_cons_succ])
                      repeat (first | (refine hs_take (v := .agg m.cs.toArray) rfl rfl (fun w' hw' => exec_loadM (HL1.out.later hw') _ rfl rfl) ?_; (try simp only [Act.put, List.setIfInBounds_toArray, List.set_cons_zero, List.set_cons_succ])) | (refine hs_take (v := .agg t.cs.toArray) rfl rfl (fun w' hw' => exec_loadR (keepr hw' hrt) _ rfl rfl Try.underlying78 rfl sizeFt) ?_; (try simp only [Act.put, List.setIfInBounds_toArray, List.set_cons_zero, List.set_cons_succ])) | (refine hs_take (v := .agg u.cs.toArray) rfl rfl (fun w' hw' => exec_loadR (keepr hw' hru) _ rfl rfl Try.underlying78 rfl sizeFt) ?_; (try simp only [Act.put, List.setIfInBounds_toArray, List.set_cons_zero, List.set_cons_succ])) | (refine hs_take (v := ?_) rfl rfl (fun w' hw' => ?_) ?_; rotate_left; (focus (have q0 := keepc hw' hc1; have q1 := keepc hw' hcell; have q2 := keepc hw' hcell2; clear hw'; (try simp only [Act.put, List.setIfInBounds_toArray, List.set_cons_zero, List.set_cons_succ]); go_simp; (try go_bits); (try (with_reducible rfl)))); (try simp only [Act.put, List.setIfInBounds_toArray, List.set_cons_zero, List.set_cons_succ])) | (refine hs_skip rfl rfl ?_; (try simp only [Act.put, List.setIfInBounds_toArray, List.set_cons_zero, List.set_cons_succ])))
                      refine hs_done ?_
                      go_wp2_with fail
                      go_ret
                      refine ⟨?_, bt HB3.out (bt (bt HBR4.out hbV2) hS1)⟩
                      rw [callsB_some HCO.out hlt, any_of HX.out hit1]
                      rfl
                    | false =>
                      have HANY2 := Lib.hid (HANY.out (by rw [HHIT.out, hsm]))
                      refine wp_region_b [(0, true), (1, true), (2, true), (3, true), (4, true), (5, true), (6, true), (7, true), (8, true), (9, true), (10, true), (11, true), (12, false), (13, true)] (by kernel_rfl) (by kernel_rfl) (fun _ _ d _ _ h => by cases d <;> exact h) ?_
                      intro V2 hbV2
                      replace hc1 := keepc hbV2 hc1
                      replace hcell := keepc hbV2 hcell
                      replace hcell2 := keepc hbV2 hcell2
                      replace HL1 := Lib.hid (HL1.out.later hbV2)
                      replace hrt := keepr hbV2 hrt
                      replace hru := keepr hbV2 hru
                      have hS0 : Below V2.heap.size V2 V2 := Below.refl _ _
                      repeat (first | (refine hs_take (v := .agg m.cs.toArray) rfl rfl (fun w' hw' => exec_loadM (HL1.out.later hw') _ rfl rfl) ?_; (try simp only [Act.put, List.setIfInBounds_toArray, List.set_cons_zero, List.set_cons_succ])) | (refine hs_take (v := .agg t.cs.toArray) rfl rfl (fun w' hw' => exec_loadR (keepr hw' hrt) _ rfl rfl Try.underlying78 rfl sizeFt) ?_; (try simp only [Act.put, List.setIfInBounds_toArray, List.set_cons_zero, List.set_cons_succ])) | (refine hs_take (v := .agg u.cs.toArray) rfl rfl (fun w' hw' => exec_loadR (keepr hw' hru) _ rfl rfl Try.underlying78 rfl sizeFt) ?_; (try simp only [Act.put, List.setIfInBounds_toArray, List.set_cons_zero, List.set_cons_succ])) | (refine hs_take (v := ?_) rfl rfl (fun w' hw' => ?_) ?_; rotate_left; (focus (have q0 := keepc hw' hc1; have q1 := keepc hw' hcell; have q2 := keepc hw' hcell2; clear hw'; (try simp only [Act.put, List.setIfInBounds_toArray, List.set_cons_zero, List.set_cons_succ]); go_simp; (try go_bits); (try (with_reducible rfl)))); (try simp only [Act.put, List.setIfInBounds_toArray, List.set_cons_zero, List.set_cons_succ])) | (refine hs_skip rfl rfl ?_; (try simp only [Act.put, List.setIfInBounds_toArray, List.set_cons_zero, List.set_cons_succ])))
                      refine hs_run rfl (fun K hK => ?_)
                      go_simp
                      refine (rsame_any (HT.out.later (bt (bt (bt HB3.out HBR4.out) hbV2) hS0)) (HU.out.later (bt (bt (bt HB3.out HBR4.out) hbV2) hS0))).mono ?_
                      rintro en V21 ⟨rfl, hB1⟩
                      have hS1 := bt hS0 hB1
                      clear hB1 hS0
                      refine hK.out _ _ hS1 ?_
                      clear hK K
                      (try simp only [Act.put, List.setIfInBounds_toArray, List.set_cons_zero, List.set_cons_succ])
                      repeat (first | (refine hs_take (v := .agg m.cs.toArray) rfl rfl (fun w' hw' => exec_loadM (HL1.out.later hw') _ rfl rfl) ?_; (try simp only [Act.put, List.setIfInBounds_toArray, List.set_cons_zero, List.set_cons_succ])) | (refine hs_take (v := .agg t.cs.toArray) rfl rfl (fun w' hw' => exec_loadR (keepr hw' hrt) _ rfl rfl Try.underlying78 rfl sizeFt) ?_; (try simp only [Act.put, List.setIfInBounds_toArray, List.set_cons_zero, List.set_cons_succ])) | (refine hs_take (v := .agg u.cs.toArray) rfl rfl (fun w' hw' => exec_loadR (keepr hw' hru) _ rfl rfl Try.underlying78 rfl sizeFt) ?_; (try simp only [Act.put, List.setIfInBounds_toArray, List.set_cons_zero, List.set_cons_succ])) | (refine hs_take (v := ?_) rfl rfl (fun w' hw' => ?_) ?_; rotate_left; (focus (have q0 := keepc hw' hc1; have q1 := keepc hw' hcell; have q2 := keepc hw' hcell2; clear hw'; (try simp only [Act.put, List.setIfInBounds_toArray, List.set_cons_zero, List.set_cons_succ]); go_simp; (try go_bits); (try (with_reducible rfl)))); (try simp only [Act.put, List.setIfInBounds_toArray, List.set_cons_zero, List.set_cons_succ])) | (refine hs_skip rfl rfl ?_; (try simp only [Act.put, List.setIfInBounds_toArray, List.set_cons_zero, List.set_cons_succ])))
                      refine hs_done ?_
                      go_wp2_with fail
                      exact ⟨⟨j + 1, by omega, by go_num, bt (bt HBR4.out hbV2) hS1, HANY2.out⟩, by simp [intOf]; omega⟩
              · have ha' : m.types.length ≤ x.a := by omega
                have HANY2 := Lib.hid (HANY.out (by rw [hit, h16b, h17, decide_eq_false ha]; rfl))
                go_wp2_with fail
                refine wp_region_b [(0, true), (1, true), (2, true), (3, true), (4, true), (5, true), (6, true), (7, true), (8, true), (9, true), (10, true), (11, true), (12, true), (13, true), (14, true), (15, true), (16, true), (17, true), (18, true), (19, true), (20, true), (21, true), (22, false), (23, true), (24, true)] (by kernel_rfl) (by kernel_rfl) (fun _ _ d _ _ h => by cases d <;> exact h) ?_
                intro V hbV
                replace hc1 := keepc hbV hc1
                replace hcell := keepc hbV hcell
                replace hcell2 := keepc hbV hcell2
                replace HL1 := Lib.hid (HL1.out.later hbV)
                have hS0 : Below V.heap.size V V := Below.refl _ _
                repeat (first | (refine hs_take (v := .agg m.cs.toArray) rfl rfl (fun w' hw' => exec_loadM (HL1.out.later hw') _ rfl rfl) ?_; (try simp only [Act.put, List.setIfInBounds_toArray, List.set_cons_zero, List.set_cons_succ])) | (refine hs_take (v := ?_) rfl rfl (fun w' hw' => ?_) ?_; rotate_left; (focus (have q0 := keepc hw' hc1; have q1 := keepc hw' hcell; have q2 := keepc hw' hcell2; clear hw'; (try simp only [Act.put, List.setIfInBounds_toArray, List.set_cons_zero, List.set_cons_succ]); go_simp; (try go_bits); (try (with_reducible rfl)))); (try simp only [Act.put, List.setIfInBounds_toArray, List.set_cons_zero, List.set_cons_succ])) | (refine hs_skip rfl rfl ?_; (try simp only [Act.put, List.setIfInBounds_toArray, List.set_cons_zero, List.set_cons_succ])))
                refine hs_pass rfl rfl hS0 ?_
                have hS1 := hS0
                (try simp only [Act.put, List.setIfInBounds_toArray, List.set_cons_zero, List.set_cons_succ])
                repeat (first | (refine hs_take (v := .agg m.cs.toArray) rfl rfl (fun w' hw' => exec_loadM (HL1.out.later hw') _ rfl rfl) ?_; (try simp only [Act.put, List.setIfInBounds_toArray, List.set_cons_zero, List.set_cons_succ])) | (refine hs_take (v := ?_) rfl rfl (fun w' hw' => ?_) ?_; rotate_left; (focus (have q0 := keepc hw' hc1; have q1 := keepc hw' hcell; have q2 := keepc hw' hcell2; clear hw'; (try simp only [Act.put, List.setIfInBounds_toArray, List.set_cons_zero, List.set_cons_succ]); go_simp; (try go_bits); (try (with_reducible rfl)))); (try simp only [Act.put, List.setIfInBounds_toArray, List.set_cons_zero, List.set_cons_succ])) | (refine hs_skip rfl rfl ?_; (try simp only [Act.put, List.setIfInBounds_toArray, List.set_cons_zero, List.set_cons_succ])))
                refine hs_done ?_
                go_wp2_with fail
                exact ⟨⟨j + 1, by omega, by go_num, bt (bt HBR.out hbV) hS1, HANY2.out⟩, by simp [intOf]; omega⟩
        · obtain rfl : j = c.body.length := by omega
          go_wp2_with fail
          go_ret
          refine ⟨?_, bt HB3.out HBR.out⟩
          have hn := HNO.out
          rw [List.take_length] at hn
          rw [callsB_some HCO.out hlt, hn]
          rfl
    · have hlt' : cnt m ≤ h := by omega
      go_wp2_with fail
      go_ret
      refine ⟨?_, HB3.out⟩
      rw [callsB, decide_eq_false hlt, Bool.false_and]
      rfl
end Go.Proofs.Ytjafmclladiblaa.Gr
