/- Graph: Reach. -/
import Derived.Test.YtjafmclladiblaaGr
import Derived.Test.YtjafmclladiblaaGp
import Derived.Deep.LoopGhost
namespace Go.Proofs.Ytjafmclladiblaa.Gr
open Go Go.RowKit Go.Lib Kt Fm

def zc (x : Int) : List Value := [.int .i64 x]
theorem zc_len (x : Int) : (zc x).length = 1 := rfl
def bc (b : Bool) : List Value := [.bool b]
theorem flat_bc (l : List Bool) : l.flatMap bc = l.map Value.bool := by
  induction l with
  | nil => rfl
  | cons x r ih => rw [List.flatMap_cons, ih]; rfl
theorem info_bool : (Try.prog.info? 4).map (fun i => (i.zero, i.size, i.bytes)) = some (some (.bool false), 1, 1) := by kernel_rfl
theorem size_bool : (Try.prog.info? 4).map (·.size) = some 1 := by kernel_rfl
section
variable {P : Program} {op : Oper} {a : Act} {w : World} {Q : Exit → Act → World → Prop} {ops : Array Oper} {rest : List Oper}
theorem wl_mk {t e : TypeId} {z : Value} {bytes : Nat} (ht : P.underlying t = some (.slice e)) (hinfo : (P.info? e).map (fun i => (i.zero, i.size, i.bytes)) = some (some z, 1, bytes)) (hz1 : z.cells = #[z])
    (p q : Operand) (hgd : op.guard = none) (ho : op.op = .makeSlice t p q) {kl kc : IntKind} {n : Nat} (hp : a.eval p = .int kl (n : Int)) (hq : a.eval q = .int kc (n : Int)) (hbytes : bytes * n ≤ 281474976710656) (h63 : n ≤ 9223372036854775807)
    (hK : ∀ w1, Below w.heap.size w w1 → w1.ownsRow w.heap.size e 1 (.slice (some ⟨w.heap.size, 0, none⟩) n n) n (List.replicate n z) → wpList P ops Q rest (a.put op.dst (.slice (some ⟨w.heap.size, 0, none⟩) n n)) w1) : wpList P ops Q (op :: rest) a w :=
  wpList_plain hgd fun _ hK' => wp_mk ht hinfo hz1 p q ho hp hq hbytes h63 fun w1 h1 h2 => hK' _ _ (hK w1 h1 h2)
theorem wl_rowset1 {base n g cap : Nat} {e ty : TypeId} {xs : List Value} (h : w.ownsRow base e 1 (.slice (some ⟨g, 0, none⟩) n cap) n xs) {i : Nat} (hi : i < n) (p q : Operand) (hgd : op.guard = none) (ho : op.op = .store ty p q) (hp : a.eval p = .pointer (some ⟨g, i, none⟩)) {v : Value} (hq : a.eval q = v) (hv : v.cells = [v].toArray)
    (hs : (P.info? ty).map (·.size) = some 1) (h1 : v.oneCell' = true) (hK : ∀ w', w'.ownsRow base e 1 (.slice (some ⟨g, 0, none⟩) n cap) n (xs.set i v) → w.grownBy w' (some g) → wpList P ops Q rest (a.put op.dst undef) w') : wpList P ops Q (op :: rest) a w :=
  wpList_plain hgd fun _ hK' => wp_rowset1 h hi p q ho hp hq hv hs h1 fun w1 h2 h3 => hK' _ _ (hK w1 h2 h3)
end
theorem mem_callsL {m : Mod} {f h : Nat} : h ∈ callsL m f ↔ h < cnt m ∧ callsB m f h = true := by simp [callsL]
theorem todo_start (m : Mod) (L : List Int) : Todo (cnt m) (callsB m) L (List.replicate (cnt m) false) (L.flatMap (gcalls m)) := by
  have hno : ∀ i : Nat, (List.replicate (cnt m) false)[i]? ≠ some true := fun i hi => by
    have := (List.mem_replicate.1 (List.mem_of_getElem? hi)).2
    cases this
  refine ⟨by simp, fun i hi => absurd hi (hno i), fun i hi => ?_, fun f hf hfn h hh e => Or.inr ?_, fun f h hf => absurd hf (hno f)⟩
  · obtain ⟨f, hf, hm⟩ := List.mem_flatMap.1 hi
    unfold gcalls at hm
    split at hm
    · rename_i hr
      obtain ⟨h1, h2⟩ := mem_callsL.1 hm
      exact ⟨f.toNat, by rw [Int.toNat_of_nonneg hr.1]; exact hf, .one (by omega) h1 h2⟩
    · cases hm
  · exact List.mem_flatMap.2 ⟨f, hf, by rw [gcalls_nat hfn]; exact mem_callsL.2 ⟨hh, e⟩⟩
theorem meas {n k t c : Nat} (hk : k + 1 ≤ n) (hc : c ≤ n) : (n - (k + 1)) * (n + 1) + (t + c) < (n - k) * (n + 1) + (t + 1) := by
  have e : n - k = (n - (k + 1)) + 1 := by omega
  rw [e, Nat.add_mul, Nat.one_mul]
  omega
/-- The first ones of a row of functions. -/
theorem row_pop {w : World} {base e g cap n : Nat} {todo : List Nat} {f : Nat} (h : w.ownsRow base e 1 (.slice (some ⟨g, 0, none⟩) n cap) n ((todo ++ [f]).flatMap ic)) (hn : n = (todo ++ [f]).length) : w.ownsRow base e 1 (.slice (some ⟨g, 0, none⟩) todo.length cap) todo.length (todo.flatMap ic) := by
  refine row_front ic_len h (by rw [hn, List.length_append]; omega) ?_
  rw [Nat.mul_one, List.flatMap_append, List.take_append_of_le_length (by rw [length_flat ic_len]; omega), List.take_of_length_le (by rw [length_flat ic_len]; omega)]
theorem list_last {α : Type} {l : List α} (h : l ≠ []) : ∃ r x, l = r ++ [x] := ⟨l.dropLast, l.getLast h, (List.dropLast_concat_getLast h).symm⟩
theorem places_succ (out : List Bool) (k : Nat) {b : Bool} (h : out[k]? = some b) : (List.range (k + 1)).filter (fun i => out[i]? == some true) = (List.range k).filter (fun i => out[i]? == some true) ++ if b then [k] else [] := by
  rw [List.range_succ, List.filter_append]
  congr 1
  cases b <;> simp [h]
theorem flat_gcalls_le (m : Mod) (L : List Int) : (L.flatMap (gcalls m)).length ≤ L.length * cnt m := by
  induction L with
  | nil => simp
  | cons x r ih =>
    have := gcalls_le m x
    rw [List.flatMap_cons, List.length_append, List.length_cons, Nat.add_mul, Nat.one_mul]
    omega

set_option maxRecDepth 100000 in
set_option maxHeartbeats 16000000 in
theorem reach_any {W : World} {G : Nat} {m : Mod} (h : Gph W G m) (hn : cnt m ≤ 1000) {v : Value} {L : List Int} (hs : Sl W 1 zc v L) (hl : L.length ≤ 1000) :
    Calls Try.prog 17 #[.pointer (some ⟨G, 0, none⟩), v] W fun e w' => ∃ v' out, e = .returned v' ∧ Marked (cnt m) out (Got (cnt m) (callsB m) L) ∧ w'.ownsRow W.heap.size 3 1 v' (places out).length ((places out).flatMap ic) ∧ Below W.heap.size W w' := by
  have HG := Lib.hid h
  obtain ⟨s, cap, rfl, hs2⟩ := hs.form
  have HS := Lib.hid hs
  clear h hs
  go_enter Try.func17, Try.ntmps17
  go_wp2_with fail
  refine (len_any HG.out).mono ?_
  rintro en w2 ⟨rfl, rfl⟩
  go_wp2_with (refine wl_mk Try.underlying48 info_bool rfl _ _ rfl rfl rfl rfl (by omega) (by omega) (fun w1 hb1 hr1 => ?_); have HB1 := Lib.hid hb1; have HR1 := Lib.hid hr1; clear hb1 hr1; simp only [Act.put, List.setIfInBounds_toArray, List.set_cons_zero, List.set_cons_succ])
  generalize hRB : w2.heap.size = RB at HR1 ⊢
  have HR2 := Lib.hid (show w1.ownsRow w2.heap.size 4 1 (.slice (some ⟨RB, 0, none⟩) (cnt m) (cnt m)) (cnt m) (List.replicate (cnt m) (.bool false)) by rw [hRB]; exact HR1.out)
  have hRB0 : w2.heap.size ≤ RB := by omega
  clear hRB HR1
  go_loopw [7, 9, 21] (fun lv _ i wr => ∃ (k : Nat) (todo : List Nat), k ≤ L.length ∧ i = .int .i64 k ∧ todo = (L.take k).flatMap (gcalls m) ∧ wr.ownsRow w2.heap.size 3 1 lv todo.length (todo.flatMap ic) ∧ wr.ownsRow w2.heap.size 4 1 (.slice (some ⟨RB, 0, none⟩) (cnt m) (cnt m)) (cnt m) (List.replicate (cnt m) (.bool false)) ∧ Below w2.heap.size w2 wr)
    (fun _ _ i _ => L.length - (intOf i).toNat)
  case atStart => exact ⟨0, [], Nat.zero_le _, rfl, by simp, World.ownsRow_nil _ _ _ _, HR2.out, HB1.out⟩
  case round =>
    clear HR2 HB1
    obtain ⟨k, todo, hk, rfl, hT, hrow, hreach, hB⟩ := hrel
    have HT := Lib.hid hT
    have HROW := Lib.hid hrow
    have HRE := Lib.hid hreach
    have HB := Lib.hid hB
    have htl : todo.length ≤ 1000000 := by
      have h1 := flat_gcalls_le m (L.take k)
      have h2 : (L.take k).length * cnt m ≤ 1000 * 1000 := Nat.mul_le_mul (by rw [List.length_take]; omega) hn
      rw [hT]
      exact Nat.le_trans h1 h2
    clear hT hrow hreach hB
    by_cases hlt : k < L.length
    · obtain ⟨f, hf⟩ : ∃ f, L[k]? = some f := ⟨_, List.getElem?_eq_getElem hlt⟩
      obtain ⟨g, off, rfl, hg⟩ := hs2 (by intro e; simp [e] at hlt)
      have hcell := (HS.out.later HB.out).cell hf (j := 0) rfl
      rw [Nat.mul_one, Nat.add_zero] at hcell
      have HF := Lib.hid (flat_succ (gcalls m) hf)
      have hgl := gcalls_le m f
      clear hf
      go_wp2_with fail
      refine (calls_any (HG.out.later HB.out) (by omega) f).mono ?_
      rintro en w3 ⟨v3, rfl, hr3, hb3⟩
      have HV3 := Lib.hid (own_sl ic_len hr3)
      have HROW3 := Lib.hid (ownsRow_keep HROW.out hb3)
      have HRE3 := Lib.hid (ownsRow_keep HRE.out hb3)
      have HB3 := Lib.hid (bt HB.out hb3)
      obtain ⟨s3, c3, rfl, _, _⟩ := row_form hr3
      clear hr3 hb3 HROW HRE HB
      go_wp2_with (refine wl_app _ _ rfl rfl Try.underlying40 info_int (by decide) rfl HROW3.out ic_len rfl HV3.out (fun y _ => oneIc y) (by unfold maxLen; omega) (by omega) HB3.out.size (fun v' w8 hr8 hg8 hv8 => ?_); have HR8 := Lib.hid hr8; have HG8 := Lib.hid hg8; clear hr8 hg8 hv8; try simp only [Act.put])
      exact ⟨⟨k + 1, todo ++ gcalls m f, by omega, by go_num, by rw [HF.out, ← HT.out], by rw [List.length_append, List.flatMap_append]; exact HR8.out, row_frT HRE3.out (FrT.grown HROW3.out HG8.out) (by decide), HB3.out.grown HG8.out HB3.out.size (fun k hk => (row_block HROW3.out hk).1)⟩, by simp [intOf]; omega⟩
    · obtain rfl : k = L.length := by omega
      rw [List.take_length] at HT
      go_wp2_with fail
      have HTD := Lib.hid (show Todo (cnt m) (callsB m) L (List.replicate (cnt m) false) todo by rw [HT.out]; exact todo_start m L)
      have HRE2 := Lib.hid (show wr.ownsRow w2.heap.size 4 1 (.slice (some ⟨RB, 0, none⟩) (cnt m) (cnt m)) (cnt m) ((List.replicate (cnt m) false).map Value.bool) by rw [List.map_replicate]; exact HRE.out)
      generalize List.replicate (cnt m) false = out0 at HTD HRE2
      clear HT HRE
      go_loopg [7, 10] ((cnt m - marks out0) * (cnt m + 1) + todo.length) (fun gk lv _ wx => ∃ (out : List Bool) (todo : List Nat), gk = (cnt m - marks out) * (cnt m + 1) + todo.length ∧ Todo (cnt m) (callsB m) L out todo ∧ todo.length ≤ 1000000 + marks out * 1000 ∧ wx.ownsRow w2.heap.size 3 1 lv todo.length (todo.flatMap ic) ∧ wx.ownsRow w2.heap.size 4 1 (.slice (some ⟨RB, 0, none⟩) (cnt m) (cnt m)) (cnt m) (out.map Value.bool) ∧ Below w2.heap.size w2 wx)
      case atStart => exact ⟨out0, todo, rfl, HTD.out, Nat.le_trans htl (Nat.le_add_right _ _), HROW.out, HRE2.out, HB.out⟩
      case round =>
        clear HROW HRE2 HTD HB htl
        obtain ⟨out, todo, rfl, hT, htl, hrow, hreach, hB⟩ := hrel
        obtain ⟨su, cu, rfl, hcu, hsu⟩ := row_form hrow
        have HTD := Lib.hid hT
        have HROW := Lib.hid hrow
        have HRE := Lib.hid hreach
        have HB := Lib.hid hB
        have hmk : marks out ≤ cnt m := by rw [← hT.len]; exact marks_le out
        clear hT hrow hreach hB
        by_cases h0 : todo = []
        · subst h0
          have hMK := Lib.hid HTD.out.end
          have hol : out.length = cnt m := HTD.out.len
          clear HTD HROW hsu hmk htl
          simp only [List.length_nil]
          go_wp2_with fail
          go_loopw [11, 12, 13, 64] (fun lv _ _ i wr => ∃ (k : Nat) (P : List Nat), k ≤ cnt m ∧ i = .int .i64 k ∧ P = (List.range k).filter (fun i => out[i]? == some true) ∧ P.length ≤ k ∧ wr.ownsRow w2.heap.size 3 1 lv P.length (P.flatMap ic) ∧ wr.ownsRow w2.heap.size 4 1 (.slice (some ⟨RB, 0, none⟩) (cnt m) (cnt m)) (cnt m) (out.map Value.bool) ∧ Below w2.heap.size w2 wr)
            (fun _ _ _ i _ => cnt m - (intOf i).toNat)
          case atStart => exact ⟨0, [], Nat.zero_le _, rfl, rfl, Nat.le_refl _, World.ownsRow_nil _ _ _ _, HRE.out, HB.out⟩
          case round =>
            clear HRE HB
            obtain ⟨k, P, hk, rfl, hP, hPl, hrow, hreach, hB⟩ := hrel
            have HP := Lib.hid hP
            have HROW := Lib.hid hrow
            have HRE := Lib.hid hreach
            have HB := Lib.hid hB
            clear hP hrow hreach hB
            by_cases hlt : k < cnt m
            · obtain ⟨b, hb⟩ : ∃ b, out[k]? = some b := ⟨_, List.getElem?_eq_getElem (by rw [hol]; exact hlt)⟩
              have hcb : wr.cell? ⟨RB, k, none⟩ = some (.bool b) := by
                rw [HRE.out.cellAt _ (by omega), List.getElem?_map, hb]
                rfl
              have HPS := Lib.hid (places_succ out k hb)
              clear hb
              cases b with
              | false =>
                go_wp2_with fail
                exact ⟨⟨k + 1, P, by omega, by go_num, by rw [HPS.out, ← HP.out]; simp, by omega, HROW.out, HRE.out, HB.out⟩, by simp [intOf]; omega⟩
              | true =>
                go_wp2_with (first | (refine wl_bs1 _ _ (bs_int k) _ rfl rfl rfl (fun w7 hb7 hl7 => ?_); have HN7 := Lib.hid hl7; have HB7 := Lib.hid hb7; clear hb7 hl7; simp only [Act.put, List.setIfInBounds_toArray, List.set_cons_zero, List.set_cons_succ]) | (refine wl_app _ _ rfl rfl Try.underlying40 info_int (by decide) rfl (ownsRow_keep HROW.out HB7.out) ic_len rfl (sl_one (en := ic) HN7.out) (fun y _ => oneIc y) (by simp only [List.length_singleton]; unfold maxLen; omega) (by simp only [List.length_singleton]; omega) (bt HB.out HB7.out).size (fun v' w8 hr8 hg8 hv8 => ?_); have HR8 := Lib.hid hr8; have HG8 := Lib.hid hg8; clear hr8 hg8 hv8; try simp only [Act.put]))
                exact ⟨⟨k + 1, P ++ [k], by omega, by go_num, by rw [HPS.out, ← HP.out, if_pos rfl], by rw [List.length_append, List.length_singleton]; omega, by rw [List.length_append, List.flatMap_append]; exact HR8.out, row_frT (ownsRow_keep HRE.out HB7.out) (FrT.grown (ownsRow_keep HROW.out HB7.out) HG8.out) (by decide), (bt HB.out HB7.out).grown HG8.out (bt HB.out HB7.out).size (fun k hk => (row_block (ownsRow_keep HROW.out HB7.out) hk).1)⟩, by simp [intOf]; omega⟩
            · obtain rfl : k = cnt m := by omega
              go_wp2_with fail
              go_ret
              have hpl : places out = P := by rw [HP.out, places, hol]
              exact ⟨_, out, rfl, hMK.out, by rw [hpl]; exact HROW.out, HB.out⟩
        · obtain ⟨td, f, rfl⟩ := list_last h0
          obtain ⟨g, rfl⟩ := hsu (by simp)
          have hlen : (td ++ [f]).length = td.length + 1 := by simp
          have HPOP := Lib.hid (row_pop HROW.out rfl)
          have hcell : wr.cell? ⟨g, td.length, none⟩ = some (.int .i64 f) := by
            have := row_at (en := ic) (sz := 1) ic_len HROW.out (i := td.length) (x := f) (by simp) 0 _ rfl
            simpa using this
          have hfg := HTD.out.want f (by simp)
          have hfn : f < cnt m := hfg.lt
          have hol : out.length = cnt m := HTD.out.len
          obtain ⟨b, hb⟩ : ∃ b, out[f]? = some b := ⟨_, List.getElem?_eq_getElem (by rw [hol]; exact hfn)⟩
          have hcb : wr.cell? ⟨RB, f, none⟩ = some (.bool b) := by
            rw [HRE.out.cellAt _ (by omega), List.getElem?_map, hb]
            rfl
          have HBF := Lib.hid hb
          rw [hlen] at hcu htl
          rw [hlen]
          clear hlen hfg hb h0
          cases b with
          | true =>
            go_wp2_with fail
            go_roundg ((cnt m - marks out) * (cnt m + 1) + td.length)
            case measure => simp only [List.length_append, List.length_singleton]; omega
            case rel => exact ⟨out, td, rfl, HTD.out.skip HBF.out, by omega, HPOP.out, HRE.out, HB.out⟩
          | false =>
            obtain ⟨cv, rv, CV, hl, hsc, hlen2, hcalls, _⟩ := HG.out
            obtain ⟨v, hv⟩ : ∃ v, CV[f]? = some v := ⟨_, List.getElem?_eq_getElem (by rw [hlen2]; exact hfn)⟩
            obtain ⟨sc, cc, rfl, hsc2⟩ := hsc.form
            obtain ⟨gc, oc, rfl, _⟩ := hsc2 (by intro e; rw [e] at hv; cases hv)
            rw [hlen2] at hl
            have hg1 : w2.cell? ⟨G, 1, none⟩ = some (.slice (some ⟨gc, oc, none⟩) (cnt m) cc) := hl.cell 1
            have hgv := hsc.cell hv (j := 0) rfl
            rw [Nat.mul_one, Nat.add_zero] at hgv
            have HV := Lib.hid (hcalls f v hv)
            have hcl := callsL_le m f
            have HG1 := Lib.hid hg1
            have HGV := Lib.hid hgv
            clear hl hsc hcalls hv hsc2 hg1 hgv hlen2
            have hms := marks_set HBF.out
            have hmn : marks out + 1 ≤ cnt m := by
              rw [← hms]
              have := marks_le (out.set f true)
              rw [List.length_set, hol] at this
              exact this
            have HTK := Lib.hid (HTD.out.take (f := f) (k := callsL m f) (fun g => mem_callsL))
            have HMS := Lib.hid hms
            clear hms
            go_wp2_with (first | (refine wl_rowset1 HRE.out hfn _ _ rfl rfl rfl rfl rfl size_bool rfl (fun w5 hs5 hg5 => ?_); have HRE5 := Lib.hid hs5; have HPOP5 := Lib.hid (row_frT HPOP.out (FrT.grown HRE.out hg5) (by decide)); have HB5 := Lib.hid (HB.out.grown hg5 HB.out.size (fun k hk => by (injection hk with hk; omega))); have hc1 := keepc HB5.out HG1.out; have hc2 := keepc HB5.out HGV.out; have HV5 := Lib.hid (HV.out.later HB5.out); clear hs5 hg5; try simp only [Act.put]) | (refine wl_app _ _ rfl rfl Try.underlying40 info_int (by decide) rfl HPOP5.out ic_len rfl HV5.out (fun y _ => oneIc y) (by unfold maxLen; omega) (by omega) HB5.out.size (fun v' w8 hr8 hg8 hv8 => ?_); have HR8 := Lib.hid hr8; have HG8 := Lib.hid hg8; clear hr8 hg8 hv8; try simp only [Act.put]))
            go_roundg ((cnt m - marks (out.set f true)) * (cnt m + 1) + (td ++ callsL m f).length)
            case measure =>
              rw [HMS.out]
              simp only [List.length_append, List.length_singleton]
              exact meas hmn hcl
            case rel => exact ⟨out.set f true, td ++ callsL m f, rfl, HTK.out, by rw [HMS.out, List.length_append]; omega, by rw [List.length_append, List.flatMap_append]; exact HR8.out, by
              have := row_frT HRE5.out (FrT.grown HPOP5.out HG8.out) (by decide)
              rw [List.map_set]
              exact this, HB5.out.grown HG8.out HB5.out.size (fun k hk => (row_block HPOP5.out hk).1)⟩
end Go.Proofs.Ytjafmclladiblaa.Gr
