/- Graph: Depth. -/
import Derived.Test.YtjafmclladiblaaGv
import Derived.Carry
namespace Go.Proofs.Ytjafmclladiblaa.Gr
open Go Go.RowKit Go.Lib Kt Fm

/-! ### a map of depths -/
abbrev Ki := {x : Nat // x ≤ 4194304}
def ik (k : Ki) : Value := .int .i64 k.1
theorem encInt : KeyEnc Try.prog 3 ik :=
  ⟨Maps.int_keyed Try.underlying3, fun k => ⟨.int .i64 k.1, by
    have h := k.2
    have hw : (Lit.int .i64 (k.1 : Int)).wf = true := WalkArith.wf_i64 (by omega)
    simp [keyOf, mapKey, ik, Try.underlying3, hw]⟩, fun {a b} h => by
    unfold ik at h
    injection h with _ h
    exact Subtype.ext (by omega)⟩
theorem zeroInt (w : World) : (zeroValue 3).run Try.prog w = .ok (.int .i64 0) w := by kernel_rfl
/-- Where a map's block alone turns, cells stay. -/
theorem keepm {W W' : World} {MB : Nat} {es : Array MapEntry} {clock : Nat} (hm : W.heap[MB]? = some (.map es clock)) (hf : Fr W W' (fun k => k = MB)) {b o : Nat} {v : Value} (hc : W.cell? ⟨b, o, none⟩ = some v) : W'.cell? ⟨b, o, none⟩ = some v := by
  refine fr_cell hf (fun e => ?_) hc
  subst e
  simp [World.cell?, hm] at hc
theorem sl_keepm {α : Type} {W W' : World} {MB : Nat} {es : Array MapEntry} {clock : Nat} (hm : W.heap[MB]? = some (.map es clock)) (hf : Fr W W' (fun k => k = MB)) {sz : Nat} {en : α → List Value} {v : Value} {L : List α} (h : Sl W sz en v L) : Sl W' sz en v L := by
  obtain ⟨s, cap, rfl, h⟩ := h
  refine ⟨s, cap, rfl, fun hne => ?_⟩
  obtain ⟨g, off, rfl, h1, h2⟩ := h hne
  exact ⟨g, off, rfl, Nat.lt_of_lt_of_le h1 hf.size, fun i x hi j c hj => keepm hm hf (h2 i x hi j c hj)⟩
theorem Gph.keepm {W W' : World} {MB G : Nat} {m : Mod} {es : Array MapEntry} {clock : Nat} (hm : W.heap[MB]? = some (.map es clock)) (hf : Fr W W' (fun k => k = MB)) (h : Gph W G m) : Gph W' G m := by
  obtain ⟨cv, rv, CV, h1, h2, h3, h4, h5⟩ := h
  exact ⟨cv, rv, CV, lies_fr h1 hf (h1.not_map hm), sl_keepm hm hf h2, h3, fun j v hv => sl_keepm hm hf (h4 j v hv), sl_keepm hm hf h5⟩
/-- What is known is right. -/
def Known (m : Mod) (L : List (Ki × Value)) : Prop := ∀ p ∈ L, p.2 = .int .i64 (dep m p.1.1)
/-- What the closure finds: the map, the graph, itself. -/
structure Dc (W : World) (G KB GB FB MB : Nat) (m : Mod) (L : List (Ki × Value)) : Prop where
  gph : Gph W G m
  kb : W.cell? ⟨KB, 0, none⟩ = some (.map (some MB))
  gb : W.cell? ⟨GB, 0, none⟩ = some (.pointer (some ⟨G, 0, none⟩))
  fb : W.cell? ⟨FB, 0, none⟩ = some (.func (.func 45) #[] #[.pointer (some ⟨KB, 0, none⟩), .pointer (some ⟨GB, 0, none⟩), .pointer (some ⟨FB, 0, none⟩)])
  map : IsMap ik W MB L
  known : Known m L
theorem Dc.next {W W' : World} {G KB GB FB MB : Nat} {m : Mod} {L L' : List (Ki × Value)} (h : Dc W G KB GB FB MB m L) (hf : Fr W W' (fun k => k = MB)) (hm : IsMap ik W' MB L') (hk : Known m L') : Dc W' G KB GB FB MB m L' := by
  obtain ⟨es, clock, h1, _, _⟩ := h.map.block
  exact ⟨h.gph.keepm h1 hf, keepm h1 hf h.kb, keepm h1 hf h.gb, keepm h1 hf h.fb, hm, hk⟩
theorem valAt_known {m : Mod} {L : List (Ki × Value)} (h : Known m L) {k : Ki} {v : Value} (hv : valAt L k = some v) : v = .int .i64 (dep m k.1) := h _ (valAt_mem hv)
theorem known_put {m : Mod} {L : List (Ki × Value)} (h : Known m L) (k : Ki) : Known m (putAt L k (.int .i64 (dep m k.1))) := by
  intro p hp
  unfold putAt at hp
  rcases List.mem_cons.1 hp with rfl | hp
  · rfl
  · exact h p (List.mem_filter.1 hp).1
theorem fold_take {g1 : Nat → Nat} {l : List Nat} {k : Nat} {x : Nat} (h : l[k]? = some x) : (l.take (k + 1)).foldl (fun n h => max n (g1 h)) 0 = max ((l.take k).foldl (fun n h => max n (g1 h)) 0) (g1 x) := by
  rw [List.take_add_one, h, Option.toList_some, List.foldl_append]
  rfl
set_option maxRecDepth 100000 in
set_option maxHeartbeats 16000000 in
theorem d1_any {m : Mod} (hn : cnt m ≤ 1000) {G KB GB FB MB : Nat} : ∀ (N f : Nat) (W : World) (L : List (Ki × Value)), f < cnt m → Good m f → mu m f < N → Dc W G KB GB FB MB m L →
    Calls Try.prog 45 #[.int .i64 f, .pointer (some ⟨KB, 0, none⟩), .pointer (some ⟨GB, 0, none⟩), .pointer (some ⟨FB, 0, none⟩)] W fun e w' => e = .returned (.int .i64 (dep m f)) ∧ ∃ L', Dc w' G KB GB FB MB m L' ∧ Fr W w' (fun k => k = MB) := by
  intro N
  induction N with
  | zero => intro f W L _ _ h; omega
  | succ N ih =>
    intro f W L hf hgood hmu hD
    have HIH := Lib.hid ih
    have HGOOD := Lib.hid hgood
    have HD := Lib.hid hD
    have hdl := dep_le m f
    have hde := dep_eq hf hgood
    have hkb := hD.kb
    have hgb := hD.gb
    have hfb := hD.fb
    obtain ⟨cv, rv, CV, hl, hsc, hlen, hcalls, _⟩ := hD.gph
    have hg0 : W.cell? ⟨G, 0, none⟩ = some (.int .i64 (fk m 0).length) := hl.cell 0
    have HDE := Lib.hid hde
    have hnf : (fk m 0).length ≤ cnt m := by show (fimps m).length ≤ cnt m; unfold cnt; omega
    obtain ⟨kf, hkf⟩ : ∃ kf : Ki, kf.1 = f := ⟨⟨f, by omega⟩, rfl⟩
    have hkv : ik kf = .int .i64 f := by unfold ik; rw [hkf]
    have HKV := Lib.hid hkv
    have HL := Lib.hid (And.intro hl (And.intro hsc (And.intro hlen hcalls)))
    clear ih hgood hD hde hkv hl hsc hlen hcalls
    cases hv : valAt L kf with
    | some v =>
      have hvv := valAt_known HD.out.known hv
      rw [hkf] at hvv
      subst hvv
      have HV := Lib.hid hv
      clear hv
      go_enter Try.func45, Try.ntmps45
      go_wp2_with (refine wpl_look encInt Try.underlying91 HD.out.map true (zeroInt _) kf _ _ rfl rfl rfl HKV.out.symm ?_; rw [HV.out]; dsimp only [lookVal, if_true]; simp only [Act.put, List.setIfInBounds_toArray, List.set_cons_zero, List.set_cons_succ])
      go_ret
      exact ⟨rfl, L, HD.out, Fr.refl _ _⟩
    | none =>
      have HV := Lib.hid hv
      clear hv
      by_cases him : f < (fk m 0).length
      · have hd0 : dep m f = 0 := by rw [HDE.out, if_pos him]
        rw [hd0]
        clear hd0
        go_enter Try.func45, Try.ntmps45
        go_wp2_with (refine wpl_look encInt Try.underlying91 HD.out.map true (zeroInt _) kf _ _ rfl rfl rfl HKV.out.symm ?_; rw [HV.out]; dsimp only [lookVal, if_true]; simp only [Act.put, List.setIfInBounds_toArray, List.set_cons_zero, List.set_cons_succ])
        go_ret
        exact ⟨rfl, L, HD.out, Fr.refl _ _⟩
      · have him' : (fk m 0).length ≤ f := by omega
        have HDE := Lib.hid (show dep m f = (callsL m f).foldl (fun n h => max n (dep m h)) 0 + 1 by rw [HDE.out, if_neg him])
        obtain ⟨sc, cc, rfl, hsc2⟩ := HL.out.2.1.form
        obtain ⟨v, hvf⟩ : ∃ v, CV[f]? = some v := ⟨_, List.getElem?_eq_getElem (by rw [HL.out.2.2.1]; exact hf)⟩
        obtain ⟨gc, oc, rfl, _⟩ := hsc2 (by intro e; rw [e] at hvf; cases hvf)
        have hg1 : W.cell? ⟨G, 1, none⟩ = some (.slice (some ⟨gc, oc, none⟩) (cnt m) cc) := by rw [← HL.out.2.2.1]; exact HL.out.1.cell 1
        have hgv := HL.out.2.1.cell hvf (j := 0) rfl
        rw [Nat.mul_one, Nat.add_zero] at hgv
        have hsv := HL.out.2.2.2 f v hvf
        obtain ⟨sv, cvv, rfl, hsv2⟩ := hsv.form
        have HSV := Lib.hid hsv
        have hcl := callsL_le m f
        obtain ⟨es, clock, hmb, _, _⟩ := HD.out.map.block
        have HMB := Lib.hid hmb
        clear hsc2 hvf hsv hmb
        go_enter Try.func45, Try.ntmps45
        go_wp2_with (refine wpl_look encInt Try.underlying91 HD.out.map true (zeroInt _) kf _ _ rfl rfl rfl HKV.out.symm ?_; rw [HV.out]; dsimp only [lookVal, if_true]; simp only [Act.put, List.setIfInBounds_toArray, List.set_cons_zero, List.set_cons_succ])
        clear hkb hgb hfb hg1 hgv hg0
        go_loopw [8, 10, 35] (fun nv _ i wr => ∃ (j : Nat) (L' : List (Ki × Value)), j ≤ (callsL m f).length ∧ i = .int .i64 j ∧ nv = .int .i64 (((callsL m f).take j).foldl (fun n h => max n (dep m h)) 0 : Nat) ∧ Dc wr G KB GB FB MB m L' ∧ Fr W wr (fun k => k = MB))
          (fun _ _ i _ => (callsL m f).length - (intOf i).toNat)
        case atStart => exact ⟨0, L, Nat.zero_le _, rfl, rfl, HD.out, Fr.refl _ _⟩
        case round =>
          obtain ⟨j, L', hj, rfl, rfl, hD', hfr⟩ := hrel
          have HD' := Lib.hid hD'
          have HFR := Lib.hid hfr
          have hfb := hD'.fb
          have hmx : ((callsL m f).take j).foldl (fun n h => max n (dep m h)) 0 ≤ 1001 := foldl_max_le _ _ (by omega) (fun h _ => Nat.le_trans (dep_le m h) (by omega))
          clear hD' hfr
          by_cases hlt : j < (callsL m f).length
          · obtain ⟨h, hh⟩ : ∃ h, (callsL m f)[j]? = some h := ⟨_, List.getElem?_eq_getElem hlt⟩
            obtain ⟨gv, ov, rfl, _⟩ := hsv2 (by intro e; rw [e] at hlt; simp at hlt)
            have hcell := (sl_keepm HMB.out HFR.out HSV.out).cell hh (j := 0) rfl
            rw [Nat.mul_one, Nat.add_zero] at hcell
            have hmem := List.mem_of_getElem? hh
            have HFT := Lib.hid (fold_take (g1 := dep m) hh)
            have hhn := (mem_callsL.1 hmem).1
            have hml := mu_lt HGOOD.out hf hmem
            have hdh := dep_le m h
            clear hh
            generalize ((callsL m f).take j).foldl (fun n h => max n (dep m h)) 0 = x at HFT hmx ⊢
            go_wp2_with fail
            refine (HIH.out h wr L' hhn (HGOOD.out.step hf hmem) (by omega) HD'.out).mono ?_
            rintro en w2 ⟨rfl, L2, hD2, hf2⟩
            have HD2 := Lib.hid hD2
            have HF2 := Lib.hid (HFR.out.trans hf2)
            clear hD2 hf2 hfb hcell
            go_wp2_with fail
            exact ⟨⟨j + 1, L2, by omega, by go_num, by
              rw [HFT.out]
              congr 1
              omega, HD2.out, HF2.out⟩, by simp [intOf]; omega⟩
          · obtain rfl : j = (callsL m f).length := by omega
            have hkb := HD'.out.kb
            rw [List.take_length] at hmx ⊢
            generalize (callsL m f).foldl (fun n h => max n (dep m h)) 0 = x at HDE hmx ⊢
            go_wp2_with (refine wpl_store encInt Try.underlying91 HD'.out.map kf _ _ _ rfl rfl rfl HKV.out.symm (.int .i64 ((x : Int) + 1)) rfl (fun w' hm' hg' hs' => ?_); have HM' := Lib.hid hm'; have HG' := Lib.hid hg'; clear hm' hg' hs'; try simp only [Act.put])
            go_ret
            have hxv : (Value.int .i64 ((x : Int) + 1)) = .int .i64 (dep m kf.1) := by
              rw [hkf, HDE.out]
              rfl
            have hfm : Fr wr w' (fun k => k = MB) := (Fr.of_grown HG'.out).mono (fun k _ e => by injection e)
            have hmm := HM'.out
            rw [hxv] at hmm
            refine ⟨by rw [HDE.out]; rfl, _, HD'.out.next hfm hmm (known_put HD'.out.known kf), HFR.out.trans hfm⟩

theorem ite_no {b : Bool} {p q : Prop} (h : b = false) (hq : q) : if b = true then p else q := by rw [if_neg (by rw [h]; simp)]; exact hq
theorem wl_mkmap {ops : Array Oper} {rest : List Oper} {op : Oper} {a : Act} {w : World} {Q : Exit → Act → World → Prop} {t : TypeId} (hgd : op.guard = none) (ho : op.op = .makeMap t none) (hK : ∀ w1, Below w.heap.size w w1 → IsMap ik w1 w.heap.size [] → wpList Try.prog ops Q rest (a.put op.dst (.map (some w.heap.size))) w1) : wpList Try.prog ops Q (op :: rest) a w := by
  refine wpList_plain hgd fun _ hK' => ?_
  have hr := run_makeMap (P := Try.prog) t w
  unfold Oper.wp execOp
  simp [ho, hr]
  exact hK' _ _ (hK _ ((Below.refl _ _).alloc (Nat.le_refl _) _) (IsMap.new w ik))
theorem size_mp : (Try.prog.info? 91).map (·.size) = some 1 := by kernel_rfl
theorem size_fn : (Try.prog.info? 92).map (·.size) = some 1 := by kernel_rfl
/-- What Depth tells. -/
def DepthTold (m : Mod) (f : Int) (e : Ending) : Prop := ∃ ok : Bool, e = .returned (.tuple #[.int .i64 ((if ok then dep m f.toNat else 0 : Nat) : Int), .bool ok]) ∧ (ok = true ↔ 0 ≤ f ∧ f < (cnt m : Int) ∧ Good m f.toNat)
set_option maxRecDepth 100000 in
set_option maxHeartbeats 16000000 in
theorem depth_any {W : World} {G : Nat} {m : Mod} (h : Gph W G m) (hn : cnt m ≤ 1000) (f : Int) :
    Calls Try.prog 22 #[.pointer (some ⟨G, 0, none⟩), .int .i64 f] W fun e w' => DepthTold m f e ∧ Below W.heap.size W w' := by
  have HG := Lib.hid h
  clear h
  by_cases hneg : f < 0
  · have HT := Lib.hid (show DepthTold m f (.returned (.tuple #[.int .i64 0, .bool false])) from ⟨false, rfl, by
      constructor
      · intro e; cases e
      · intro e; omega⟩)
    go_enter Try.func22, Try.ntmps22
    go_wp2_with fail
    obtain ⟨w1, hw1⟩ : ∃ w1, w1 = W.alloc (.cells #[.pointer (some ⟨G, 0, none⟩)] 36) := ⟨_, rfl⟩
    have hb1 : Below W.heap.size W w1 := hw1 ▸ (Below.refl _ _).alloc (Nat.le_refl _) _
    have hl1 : Lies w1 W.heap.size 36 #[.pointer (some ⟨G, 0, none⟩)] := hw1 ▸ Lies.new _ _ _
    rw [← hw1]
    clear hw1
    have hd := below_drew w1
    have HBV := Lib.hid (bt hb1 hd)
    have hS : w1.drew.cell? ⟨W.heap.size, 0, none⟩ = some (.pointer (some ⟨G, 0, none⟩)) := hl1.cell 0
    have HGV := Lib.hid (HG.out.later HBV.out)
    have hGB : W.heap.size < w1.heap.size := hl1.lt
    clear hb1 hl1 hd
    refine wp_region_t [(0, 1), (1, 1), (2, 1), (3, 1), (4, 1), (5, 0), (6, 1), (7, 1), (8, 1), (9, 1), (10, 1), (11, 0), (12, 1), (13, 1), (14, 1), (15, 1), (18, 1), (19, 1), (16, 0), (17, 0), (20, 0), (21, 1)] (fun w' => w'.cell? ⟨W.heap.size, 0, none⟩ = some (.pointer (some ⟨G, 0, none⟩))) [] [] rfl (by kernel_rfl) (by kernel_rfl) (fun _ _ d _ _ h => by cases d <;> exact h) hS (fun p hp => by cases hp) ?_
    have hGBV : W.heap.size < w1.drew.heap.size := hGB
    generalize w1.drew = V at HBV hS HGV hGBV ⊢
    clear hGB
    repeat (first | (refine ts_take (v := .func (.func 20) #[.pointer (some ⟨G, 0, none⟩)] #[]) rfl rfl (fun w' _ => rfl) ?_; (try simp only [Act.put, List.setIfInBounds_toArray, List.set_cons_zero, List.set_cons_succ])) | (refine ts_take (v := ?_) rfl rfl (fun w' hw' => ?_) ?_; rotate_left; (focus (have q0 := hw'; clear hw'; (try simp only [Act.put, List.setIfInBounds_toArray, List.set_cons_zero, List.set_cons_succ]); go_simp; (try go_bits); (try (with_reducible rfl)))); (try simp only [Act.put, List.setIfInBounds_toArray, List.set_cons_zero, List.set_cons_succ])) | (refine ts_skip rfl rfl ?_; (try simp only [Act.put, List.setIfInBounds_toArray, List.set_cons_zero, List.set_cons_succ])))
    refine ts_run rfl (fun K hK => ?_)
    refine ite_no rfl ?_
    refine hK.out _ _ hS (still_none _ _) ?_
    clear hK K
    (try simp only [Act.put, List.setIfInBounds_toArray, List.set_cons_zero, List.set_cons_succ])
    repeat (first | (refine ts_take (v := .func (.func 20) #[.pointer (some ⟨G, 0, none⟩)] #[]) rfl rfl (fun w' _ => rfl) ?_; (try simp only [Act.put, List.setIfInBounds_toArray, List.set_cons_zero, List.set_cons_succ])) | (refine ts_take (v := ?_) rfl rfl (fun w' hw' => ?_) ?_; rotate_left; (focus (have q0 := hw'; clear hw'; (try simp only [Act.put, List.setIfInBounds_toArray, List.set_cons_zero, List.set_cons_succ]); go_simp; (try go_bits); (try (with_reducible rfl)))); (try simp only [Act.put, List.setIfInBounds_toArray, List.set_cons_zero, List.set_cons_succ])) | (refine ts_skip rfl rfl ?_; (try simp only [Act.put, List.setIfInBounds_toArray, List.set_cons_zero, List.set_cons_succ])))
    refine ts_run rfl (fun K hK => ?_)
    refine ite_no rfl ?_
    refine hK.out _ _ hS (still_none _ _) ?_
    clear hK K
    (try simp only [Act.put, List.setIfInBounds_toArray, List.set_cons_zero, List.set_cons_succ])
    repeat (first | (refine ts_take (v := .func (.func 20) #[.pointer (some ⟨G, 0, none⟩)] #[]) rfl rfl (fun w' _ => rfl) ?_; (try simp only [Act.put, List.setIfInBounds_toArray, List.set_cons_zero, List.set_cons_succ])) | (refine ts_take (v := ?_) rfl rfl (fun w' hw' => ?_) ?_; rotate_left; (focus (have q0 := hw'; clear hw'; (try simp only [Act.put, List.setIfInBounds_toArray, List.set_cons_zero, List.set_cons_succ]); go_simp; (try go_bits); (try (with_reducible rfl)))); (try simp only [Act.put, List.setIfInBounds_toArray, List.set_cons_zero, List.set_cons_succ])) | (refine ts_skip rfl rfl ?_; (try simp only [Act.put, List.setIfInBounds_toArray, List.set_cons_zero, List.set_cons_succ])))
    refine ts_run rfl (fun K hK => ?_)
    refine ite_no rfl ?_
    refine hK.out _ _ hS (still_none _ _) ?_
    clear hK K
    (try simp only [Act.put, List.setIfInBounds_toArray, List.set_cons_zero, List.set_cons_succ])
    refine ts_run rfl (fun K hK => ?_)
    refine ite_no rfl ?_
    refine hK.out _ _ hS (still_none _ _) ?_
    clear hK K
    (try simp only [Act.put, List.setIfInBounds_toArray, List.set_cons_zero, List.set_cons_succ])
    refine ts_run rfl (fun K hK => ?_)
    refine ite_no rfl ?_
    refine hK.out _ _ hS (still_none _ _) ?_
    clear hK K
    (try simp only [Act.put, List.setIfInBounds_toArray, List.set_cons_zero, List.set_cons_succ])
    repeat (first | (refine ts_take (v := .func (.func 20) #[.pointer (some ⟨G, 0, none⟩)] #[]) rfl rfl (fun w' _ => rfl) ?_; (try simp only [Act.put, List.setIfInBounds_toArray, List.set_cons_zero, List.set_cons_succ])) | (refine ts_take (v := ?_) rfl rfl (fun w' hw' => ?_) ?_; rotate_left; (focus (have q0 := hw'; clear hw'; (try simp only [Act.put, List.setIfInBounds_toArray, List.set_cons_zero, List.set_cons_succ]); go_simp; (try go_bits); (try (with_reducible rfl)))); (try simp only [Act.put, List.setIfInBounds_toArray, List.set_cons_zero, List.set_cons_succ])) | (refine ts_skip rfl rfl ?_; (try simp only [Act.put, List.setIfInBounds_toArray, List.set_cons_zero, List.set_cons_succ])))
    refine ts_done ?_
    go_wp2_with fail
    go_ret2
    exact ⟨HT.out, HBV.out⟩
  · obtain ⟨j, rfl⟩ : ∃ j : Nat, f = (j : Int) := ⟨f.toNat, by omega⟩
    clear hneg
    by_cases hge : cnt m ≤ j
    · have HT := Lib.hid (show DepthTold m j (.returned (.tuple #[.int .i64 0, .bool false])) from ⟨false, rfl, by
        constructor
        · intro e; cases e
        · intro e; omega⟩)
      go_enter Try.func22, Try.ntmps22
      go_wp2_with fail
      obtain ⟨w1, hw1⟩ : ∃ w1, w1 = W.alloc (.cells #[.pointer (some ⟨G, 0, none⟩)] 36) := ⟨_, rfl⟩
      have hb1 : Below W.heap.size W w1 := hw1 ▸ (Below.refl _ _).alloc (Nat.le_refl _) _
      have hl1 : Lies w1 W.heap.size 36 #[.pointer (some ⟨G, 0, none⟩)] := hw1 ▸ Lies.new _ _ _
      rw [← hw1]
      clear hw1
      have hd := below_drew w1
      have HBV := Lib.hid (bt hb1 hd)
      have hS : w1.drew.cell? ⟨W.heap.size, 0, none⟩ = some (.pointer (some ⟨G, 0, none⟩)) := hl1.cell 0
      have HGV := Lib.hid (HG.out.later HBV.out)
      have hGB : W.heap.size < w1.heap.size := hl1.lt
      clear hb1 hl1 hd
      refine wp_region_t [(0, 1), (1, 1), (2, 1), (3, 1), (4, 1), (5, 0), (6, 1), (7, 1), (8, 1), (9, 1), (10, 1), (11, 0), (12, 1), (13, 1), (14, 1), (15, 1), (18, 1), (19, 1), (16, 0), (17, 0), (20, 0), (21, 1)] (fun w' => w'.cell? ⟨W.heap.size, 0, none⟩ = some (.pointer (some ⟨G, 0, none⟩))) [] [] rfl (by kernel_rfl) (by kernel_rfl) (fun _ _ d _ _ h => by cases d <;> exact h) hS (fun p hp => by cases hp) ?_
      have hGBV : W.heap.size < w1.drew.heap.size := hGB
      generalize w1.drew = V at HBV hS HGV hGBV ⊢
      clear hGB
      repeat (first | (refine ts_take (v := .func (.func 20) #[.pointer (some ⟨G, 0, none⟩)] #[]) rfl rfl (fun w' _ => rfl) ?_; (try simp only [Act.put, List.setIfInBounds_toArray, List.set_cons_zero, List.set_cons_succ])) | (refine ts_take (v := ?_) rfl rfl (fun w' hw' => ?_) ?_; rotate_left; (focus (have q0 := hw'; clear hw'; (try simp only [Act.put, List.setIfInBounds_toArray, List.set_cons_zero, List.set_cons_succ]); go_simp; (try go_bits); (try (with_reducible rfl)))); (try simp only [Act.put, List.setIfInBounds_toArray, List.set_cons_zero, List.set_cons_succ])) | (refine ts_skip rfl rfl ?_; (try simp only [Act.put, List.setIfInBounds_toArray, List.set_cons_zero, List.set_cons_succ])))
      refine ts_run1 rfl rfl (fun K hK => ?_)
      go_simp
      refine (len_any HGV.out).mono ?_
      rintro en w2 ⟨rfl, rfl⟩
      refine hK.out _ _ hS (still_none _ _) ?_
      clear hK K
      (try simp only [Act.put, List.setIfInBounds_toArray, List.set_cons_zero, List.set_cons_succ])
      repeat (first | (refine ts_take (v := .func (.func 20) #[.pointer (some ⟨G, 0, none⟩)] #[]) rfl rfl (fun w' _ => rfl) ?_; (try simp only [Act.put, List.setIfInBounds_toArray, List.set_cons_zero, List.set_cons_succ])) | (refine ts_take (v := ?_) rfl rfl (fun w' hw' => ?_) ?_; rotate_left; (focus (have q0 := hw'; clear hw'; (try simp only [Act.put, List.setIfInBounds_toArray, List.set_cons_zero, List.set_cons_succ]); go_simp; (try go_bits); (try (with_reducible rfl)))); (try simp only [Act.put, List.setIfInBounds_toArray, List.set_cons_zero, List.set_cons_succ])) | (refine ts_skip rfl rfl ?_; (try simp only [Act.put, List.setIfInBounds_toArray, List.set_cons_zero, List.set_cons_succ])))
      refine ts_run rfl (fun K hK => ?_)
      refine ite_no rfl ?_
      refine hK.out _ _ hS (still_none _ _) ?_
      clear hK K
      (try simp only [Act.put, List.setIfInBounds_toArray, List.set_cons_zero, List.set_cons_succ])
      repeat (first | (refine ts_take (v := .func (.func 20) #[.pointer (some ⟨G, 0, none⟩)] #[]) rfl rfl (fun w' _ => rfl) ?_; (try simp only [Act.put, List.setIfInBounds_toArray, List.set_cons_zero, List.set_cons_succ])) | (refine ts_take (v := ?_) rfl rfl (fun w' hw' => ?_) ?_; rotate_left; (focus (have q0 := hw'; clear hw'; (try simp only [Act.put, List.setIfInBounds_toArray, List.set_cons_zero, List.set_cons_succ]); go_simp; (try go_bits); (try (with_reducible rfl)))); (try simp only [Act.put, List.setIfInBounds_toArray, List.set_cons_zero, List.set_cons_succ])) | (refine ts_skip rfl rfl ?_; (try simp only [Act.put, List.setIfInBounds_toArray, List.set_cons_zero, List.set_cons_succ])))
      refine ts_run rfl (fun K hK => ?_)
      refine ite_no rfl ?_
      refine hK.out _ _ hS (still_none _ _) ?_
      clear hK K
      (try simp only [Act.put, List.setIfInBounds_toArray, List.set_cons_zero, List.set_cons_succ])
      refine ts_run rfl (fun K hK => ?_)
      refine ite_no rfl ?_
      refine hK.out _ _ hS (still_none _ _) ?_
      clear hK K
      (try simp only [Act.put, List.setIfInBounds_toArray, List.set_cons_zero, List.set_cons_succ])
      refine ts_run rfl (fun K hK => ?_)
      refine ite_no rfl ?_
      refine hK.out _ _ hS (still_none _ _) ?_
      clear hK K
      (try simp only [Act.put, List.setIfInBounds_toArray, List.set_cons_zero, List.set_cons_succ])
      repeat (first | (refine ts_take (v := .func (.func 20) #[.pointer (some ⟨G, 0, none⟩)] #[]) rfl rfl (fun w' _ => rfl) ?_; (try simp only [Act.put, List.setIfInBounds_toArray, List.set_cons_zero, List.set_cons_succ])) | (refine ts_take (v := ?_) rfl rfl (fun w' hw' => ?_) ?_; rotate_left; (focus (have q0 := hw'; clear hw'; (try simp only [Act.put, List.setIfInBounds_toArray, List.set_cons_zero, List.set_cons_succ]); go_simp; (try go_bits); (try (with_reducible rfl)))); (try simp only [Act.put, List.setIfInBounds_toArray, List.set_cons_zero, List.set_cons_succ])) | (refine ts_skip rfl rfl ?_; (try simp only [Act.put, List.setIfInBounds_toArray, List.set_cons_zero, List.set_cons_succ])))
      refine ts_done ?_
      go_wp2_with fail
      go_ret2
      exact ⟨HT.out, HBV.out⟩
    · have hlt : j < cnt m := by omega
      clear hge
      go_enter Try.func22, Try.ntmps22
      go_wp2_with fail
      obtain ⟨w1, hw1⟩ : ∃ w1, w1 = W.alloc (.cells #[.pointer (some ⟨G, 0, none⟩)] 36) := ⟨_, rfl⟩
      have hb1 : Below W.heap.size W w1 := hw1 ▸ (Below.refl _ _).alloc (Nat.le_refl _) _
      have hl1 : Lies w1 W.heap.size 36 #[.pointer (some ⟨G, 0, none⟩)] := hw1 ▸ Lies.new _ _ _
      rw [← hw1]
      clear hw1
      have hd := below_drew w1
      have HBV := Lib.hid (bt hb1 hd)
      have hS : w1.drew.cell? ⟨W.heap.size, 0, none⟩ = some (.pointer (some ⟨G, 0, none⟩)) := hl1.cell 0
      have HGV := Lib.hid (HG.out.later HBV.out)
      have hGB : W.heap.size < w1.heap.size := hl1.lt
      clear hb1 hl1 hd
      refine wp_region_t [(0, 1), (1, 1), (2, 1), (3, 1), (4, 1), (5, 0), (6, 1), (7, 1), (8, 1), (9, 1), (10, 1), (11, 0), (12, 1), (13, 1), (14, 1), (15, 1), (18, 1), (19, 1), (16, 0), (17, 0), (20, 0), (21, 1)] (fun w' => w'.cell? ⟨W.heap.size, 0, none⟩ = some (.pointer (some ⟨G, 0, none⟩))) [] [] rfl (by kernel_rfl) (by kernel_rfl) (fun _ _ d _ _ h => by cases d <;> exact h) hS (fun p hp => by cases hp) ?_
      have hGBV : W.heap.size < w1.drew.heap.size := hGB
      generalize w1.drew = V at HBV hS HGV hGBV ⊢
      clear hGB
      repeat (first | (refine ts_take (v := .func (.func 20) #[.pointer (some ⟨G, 0, none⟩)] #[]) rfl rfl (fun w' _ => rfl) ?_; (try simp only [Act.put, List.setIfInBounds_toArray, List.set_cons_zero, List.set_cons_succ])) | (refine ts_take (v := ?_) rfl rfl (fun w' hw' => ?_) ?_; rotate_left; (focus (have q0 := hw'; clear hw'; (try simp only [Act.put, List.setIfInBounds_toArray, List.set_cons_zero, List.set_cons_succ]); go_simp; (try go_bits); (try (with_reducible rfl)))); (try simp only [Act.put, List.setIfInBounds_toArray, List.set_cons_zero, List.set_cons_succ])) | (refine ts_skip rfl rfl ?_; (try simp only [Act.put, List.setIfInBounds_toArray, List.set_cons_zero, List.set_cons_succ])))
      refine ts_run1 rfl rfl (fun K hK => ?_)
      go_simp
      refine (len_any HGV.out).mono ?_
      rintro en w2 ⟨rfl, rfl⟩
      refine hK.out _ _ hS (still_none _ _) ?_
      clear hK K
      (try simp only [Act.put, List.setIfInBounds_toArray, List.set_cons_zero, List.set_cons_succ])
      repeat (first | (refine ts_take (v := .func (.func 20) #[.pointer (some ⟨G, 0, none⟩)] #[]) rfl rfl (fun w' _ => rfl) ?_; (try simp only [Act.put, List.setIfInBounds_toArray, List.set_cons_zero, List.set_cons_succ])) | (refine ts_take (v := ?_) rfl rfl (fun w' hw' => ?_) ?_; rotate_left; (focus (have q0 := hw'; clear hw'; (try simp only [Act.put, List.setIfInBounds_toArray, List.set_cons_zero, List.set_cons_succ]); go_simp; (try go_bits); (try (with_reducible rfl)))); (try simp only [Act.put, List.setIfInBounds_toArray, List.set_cons_zero, List.set_cons_succ])) | (refine ts_skip rfl rfl ?_; (try simp only [Act.put, List.setIfInBounds_toArray, List.set_cons_zero, List.set_cons_succ])))
      simp only [show decide ((j : Int) < 0) = false from decide_eq_false (by omega), show decide (cnt m ≤ j) = false from decide_eq_false (by omega), Bool.or_false]
      repeat (first | (refine ts_take (v := .func (.func 20) #[.pointer (some ⟨G, 0, none⟩)] #[]) rfl rfl (fun w' _ => rfl) ?_; (try simp only [Act.put, List.setIfInBounds_toArray, List.set_cons_zero, List.set_cons_succ])) | (refine ts_take (v := ?_) rfl rfl (fun w' hw' => ?_) ?_; rotate_left; (focus (have q0 := hw'; clear hw'; (try simp only [Act.put, List.setIfInBounds_toArray, List.set_cons_zero, List.set_cons_succ]); go_simp; (try go_bits); (try (with_reducible rfl)))); (try simp only [Act.put, List.setIfInBounds_toArray, List.set_cons_zero, List.set_cons_succ])) | (refine ts_skip rfl rfl ?_; (try simp only [Act.put, List.setIfInBounds_toArray, List.set_cons_zero, List.set_cons_succ])))
      refine ts_run1 rfl rfl (fun K hK => ?_)
      go_simp
      refine (circle_any HGV.out hn j).mono ?_
      rintro en w3 ⟨⟨b, rfl, hb⟩, hb3⟩
      rw [Int.toNat_natCast] at hb
      have HB := Lib.hid hb
      replace hS := keepc hb3 hS
      have HGV := Lib.hid (HGV.out.later hb3)
      have HBV := Lib.hid (bt HBV.out hb3)
      have hGBV := Nat.lt_of_lt_of_le hGBV hb3.size
      refine hK.out _ _ hS (still_none _ _) ?_
      clear hK K hb hb3
      (try simp only [Act.put, List.setIfInBounds_toArray, List.set_cons_zero, List.set_cons_succ])
      cases b with
      | true =>
        have HT := Lib.hid (show DepthTold m j (.returned (.tuple #[.int .i64 0, .bool false])) from ⟨false, rfl, by
          constructor
          · intro e; cases e
          · rintro ⟨_, _, g⟩
            exact absurd (HB.out.1 rfl).2 (g j (Or.inl (by simp)))⟩)
        repeat (first | (refine ts_take (v := .func (.func 20) #[.pointer (some ⟨G, 0, none⟩)] #[]) rfl rfl (fun w' _ => rfl) ?_; (try simp only [Act.put, List.setIfInBounds_toArray, List.set_cons_zero, List.set_cons_succ])) | (refine ts_take (v := ?_) rfl rfl (fun w' hw' => ?_) ?_; rotate_left; (focus (have q0 := hw'; clear hw'; (try simp only [Act.put, List.setIfInBounds_toArray, List.set_cons_zero, List.set_cons_succ]); go_simp; (try go_bits); (try (with_reducible rfl)))); (try simp only [Act.put, List.setIfInBounds_toArray, List.set_cons_zero, List.set_cons_succ])) | (refine ts_skip rfl rfl ?_; (try simp only [Act.put, List.setIfInBounds_toArray, List.set_cons_zero, List.set_cons_succ])))
        refine ts_run rfl (fun K hK => ?_)
        refine ite_no rfl ?_
        refine hK.out _ _ hS (still_none _ _) ?_
        clear hK K
        (try simp only [Act.put, List.setIfInBounds_toArray, List.set_cons_zero, List.set_cons_succ])
        refine ts_run rfl (fun K hK => ?_)
        refine ite_no rfl ?_
        refine hK.out _ _ hS (still_none _ _) ?_
        clear hK K
        (try simp only [Act.put, List.setIfInBounds_toArray, List.set_cons_zero, List.set_cons_succ])
        refine ts_run rfl (fun K hK => ?_)
        refine ite_no rfl ?_
        refine hK.out _ _ hS (still_none _ _) ?_
        clear hK K
        (try simp only [Act.put, List.setIfInBounds_toArray, List.set_cons_zero, List.set_cons_succ])
        repeat (first | (refine ts_take (v := .func (.func 20) #[.pointer (some ⟨G, 0, none⟩)] #[]) rfl rfl (fun w' _ => rfl) ?_; (try simp only [Act.put, List.setIfInBounds_toArray, List.set_cons_zero, List.set_cons_succ])) | (refine ts_take (v := ?_) rfl rfl (fun w' hw' => ?_) ?_; rotate_left; (focus (have q0 := hw'; clear hw'; (try simp only [Act.put, List.setIfInBounds_toArray, List.set_cons_zero, List.set_cons_succ]); go_simp; (try go_bits); (try (with_reducible rfl)))); (try simp only [Act.put, List.setIfInBounds_toArray, List.set_cons_zero, List.set_cons_succ])) | (refine ts_skip rfl rfl ?_; (try simp only [Act.put, List.setIfInBounds_toArray, List.set_cons_zero, List.set_cons_succ])))
        refine ts_done ?_
        go_wp2_with fail
        go_ret2
        exact ⟨HT.out, HBV.out⟩
      | false =>
        repeat (first | (refine ts_take (v := .func (.func 20) #[.pointer (some ⟨G, 0, none⟩)] #[]) rfl rfl (fun w' _ => rfl) ?_; (try simp only [Act.put, List.setIfInBounds_toArray, List.set_cons_zero, List.set_cons_succ])) | (refine ts_take (v := ?_) rfl rfl (fun w' hw' => ?_) ?_; rotate_left; (focus (have q0 := hw'; clear hw'; (try simp only [Act.put, List.setIfInBounds_toArray, List.set_cons_zero, List.set_cons_succ]); go_simp; (try go_bits); (try (with_reducible rfl)))); (try simp only [Act.put, List.setIfInBounds_toArray, List.set_cons_zero, List.set_cons_succ])) | (refine ts_skip rfl rfl ?_; (try simp only [Act.put, List.setIfInBounds_toArray, List.set_cons_zero, List.set_cons_succ])))
        refine ts_run1 rfl rfl (fun K hK => ?_)
        refine wp_bs1 _ _ (bs_z j) _ rfl rfl (fun wa hba hla => ?_)
        have HNA := Lib.hid hla
        replace hS := keepc hba hS
        have HGV := Lib.hid (HGV.out.later hba)
        have HBV := Lib.hid (bt HBV.out hba)
        refine hK.out _ _ hS (still_none _ _) ?_
        clear hK K hba hla
        (try simp only [Act.put, List.setIfInBounds_toArray, List.set_cons_zero, List.set_cons_succ])
        refine ts_run1 rfl rfl (fun K hK => ?_)
        go_simp
        refine (reach_any HGV.out hn (sl_one (en := zc) HNA.out) (by simp)).mono ?_
        rintro en wb ⟨vb, out, rfl, hm, hr, hbb⟩
        rw [places_way hm] at hr
        have HVR := Lib.hid (own_sl ic_len hr)
        replace hS := keepc hbb hS
        have HGV := Lib.hid (HGV.out.later hbb)
        have HBV := Lib.hid (bt HBV.out hbb)
        refine hK.out _ _ hS (still_none _ _) ?_
        clear hK K hm hr hbb HNA
        (try simp only [Act.put, List.setIfInBounds_toArray, List.set_cons_zero, List.set_cons_succ])
        refine ts_run1 rfl rfl (fun K hK => ?_)
        go_simp
        have hwl := wayL_le m j
        refine (cfn_any HGV.out hn HVR.out (by omega)).mono ?_
        rintro en wc ⟨⟨b2, rfl, hb2⟩, hbc⟩
        have HB2 := Lib.hid hb2
        replace hS := keepc hbc hS
        have HGV := Lib.hid (HGV.out.later hbc)
        have HBV := Lib.hid (bt HBV.out hbc)
        refine hK.out _ _ hS (still_none _ _) ?_
        clear hK K hb2 hbc HVR
        (try simp only [Act.put, List.setIfInBounds_toArray, List.set_cons_zero, List.set_cons_succ])
        repeat (first | (refine ts_take (v := .func (.func 20) #[.pointer (some ⟨G, 0, none⟩)] #[]) rfl rfl (fun w' _ => rfl) ?_; (try simp only [Act.put, List.setIfInBounds_toArray, List.set_cons_zero, List.set_cons_succ])) | (refine ts_take (v := ?_) rfl rfl (fun w' hw' => ?_) ?_; rotate_left; (focus (have q0 := hw'; clear hw'; (try simp only [Act.put, List.setIfInBounds_toArray, List.set_cons_zero, List.set_cons_succ]); go_simp; (try go_bits); (try (with_reducible rfl)))); (try simp only [Act.put, List.setIfInBounds_toArray, List.set_cons_zero, List.set_cons_succ])) | (refine ts_skip rfl rfl ?_; (try simp only [Act.put, List.setIfInBounds_toArray, List.set_cons_zero, List.set_cons_succ])))
        refine ts_done ?_
        cases b2 with
        | true =>
          have HT := Lib.hid (show DepthTold m j (.returned (.tuple #[.int .i64 0, .bool false])) from ⟨false, rfl, by
            constructor
            · intro e; cases e
            · rintro ⟨_, _, g⟩
              obtain ⟨x, hx, w⟩ := HB2.out.1 rfl
              exact absurd w (g x (Or.inr (by simpa using mem_wayL.1 hx)))⟩)
          go_wp2_with fail
          go_ret2
          exact ⟨HT.out, HBV.out⟩
        | false =>
          have hgood : Good m j := by
            rintro h (rfl | hw) w
            · have := HB.out.2 ⟨by omega, w⟩
              cases this
            · have := HB2.out.2 ⟨h, mem_wayL.2 hw, w⟩
              cases this
          have HGD := Lib.hid hgood
          clear hgood
          have hdl := dep_le m j
          go_wp2_with (first | (refine wl_mkmap rfl rfl (fun w5 hb5 hm5 => ?_); have HB5 := Lib.hid hb5; have HM5 := Lib.hid hm5; clear hb5 hm5; simp only [Act.put, List.setIfInBounds_toArray, List.set_cons_zero, List.set_cons_succ]) | (refine wl_fld (ty := 91) (Lies.new _ _ _) _ _ rfl rfl rfl rfl [.map (some wc.heap.size)] [.map (some wc.heap.size)] rfl size_mp (by simp [Value.oneCell']) (by simp) rfl (fun w6 hl6 hf6 => ?_); have HB6 := Lib.hid (below_put ((Below.refl w5.heap.size w5).alloc (Nat.le_refl _) _) hf6 (Nat.le_refl _)); have HL6 := Lib.hid hl6; clear hl6 hf6; try simp only [Act.put]) | (refine wl_fld (ty := 92) (Lies.new _ _ _) _ _ rfl rfl rfl rfl [.func (.func 45) #[] #[.pointer (some ⟨w5.heap.size, 0, none⟩), .pointer (some ⟨W.heap.size, 0, none⟩), .pointer (some ⟨w6.heap.size, 0, none⟩)]] [.func (.func 45) #[] #[.pointer (some ⟨w5.heap.size, 0, none⟩), .pointer (some ⟨W.heap.size, 0, none⟩), .pointer (some ⟨w6.heap.size, 0, none⟩)]] rfl size_fn (by simp [Value.oneCell']) (by simp) rfl (fun w7 hl7 hf7 => ?_); have HB7 := Lib.hid (below_put ((Below.refl w6.heap.size w6).alloc (Nat.le_refl _) _) hf7 (Nat.le_refl _)); have HL7 := Lib.hid hl7; have hc7 : w7.cell? ⟨w6.heap.size, 0, none⟩ = some (.func (.func 45) #[] #[.pointer (some ⟨w5.heap.size, 0, none⟩), .pointer (some ⟨W.heap.size, 0, none⟩), .pointer (some ⟨w6.heap.size, 0, none⟩)]) := hl7.cell 0; clear hl7 hf7; try simp only [Act.put]))
          have hw5 : wc.heap.size < w5.heap.size := HM5.out.lt
          have HM6 := Lib.hid (HM5.out.of_block (HB6.out.block _ hw5))
          have HM7 := Lib.hid (HM6.out.of_block (HB7.out.block _ HM6.out.lt))
          have hb7 : Below wc.heap.size wc w7 := bt (bt HB5.out HB6.out) HB7.out
          have HDC := Lib.hid (show Dc w7 G w5.heap.size W.heap.size w6.heap.size wc.heap.size m [] from
            ⟨HGV.out.later hb7, keepc HB7.out (HL6.out.cell 0), keepc hb7 hS, hc7, HM7.out, fun p hp => by cases hp⟩)
          have HBD := Lib.hid (bt HBV.out hb7)
          have hws : W.heap.size ≤ wc.heap.size := HBV.out.size
          clear hb7 hS hw5
          refine (d1_any hn (mu m j + 1) j w7 [] hlt HGD.out (Nat.lt_succ_self _) HDC.out).mono ?_
          rintro en w8 ⟨rfl, L', hD', hf'⟩
          have HB8 := Lib.hid (HBD.out.trans (hf'.below HBD.out.size (fun k hk => by omega)))
          have HT := Lib.hid (show DepthTold m j (.returned (.tuple #[.int .i64 (dep m j), .bool true])) from ⟨true, by simp, fun _ => ⟨by omega, by omega, by simpa using HGD.out⟩, fun _ => rfl⟩)
          clear hD' hf' hc7
          go_wp2_with fail
          go_ret2
          exact ⟨HT.out, HB8.out⟩
end Go.Proofs.Ytjafmclladiblaa.Gr
