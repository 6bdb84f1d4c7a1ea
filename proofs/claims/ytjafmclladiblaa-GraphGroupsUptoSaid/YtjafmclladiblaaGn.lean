/- Graph: the functions of the element segments; is a function there? -/
import Derived.Test.YtjafmclladiblaaGl
namespace Go.Proofs.Ytjafmclladiblaa.Gr
open Go Go.RowKit Go.Lib Kt Fm

theorem info_int : (Try.prog.info? 3).map (fun i => (i.zero.map (·.cells.size), i.size, i.bytes)) = some (some 1, 1, 8) := by kernel_rfl
theorem bs_int (x : Nat) (w : World) : (Instr.buildSlice 40 1 #[(0, (.int .i64 x))]).run Try.prog w = .ok (.slice (some ⟨w.heap.size, 0, none⟩) 1 1) (w.alloc (.cells (ic x).toArray 3)) := by kernel_rfl
theorem oneIc (x : Nat) : ∀ u ∈ ic x, u.oneCell' = true := by simp [ic, Value.oneCell']
theorem sizeElm : (Try.prog.info? 65).map (·.size) = some 3 := by kernel_rfl
theorem oneElm {w : World} {x : Elm} (h : ElmOk w x) : (x.cs.toArray.all (·.oneCell')) = true := by
  obtain ⟨s, n, c, e⟩ := h.2.1
  obtain ⟨s2, c2, e2, _⟩ := h.2.2.1.form
  simp [Elm.cs, e, e2, Value.oneCell']
/-- The functions of an element segment that are there. -/
def sel (n : Nat) (e : Elm) : List Nat := e.fs.filter fun f => decide (f < n)
theorem sel_le (n : Nat) (e : Elm) : (sel n e).length ≤ e.fs.length := List.length_filter_le _ _
theorem flat_succ {α β : Type} {l : List α} {k : Nat} {x : α} (f : α → List β) (h : l[k]? = some x) : (l.take (k + 1)).flatMap f = (l.take k).flatMap f ++ f x := by
  rw [List.take_add_one, h, Option.toList_some, List.flatMap_append, List.flatMap_cons, List.flatMap_nil, List.append_nil]
theorem filter_succ {α : Type} {l : List α} {k : Nat} {x : α} (p : α → Bool) (h : l[k]? = some x) : (l.take (k + 1)).filter p = (l.take k).filter p ++ if p x then [x] else [] := by
  rw [List.take_add_one, h, Option.toList_some, List.filter_append]
  congr 1
  by_cases e : p x <;> simp [e]
/-- All functions of element segments that are there, rising. -/
def elemsL (m : Mod) (n : Nat) : List Nat := (List.range n).filter (listedB m)
theorem elems_srt (m : Mod) (n : Nat) : srt n (m.elems.flatMap (sel n)) = elemsL m n := by
  unfold srt elemsL
  refine List.filter_congr fun x hx => ?_
  have hx' := List.mem_range.1 hx
  rw [Bool.eq_iff_iff, List.contains_iff_mem, List.mem_flatMap, listedB, List.any_eq_true]
  constructor
  · rintro ⟨e, he, hm⟩
    exact ⟨e, he, List.any_eq_true.2 ⟨x, (List.mem_filter.1 hm).1, by simp⟩⟩
  · rintro ⟨e, he, hm⟩
    obtain ⟨y, hy, e2⟩ := List.any_eq_true.1 hm
    obtain rfl : y = x := by simpa using e2
    exact ⟨e, he, List.mem_filter.2 ⟨hy, by simpa using hx'⟩⟩

set_option maxRecDepth 100000 in
set_option maxHeartbeats 8000000 in
theorem elems_any {W : World} {m : Mod} (hm : ModOk W m) {n : Nat} (hn : n ≤ 4194304) :
    Calls Try.prog 31 #[.agg m.cs.toArray, .int .i64 n] W fun e w' => ∃ v', e = .returned v' ∧ w'.ownsRow W.heap.size 3 1 v' (elemsL m n).length ((elemsL m n).flatMap ic) ∧ Below W.heap.size W w' := by
  have hl1 : m.elems.length ≤ 1048576 := hm.2.2.2.2.2.2.2.2.1.2.2
  have HC := Lib.hid hm.2.2.2.2.2.2.2.2.1
  obtain ⟨s, cap, hiv, hs⟩ := hm.2.2.2.2.2.2.2.2.1.1.form
  have HS := Lib.hid hs
  clear hs hm
  go_enter Try.func31, Try.ntmps31
  go_wp2_with (refine wl_box m.cs _ rfl rfl rfl (fun w1 hb1 hl1 => ?_); have HB1 := Lib.hid hb1; have hc9 := (ModAt.of hl1).c9; rw [hiv] at hc9; clear hb1 hl1; simp only [Act.put, List.setIfInBounds_toArray, List.set_cons_zero, List.set_cons_succ])
  clear hc9
  go_loopw [5, 7, 9, 13] (fun lv _ _ i wr => ∃ (k : Nat) (L : List Nat), k ≤ m.elems.length ∧ i = .int .i64 k ∧ L = (m.elems.take k).flatMap (sel n) ∧ L.length ≤ k * 1048576 ∧ wr.ownsRow W.heap.size 3 1 lv L.length (L.flatMap ic) ∧ Below W.heap.size W wr)
    (fun _ _ _ i _ => m.elems.length - (intOf i).toNat)
  case atStart => exact ⟨0, [], by omega, rfl, by simp, by simp, World.ownsRow_nil _ _ _ _, HB1.out⟩
  case round =>
    clear HB1
    obtain ⟨k, L, hk, rfl, hL, hLl, hrow, hB⟩ := hrel
    have HL := Lib.hid hL
    have HR := Lib.hid hrow
    have HB := Lib.hid hB
    clear hL hrow hB
    by_cases hlt : k < m.elems.length
    · obtain ⟨x, hx⟩ : ∃ x, m.elems[k]? = some x := ⟨_, List.getElem?_eq_getElem hlt⟩
      obtain ⟨g, off, rfl, hg⟩ := HS.out (by intro e; simp [e] at hlt)
      have hok := HC.out.2.1 x (List.mem_of_getElem? hx)
      have hxl : x.fs.length ≤ 1048576 := hok.2.2.2.2
      obtain ⟨sf, cf, hfv, hsf⟩ := hok.2.2.1.form
      have hsl := HC.out.1
      rw [hiv] at hsl
      have hr := keepr HB.out (sl_range hsl hx)
      have HFS := Lib.hid (And.intro hok.2.2.1 hok.2.2.2.1)
      have HX := Lib.hid hx
      have HO := Lib.hid (oneElm hok)
      clear hsl hx hok
      go_wp2_with (first | (refine wpList_load_mid rfl 65 _ rfl g (off + k * 3) rfl x.cs _ hr Try.underlying65 rfl sizeElm ?_; simp only [Act.put, List.setIfInBounds_toArray, List.set_cons_zero, List.set_cons_succ]) | (refine wl_put (Lies.new _ _ _) x.cs _ _ rfl rfl rfl rfl rfl sizeElm HO.out (fun w5 hL5 hF5 => ?_); have hc2 : w5.cell? ⟨wr.heap.size, 2, none⟩ = some (.slice sf x.fs.length cf) := (hL5.cell 2).trans (congrArg some hfv); have HB5 := Lib.hid (below_put ((Below.refl wr.heap.size wr).alloc (Nat.le_refl _) _) hF5 (Nat.le_refl _)); clear hL5 hF5; try simp only [Act.put]))
      have HR5 := Lib.hid (ownsRow_keep HR.out HB5.out)
      have HBW := Lib.hid (bt HB.out HB5.out)
      clear HR HB HB5 hc2 hr HO
      obtain ⟨w5', hw5'⟩ : ∃ w : World, w = w5 := ⟨_, rfl⟩
      go_loopw [5, 9, 20] (fun lv _ i wr => ∃ (j : Nat) (M : List Nat), j ≤ x.fs.length ∧ i = .int .i64 j ∧ M = L ++ (x.fs.take j).filter (fun f => decide (f < n)) ∧ M.length ≤ L.length + j ∧ wr.ownsRow W.heap.size 3 1 lv M.length (M.flatMap ic) ∧ Below W.heap.size W wr)
        (fun _ _ i _ => x.fs.length - (intOf i).toNat)
      case atStart => exact ⟨0, L, Nat.zero_le _, rfl, by simp, Nat.le_refl _, HR5.out, HBW.out⟩
      case round =>
        clear HR5 HBW
        obtain ⟨j, M, hj, rfl, hM, hMl, hrow, hB⟩ := hrel
        have HM := Lib.hid hM
        have HR := Lib.hid hrow
        have HB := Lib.hid hB
        clear hM hrow hB
        by_cases hlt2 : j < x.fs.length
        · obtain ⟨f, hf⟩ : ∃ f, x.fs[j]? = some f := ⟨_, List.getElem?_eq_getElem hlt2⟩
          obtain ⟨g2, off2, rfl, hg2⟩ := hsf (by intro e; simp [e] at hlt2)
          have hsl2 := HFS.out.1
          rw [hfv] at hsl2
          have hcell := (hsl2.later HB.out).cell hf (j := 0) rfl
          rw [Nat.add_zero, Nat.mul_one] at hcell
          have hfb : f < 4294967296 := HFS.out.2 f (List.mem_of_getElem? hf)
          have HF := Lib.hid (filter_succ (fun f => decide (f < n)) hf)
          clear hsl2 hf
          by_cases hfn : f < n
          · have HF2 := Lib.hid (show (x.fs.take (j + 1)).filter (fun f => decide (f < n)) = (x.fs.take j).filter (fun f => decide (f < n)) ++ [f] by rw [HF.out, if_pos (by simpa using hfn)])
            clear HF
            go_wp2_with (first | (refine wl_bs1 _ _ (bs_int f) _ rfl rfl rfl (fun w7 hb7 hl7 => ?_); have HN7 := Lib.hid hl7; have HB7 := Lib.hid hb7; clear hb7 hl7; simp only [Act.put, List.setIfInBounds_toArray, List.set_cons_zero, List.set_cons_succ]) | (refine wl_app _ _ rfl rfl Try.underlying40 info_int (by decide) rfl (ownsRow_keep HR.out HB7.out) ic_len rfl (sl_one (en := ic) HN7.out) (fun y _ => oneIc y) (by simp only [List.length_singleton]; unfold maxLen; omega) (by simp only [List.length_singleton]; omega) (bt HB.out HB7.out).size (fun v' w8 hr8 hg8 hv8 => ?_); have HR8 := Lib.hid hr8; have HG8 := Lib.hid hg8; clear hr8 hg8 hv8; try simp only [Act.put]))
            exact ⟨⟨j + 1, M ++ [f], by omega, by go_num, by rw [HF2.out, HM.out, List.append_assoc], by rw [List.length_append, List.length_singleton]; omega, by rw [List.length_append, List.flatMap_append]; exact HR8.out, (bt HB.out HB7.out).grown HG8.out (bt HB.out HB7.out).size (fun k hk => (row_block (ownsRow_keep HR.out HB7.out) hk).1)⟩, by simp [intOf]; omega⟩
          · have hfn' : n ≤ f := by omega
            have HF2 := Lib.hid (show (x.fs.take (j + 1)).filter (fun f => decide (f < n)) = (x.fs.take j).filter (fun f => decide (f < n)) by rw [HF.out, if_neg (by simpa using hfn'), List.append_nil])
            clear HF
            go_wp2_with fail
            exact ⟨⟨j + 1, M, by omega, by go_num, by rw [HF2.out]; exact HM.out, by omega, HR.out, HB.out⟩, by simp [intOf]; omega⟩
        · obtain rfl : j = x.fs.length := by omega
          go_wp2_with fail
          exact ⟨⟨k + 1, M, by omega, by go_num, by rw [flat_succ _ HX.out, ← HL.out, HM.out, List.take_length]; rfl, by omega, HR.out, HB.out⟩, by simp [intOf]; omega⟩
    · obtain rfl : k = m.elems.length := by omega
      rw [List.take_length] at HL
      go_wp2_with fail
      refine (set_any HR.out (n := n) (by
        rw [HL.out]
        intro x hx
        obtain ⟨e, _, he⟩ := List.mem_flatMap.1 hx
        simpa using (List.mem_filter.1 he).2) (by omega)).mono ?_
      rintro en w8 ⟨v', rfl, hr, hg, _⟩
      rw [HL.out, elems_srt] at hr
      have HR8 := Lib.hid hr
      have HB8 := Lib.hid (HB.out.grown hg HB.out.size (fun k hk => (row_block HR.out hk).1))
      clear hr hg
      go_wp2_with fail
      go_ret
      exact ⟨_, rfl, HR8.out, HB8.out⟩

set_option maxRecDepth 100000 in
set_option maxHeartbeats 4000000 in
theorem there_any {W : World} {b n f : Nat} (hn : n ≤ 4194304) (hf : f < 4294967296) (hc : W.cell? ⟨b, 0, none⟩ = some (.int .i64 n)) :
    Calls Try.prog 32 #[.int .u32 f, .pointer (some ⟨b, 0, none⟩)] W fun e w' => e = .returned (.bool (decide (f < n))) ∧ Below W.heap.size W w' := by
  go_enter Try.func32, Try.ntmps32
  go_wp2_with fail
  go_ret
  refine ⟨?_, Below.refl _ _⟩
  exact congrArg (fun b => Ending.returned (.bool b)) (decide_eq_decide.2 (by omega))
end Go.Proofs.Ytjafmclladiblaa.Gr
