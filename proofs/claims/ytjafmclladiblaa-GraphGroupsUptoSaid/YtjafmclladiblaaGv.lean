/- Graph: how deep: plain; circles among what is reached; the closure of Depth. -/
import Derived.Test.YtjafmclladiblaaGu
import Derived.Test.YtjafmclladiblaaMp
namespace Go.Proofs.Ytjafmclladiblaa.Gr
open Go Go.RowKit Go.Lib Kt Fm

/-! ### plain -/
/-- No circle at a function, nor at what it reaches. -/
def Good (m : Mod) (f : Nat) : Prop := ∀ h, h = f ∨ Way (cnt m) (callsB m) f h → ¬ Way (cnt m) (callsB m) h h
theorem Good.step {m : Mod} {f h : Nat} (g : Good m f) (hf : f < cnt m) (hh : h ∈ callsL m f) : Good m h := fun x hx => by
  have w : Way (cnt m) (callsB m) f h := .one hf (mem_callsL.1 hh).1 (mem_callsL.1 hh).2
  rcases hx with rfl | hx
  · exact g _ (Or.inr w)
  · exact g _ (Or.inr (w.trans hx))
noncomputable def mu (m : Mod) (f : Nat) : Nat := (wayL m f).length
theorem count_less {α : Type} {p q : α → Bool} (h : ∀ x, p x = true → q x = true) : ∀ {l : List α} {x0 : α}, x0 ∈ l → q x0 = true → p x0 = false → (l.filter p).length < (l.filter q).length
  | [], _, h0, _, _ => by cases h0
  | y :: l, x0, h0, hq, hp => by
    have hm : (l.filter p).length ≤ (l.filter q).length := by
      rw [← List.countP_eq_length_filter, ← List.countP_eq_length_filter]
      exact List.countP_mono_left (fun x _ => h x)
    rcases List.mem_cons.1 h0 with rfl | h1
    · rw [List.filter_cons_of_pos hq, List.filter_cons_of_neg (by simp [hp]), List.length_cons]
      omega
    · have := count_less h h1 hq hp
      rw [List.filter_cons, List.filter_cons]
      by_cases e : p y = true
      · rw [if_pos e, if_pos (h y e), List.length_cons, List.length_cons]
        omega
      · rw [if_neg e]
        split
        · rw [List.length_cons]; omega
        · exact this
open Classical in
theorem mu_lt {m : Mod} {f h : Nat} (g : Good m f) (hf : f < cnt m) (hh : h ∈ callsL m f) : mu m h < mu m f := by
  have w : Way (cnt m) (callsB m) f h := .one hf (mem_callsL.1 hh).1 (mem_callsL.1 hh).2
  unfold mu wayL
  refine count_less (x0 := h) (fun x hx => ?_) (List.mem_range.2 w.lt.2) (by simpa using w) (by simpa using g h (Or.inr w))
  rw [decide_eq_true_eq] at hx ⊢
  exact w.trans hx
/-- The longest way down, of so many steps at most. -/
def depN (m : Mod) : Nat → Nat → Nat
  | 0, _ => 0
  | k + 1, f => if f < (fk m 0).length then 0 else (callsL m f).foldl (fun n h => max n (depN m k h)) 0 + 1
noncomputable def dep (m : Mod) (f : Nat) : Nat := depN m (cnt m + 1) f
theorem foldl_congr {g1 g2 : Nat → Nat} : ∀ (l : List Nat) (a : Nat), (∀ h ∈ l, g1 h = g2 h) → l.foldl (fun n h => max n (g1 h)) a = l.foldl (fun n h => max n (g2 h)) a
  | [], _, _ => rfl
  | x :: r, a, h => by
    rw [List.foldl_cons, List.foldl_cons, h x (List.mem_cons_self ..)]
    exact foldl_congr r _ (fun y hy => h y (List.mem_cons_of_mem _ hy))
theorem foldl_max_le {g1 : Nat → Nat} {b : Nat} : ∀ (l : List Nat) (a : Nat), a ≤ b → (∀ h ∈ l, g1 h ≤ b) → l.foldl (fun n h => max n (g1 h)) a ≤ b
  | [], _, ha, _ => ha
  | x :: r, a, ha, h => by
    rw [List.foldl_cons]
    exact foldl_max_le r _ (Nat.max_le.2 ⟨ha, h x (List.mem_cons_self ..)⟩) (fun y hy => h y (List.mem_cons_of_mem _ hy))
theorem depN_le (m : Mod) : ∀ k f, depN m k f ≤ k
  | 0, _ => Nat.le_refl _
  | k + 1, f => by
    unfold depN
    split
    · omega
    · have := foldl_max_le (g1 := depN m k) (callsL m f) 0 (Nat.zero_le k) (fun h _ => depN_le m k h)
      omega
theorem depN_still (m : Mod) : ∀ k f, f < cnt m → Good m f → mu m f < k → depN m k f = depN m (k + 1) f
  | 0, _, _, _, h => by omega
  | k + 1, f, hf, g, h => by
    rw [depN, depN.eq_2 m f (k + 1)]
    split
    · rfl
    · congr 1
      exact foldl_congr _ _ fun x hx => depN_still m k x (mem_callsL.1 hx).1 (g.step hf hx) (by have := mu_lt g hf hx; omega)
theorem dep_eq {m : Mod} {f : Nat} (hf : f < cnt m) (g : Good m f) : dep m f = if f < (fk m 0).length then 0 else (callsL m f).foldl (fun n h => max n (dep m h)) 0 + 1 := by
  unfold dep
  rw [depN.eq_2]
  split
  · rfl
  · congr 1
    refine foldl_congr _ _ fun x hx => depN_still m _ x (mem_callsL.1 hx).1 (g.step hf hx) ?_
    have h1 := mu_lt g hf hx
    have h2 := wayL_le m f
    unfold mu at *
    omega
theorem dep_le (m : Mod) (f : Nat) : dep m f ≤ cnt m + 1 := depN_le m _ f

/-! ### slices.IndexFunc, ContainsFunc at Circle -/
set_option maxRecDepth 100000 in
set_option maxHeartbeats 4000000 in
theorem ixf_any {W : World} {G : Nat} {m : Mod} (h : Gph W G m) (hn : cnt m ≤ 1000) {v : Value} {L : List Nat} (hs : Sl W 1 ic v L) (hl : L.length ≤ 1000) :
    Calls Try.prog 64 #[v, .func (.func 20) #[.pointer (some ⟨G, 0, none⟩)] #[]] W fun e w' => (∃ i : Int, -1 ≤ i ∧ i ≤ 1000 ∧ e = .returned (.int .i64 i) ∧ (0 ≤ i ↔ ∃ x, x ∈ L ∧ Way (cnt m) (callsB m) x x)) ∧ Below W.heap.size W w' := by
  have HG := Lib.hid h
  obtain ⟨s, cap, rfl, hs2⟩ := hs.form
  have HS := Lib.hid hs
  clear h hs
  go_enter Try.func64, Try.ntmps64
  go_wp2_with fail
  go_loopw [5, 8] (fun _ i wr => ∃ j : Nat, j ≤ L.length ∧ i = .int .i64 j ∧ Below W.heap.size W wr ∧ (∀ x ∈ L.take j, ¬ Way (cnt m) (callsB m) x x))
    (fun _ i _ => L.length - (intOf i).toNat)
  case atStart => exact ⟨0, Nat.zero_le _, rfl, Below.refl _ _, by simp⟩
  case round =>
    obtain ⟨j, hj, rfl, hbr, hall⟩ := hrel
    have HBR := Lib.hid hbr
    have HALL := Lib.hid hall
    clear hbr hall
    by_cases hlt : j < L.length
    · obtain ⟨x, hx⟩ : ∃ x, L[j]? = some x := ⟨_, List.getElem?_eq_getElem hlt⟩
      obtain ⟨g, off, rfl, hg⟩ := hs2 (by intro e; simp [e] at hlt)
      have hcell := (HS.out.later HBR.out).cell hx (j := 0) rfl
      rw [Nat.mul_one, Nat.add_zero] at hcell
      have HX := Lib.hid hx
      clear hx
      go_wp2_with fail
      refine (circle_any (HG.out.later HBR.out) hn x).mono ?_
      rintro en w2 ⟨⟨b, rfl, hb⟩, hb2⟩
      have HB2 := Lib.hid (bt HBR.out hb2)
      rw [Int.toNat_natCast] at hb
      have HB := Lib.hid hb
      clear hb hb2 hcell
      cases b with
      | false =>
        have hnw : ¬ Way (cnt m) (callsB m) x x := fun w => by
          have := HB.out.2 ⟨by omega, w⟩
          cases this
        go_wp2_with fail
        exact ⟨⟨j + 1, by omega, by go_num, HB2.out, fun y hy => by
          rw [List.take_add_one, HX.out] at hy
          rcases List.mem_append.1 hy with e | e
          · exact HALL.out y e
          · obtain rfl : y = x := by simpa using e
            exact hnw⟩, by simp [intOf]; omega⟩
      | true =>
        have hw : Way (cnt m) (callsB m) x x := (HB.out.1 rfl).2
        have HWX := Lib.hid (And.intro (List.mem_of_getElem? HX.out) hw)
        clear hw
        go_wp2_with fail
        go_ret
        exact ⟨⟨j, by omega, by omega, rfl, fun _ => ⟨x, HWX.out.1, HWX.out.2⟩, fun _ => by omega⟩, HB2.out⟩
    · obtain rfl : j = L.length := by omega
      rw [List.take_length] at HALL
      go_wp2_with fail
      go_ret
      exact ⟨⟨-1, by omega, by omega, rfl, fun e => by omega, fun ⟨x, hx, w⟩ => absurd w (HALL.out x hx)⟩, HBR.out⟩
set_option maxRecDepth 100000 in
set_option maxHeartbeats 4000000 in
theorem cfn_any {W : World} {G : Nat} {m : Mod} (h : Gph W G m) (hn : cnt m ≤ 1000) {v : Value} {L : List Nat} (hs : Sl W 1 ic v L) (hl : L.length ≤ 1000) :
    Calls Try.prog 44 #[v, .func (.func 20) #[.pointer (some ⟨G, 0, none⟩)] #[]] W fun e w' => (∃ b, e = .returned (.bool b) ∧ (b = true ↔ ∃ x, x ∈ L ∧ Way (cnt m) (callsB m) x x)) ∧ Below W.heap.size W w' := by
  have HG := Lib.hid h
  have HS := Lib.hid hs
  clear h hs
  go_enter Try.func44, Try.ntmps44
  go_wp2_with fail
  refine (ixf_any HG.out hn HS.out hl).mono ?_
  rintro en w2 ⟨⟨i, h1, h2, rfl, hi⟩, hb⟩
  have HI := Lib.hid hi
  have HB := Lib.hid hb
  clear hi hb
  go_wp2_with fail
  go_ret
  exact ⟨⟨_, rfl, by rw [decide_eq_true_eq]; exact HI.out⟩, HB.out⟩
end Go.Proofs.Ytjafmclladiblaa.Gr
