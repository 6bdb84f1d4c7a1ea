/- Graph: lists of functions: graph.set; slices.Clone, Equal, BinarySearch, Contains at them. -/
import Derived.Test.YtjafmclladiblaaShelf
import Derived.Test.YtjafmclladiblaaFt
import Derived.Test.YtjafmclladiblaaGj
import Derived.Lib.RowBridge
namespace Go.Proofs.Ytjafmclladiblaa.Gr
open Go Go.RowKit Kt Fm

/-! ### plain: sorted, each once -/
/-- A list's numbers, rising, each once. -/
def srt (n : Nat) (L : List Nat) : List Nat := (List.range n).filter (L.contains ·)
theorem mem_srt {n : Nat} {L : List Nat} {x : Nat} : x ∈ srt n L ↔ x < n ∧ x ∈ L := by simp [srt]
theorem sorted_range (n : Nat) (p : Nat → Bool) : ((List.range n).filter p).Pairwise (· < ·) := List.Pairwise.filter _ List.pairwise_lt_range
theorem sorted_ext : ∀ {a b : List Int}, a.Pairwise (· < ·) → b.Pairwise (· < ·) → (∀ x, x ∈ a ↔ x ∈ b) → a = b
  | [], [], _, _, _ => rfl
  | [], y :: r, _, _, h => absurd ((h y).2 (List.mem_cons_self ..)) (by simp)
  | x :: r, [], _, _, h => absurd ((h x).1 (List.mem_cons_self ..)) (by simp)
  | x :: r, y :: s, ha, hb, h => by
    obtain ⟨h1, h2⟩ := List.pairwise_cons.1 ha
    obtain ⟨h3, h4⟩ := List.pairwise_cons.1 hb
    have hxy : x = y := by
      rcases List.mem_cons.1 ((h x).1 (List.mem_cons_self ..)) with e | hx
      · exact e
      · rcases List.mem_cons.1 ((h y).2 (List.mem_cons_self ..)) with e | hy
        · exact e.symm
        · have := h3 x hx
          have := h1 y hy
          omega
    subst hxy
    congr 1
    refine sorted_ext h2 h4 fun z => ⟨fun hz => ?_, fun hz => ?_⟩
    · rcases List.mem_cons.1 ((h z).1 (List.mem_cons_of_mem _ hz)) with e | hz'
      · subst e; have := h1 z hz; omega
      · exact hz'
    · rcases List.mem_cons.1 ((h z).2 (List.mem_cons_of_mem _ hz)) with e | hz'
      · subst e; have := h3 z hz; omega
      · exact hz'
theorem compact_sorted {d : Array Int} (hs : ∀ i j, i ≤ j → j < d.size → d[i]! ≤ d[j]!) : ∀ m, m ≤ d.size → (Lib.compactUpTo d m).Pairwise (· < ·) ∧ (∀ x, x ∈ Lib.compactUpTo d m ↔ ∃ j, j < m ∧ x = d[j]!)
  | 0, _ => by simp [Lib.compactUpTo]
  | m + 1, hm => by
    obtain ⟨h1, h2⟩ := compact_sorted hs m (by omega)
    rw [Lib.compactUpTo_succ]
    by_cases hk : m = 0 ∨ d[m]! ≠ d[m - 1]!
    · have hk' : Lib.keeps d m = true := by simp [Lib.keeps, hk]
      rw [if_pos hk']
      have hlt : ∀ j, j < m → d[j]! < d[m]! := fun j hj => by
        have a := hs j (m - 1) (by omega) (by omega)
        have b := hs (m - 1) m (by omega) (by omega)
        rcases hk with e | e
        · omega
        · omega
      refine ⟨List.pairwise_append.2 ⟨h1, by simp, fun x hx y hy => ?_⟩, fun x => ?_⟩
      · obtain ⟨j, hj, rfl⟩ := (h2 x).1 hx
        obtain rfl := List.mem_singleton.1 hy
        exact hlt j hj
      · rw [List.mem_append, h2, List.mem_singleton]
        constructor
        · rintro (⟨j, hj, rfl⟩ | rfl)
          · exact ⟨j, by omega, rfl⟩
          · exact ⟨m, by omega, rfl⟩
        · rintro ⟨j, hj, rfl⟩
          by_cases e : j = m
          · exact .inr (by rw [e])
          · exact .inl ⟨j, by omega, rfl⟩
    · have hk' : ¬ Lib.keeps d m = true := by simpa [Lib.keeps] using hk
      rw [if_neg hk', List.append_nil]
      refine ⟨h1, fun x => (h2 x).trans ⟨fun ⟨j, hj, e⟩ => ⟨j, by omega, e⟩, fun ⟨j, hj, e⟩ => ?_⟩⟩
      have hm0 : ¬ m = 0 := fun e => hk (Or.inl e)
      have hmm : d[m]! = d[m - 1]! := Classical.byContradiction fun e => hk (Or.inr e)
      by_cases ej : j = m
      · exact ⟨m - 1, by omega, by rw [e, ej, hmm]⟩
      · exact ⟨j, by omega, e⟩
def ints (L : List Nat) : List Int := L.map fun (x : Nat) => (x : Int)
theorem ints_len (L : List Nat) : (ints L).length = L.length := by simp [ints]
theorem set_list {n : Nat} {L : List Nat} (hL : ∀ x ∈ L, x < n) : Lib.compact ((ints L).mergeSort fun x y => decide (x ≤ y)) = ints (srt n L) := by
  have hp : ((ints L).mergeSort fun x y => decide (x ≤ y)).Pairwise (fun x y => decide (x ≤ y) = true) := List.pairwise_mergeSort (fun a b c h1 h2 => by simp only [decide_eq_true_eq] at *; omega) (fun a b => by simp only [Bool.or_eq_true, decide_eq_true_eq]; omega) _
  have hm : ∀ x, x ∈ ((ints L).mergeSort fun x y => decide (x ≤ y)) ↔ x ∈ ints L := fun x => (List.mergeSort_perm _ _).mem_iff
  generalize (ints L).mergeSort (fun x y => decide (x ≤ y)) = zs at hp hm ⊢
  have hs : ∀ i j, i ≤ j → j < zs.toArray.size → zs.toArray[i]! ≤ zs.toArray[j]! := fun i j hij hj => by
    have hj' : j < zs.length := by simpa using hj
    by_cases e : i = j
    · subst e; exact Int.le_refl _
    · have := List.pairwise_iff_getElem.1 hp i j (by omega) hj' (by omega)
      simpa [getElem!_pos, hj', show i < zs.length by omega] using this
  obtain ⟨h1, h2⟩ := compact_sorted hs zs.toArray.size (Nat.le_refl _)
  refine sorted_ext h1 ?_ fun x => ?_
  · rw [ints, List.pairwise_map]
    exact (sorted_range n _).imp (fun h => by omega)
  · rw [show (x ∈ Lib.compact zs) = (x ∈ Lib.compactUpTo zs.toArray zs.toArray.size) from rfl, h2]
    constructor
    · rintro ⟨j, hj, rfl⟩
      have hj' : j < zs.length := by simpa using hj
      have := (hm zs[j]).1 (List.getElem_mem hj')
      obtain ⟨y, hy, e⟩ := List.mem_map.1 this
      have e2 : zs.toArray[j]! = zs[j] := by simp [hj']
      rw [e2, ← e]
      exact List.mem_map.2 ⟨y, mem_srt.2 ⟨hL y hy, hy⟩, rfl⟩
    · intro hx
      obtain ⟨y, hy, rfl⟩ := List.mem_map.1 hx
      obtain ⟨j, hj, e⟩ := List.getElem_of_mem ((hm (y : Int)).2 (List.mem_map.2 ⟨y, (mem_srt.1 hy).2, rfl⟩))
      exact ⟨j, by simpa using hj, by simp [hj, e]⟩
theorem srt_le (n : Nat) (L : List Nat) : (srt n L).length ≤ n := Nat.le_trans (List.length_filter_le _ _) (by simp)

/-! ### rows of functions -/
def ic (x : Nat) : List Value := [.int .i64 x]
theorem ic_len (x : Nat) : (ic x).length = 1 := rfl
theorem flat_ic (L : List Nat) : L.flatMap ic = (ints L).map (Value.int .i64) := by
  rw [ints, List.map_map, List.flatMap_def]
  induction L with
  | nil => rfl
  | cons x r ih => rw [List.map_cons, List.flatten_cons, ih]; rfl
theorem below_drewN' (w : World) (q : Nat) : Below w.heap.size w (w.drewN q) := ⟨rfl, rfl, rfl, Nat.le_refl _, fun _ _ => rfl⟩
/-- A block of one's own whose row is holds numbers. -/
theorem holds_row {w : World} {base g cap : Nat} {zs : List Int} (h : w.ownsRow base 3 1 (.slice (some ⟨g, 0, none⟩) zs.length cap) zs.length (zs.map (Value.int .i64))) : Sort.Holds (Value.int .i64) w g 0 zs.toArray := by
  intro j hj
  have hj' : j < zs.length := by simpa using hj
  refine ⟨?_, ?_⟩
  · rw [Nat.zero_add, h.cellAt _ (by omega)]
    simp [hj']
  · rw [Nat.zero_add]
    exact h.frozenAt _
theorem below_grow (w : World) (os : Array Obj) : Below w.heap.size w (Sort.grow w os) := ⟨rfl, rfl, rfl, by simp [Sort.grow], fun k hk => by simp [Sort.grow, Array.getElem?_append_left hk]⟩
/-- What a contract of the sort's leaves: the row written over, and new blocks. -/
theorem row_put {w : World} {base g cap q : Nat} {zs ys : List Int} (os : Array Obj) (h : w.ownsRow base 3 1 (.slice (some ⟨g, 0, none⟩) zs.length cap) zs.length (zs.map (Value.int .i64))) (hy : ys.length = zs.length) :
    (Sort.grow (Sort.putRow (Value.int .i64) (Sort.ahead w q) g 0 ys.toArray) os).ownsRow base 3 1 (.slice (some ⟨g, 0, none⟩) zs.length cap) zs.length (ys.map (Value.int .i64)) ∧ w.grownBy (Sort.grow (Sort.putRow (Value.int .i64) (Sort.ahead w q) g 0 ys.toArray) os) (some g) := by
  rw [Lib.putRow_eq_setCells (Value.int .i64) w g 0 zs.toArray ys q (holds_row h) (by simpa using hy)]
  have h1 : (w.drewN q).ownsRow base 3 1 (.slice (some ⟨g, 0, none⟩) zs.length cap) zs.length (zs.map (Value.int .i64)) := ownsRow_keep h (below_drewN' w q)
  have h2 := row_over h1 0 (ys.map (Value.int .i64)) (by simp [hy])
  have e : (zs.map (Value.int .i64)).take 0 ++ ys.map (Value.int .i64) ++ (zs.map (Value.int .i64)).drop (0 + (ys.map (Value.int .i64)).length) = ys.map (Value.int .i64) := by
    rw [List.take_zero, List.nil_append, Nat.zero_add, List.length_map, hy, List.drop_of_length_le (by simp), List.append_nil]
  rw [e] at h2
  refine ⟨ownsRow_keep h2.1 (below_grow _ os), ?_⟩
  exact grownBy_trans (grownBy_trans (grownBy_below (below_drewN' w q) _) h2.2) (grownBy_below (below_grow _ os) _)
set_option maxRecDepth 100000 in
set_option maxHeartbeats 4000000 in
/-- graph.set. -/
theorem set_any {W : World} {base n : Nat} {v : Value} {L : List Nat} (h : W.ownsRow base 3 1 v L.length (L.flatMap ic)) (hL : ∀ x ∈ L, x < n) (hl : L.length < 4611686018427387904) :
    Calls Try.prog 36 #[v] W fun e w' => ∃ v', e = .returned v' ∧ w'.ownsRow base 3 1 v' (srt n L).length ((srt n L).flatMap ic) ∧ W.grownBy w' v.ownBlock ∧ v'.ownBlock = v.ownBlock := by
  obtain ⟨s, cap, rfl, hcap, hs⟩ := row_form h
  cases L with
  | nil =>
    have HR := Lib.hid h
    clear h hs hL
    go_enter Try.func36, Try.ntmps36
    go_wp2_with fail
    refine (Try.slices_Sort_int_none s cap W).mono ?_
    rintro en w2 ⟨rfl, rfl⟩
    go_wp2_with fail
    refine (Try.slices_Compact_int_empty s cap w2).mono ?_
    rintro en w3 ⟨rfl, rfl⟩
    go_wp2_with fail
    go_ret
    have e : srt n [] = [] := by simp [srt]
    rw [e]
    exact ⟨_, rfl, HR.out, ⟨rfl, rfl, rfl, Nat.le_refl _, fun _ _ _ => rfl⟩, rfl⟩
  | cons x0 r =>
    obtain ⟨g, rfl⟩ := hs (by simp)
    have hil := ints_len (x0 :: r)
    have hset := set_list hL
    rw [flat_ic] at h
    have HL := Lib.hid hset
    clear hset hs hL
    generalize x0 :: r = L at h hl hil HL hcap ⊢
    have hk : (srt n L).length ≤ L.length := by
      have := congrArg List.length HL.out
      rw [ints_len] at this
      have h2 := Lib.compact_length_le ((ints L).mergeSort fun x y => decide (x ≤ y))
      rw [List.length_mergeSort, hil] at h2
      omega
    rw [← hil] at h hl hcap hk ⊢
    have HIL := Lib.hid hil
    clear hil
    have HR := Lib.hid h
    clear h
    have hlt := (Array.getElem?_eq_some_iff.1 (row_block HR.out rfl).2.2.choose_spec).1
    go_enter Try.func36, Try.ntmps36
    go_wp2_with fail
    refine (Try.slices_Sort_int g 0 cap (ints L) W (holds_row HR.out) hlt hl).mono ?_
    rintro en w2 ⟨rfl, q, os, hw2⟩
    have hml : ((ints L).mergeSort fun x y => decide (x ≤ y)).length = (ints L).length := List.length_mergeSort _
    have hr2 := row_put (q := q) os HR.out hml
    rw [← hw2] at hr2
    have HR2 := Lib.hid hr2
    have HML := Lib.hid hml
    have hr2' := hr2.1
    generalize (ints L).mergeSort (fun x y => decide (x ≤ y)) = zs at hr2' HR2 HML HL
    clear hw2 hr2 hml
    go_wp2_with fail
    have hzl := HML.out
    rw [← hzl] at hr2' hl hcap ⊢
    refine (Try.slices_Compact_int g 0 cap zs w2 (holds_row hr2') (by omega) hcap).mono ?_
    rintro en w3 ⟨rfl, q2, hw3⟩
    have hcl : (Lib.compact zs ++ List.replicate (zs.length - (Lib.compact zs).length) 0).length = zs.length := by
      rw [List.length_append, List.length_replicate]
      have := Lib.compact_length_le zs
      omega
    have hr3 := row_put (q := q2) #[] hr2' hcl
    rw [Sort.grow_empty, ← hw3] at hr3
    have HR3 := Lib.hid hr3
    clear hw3 hr3 hr2' hcl
    go_wp2_with fail
    go_ret
    refine ⟨_, rfl, ?_, grownBy_trans HR2.out.2 HR3.out.2, rfl⟩
    have hsl : (srt n L).length = (Lib.compact zs).length := by rw [HL.out, ints_len]
    rw [← hsl]
    refine row_front ic_len HR3.out.1 (by rw [HML.out]; exact hk) ?_
    rw [Nat.mul_one, hsl, List.map_append, List.take_append_of_le_length (by simp), List.take_of_length_le (by simp), HL.out, flat_ic]

theorem sl_ints {W : World} {g off n c : Nat} {L : List Nat} (h : Sl W 1 ic (.slice (some ⟨g, off, none⟩) n c) L) : ∀ j, j < (ints L).length → W.cell? ⟨g, off + j, none⟩ = some (.int .i64 ((ints L).getD j 0)) := by
  intro j hj
  rw [ints_len] at hj
  have := h.cell (List.getElem?_eq_getElem hj) (j := 0) rfl
  rw [Nat.mul_one, Nat.add_zero] at this
  rw [this]
  simp [ints, List.getD, hj]
theorem sl_addr {W : World} {s : Option Addr} {n c : Nat} {L : List Nat} (h : Sl W 1 ic (.slice s n c) L) (hne : L ≠ []) : n = L.length ∧ ∃ g off, s = some ⟨g, off, none⟩ := by
  obtain ⟨s', c', e, hs⟩ := h.form
  obtain ⟨g, off, e2, _⟩ := hs hne
  injection e with e1 e3
  exact ⟨e3, g, off, by rw [e1, e2]⟩
theorem clone_ic {W : World} {v : Value} {L : List Nat} (h : Sl W 1 ic v L) (hn : L.length ≤ 4194304) :
    Calls Try.prog 38 #[v] W fun e w' => ∃ v', e = .returned v' ∧ w'.ownsRow W.heap.size 3 1 v' L.length (L.flatMap ic) ∧ Below W.heap.size W w' := by
  obtain ⟨s, cap, rfl, hs⟩ := h.form
  by_cases h0 : L = []
  · subst h0
    cases s with
    | none =>
      refine (Try.slices_Clone_int_nil 0 cap W).mono ?_
      rintro en w2 ⟨rfl, rfl⟩
      exact ⟨_, rfl, World.ownsRow_nil _ _ _ _, Below.refl _ _⟩
    | some a =>
      refine (Try.slices_Clone_int_zero a cap W).mono ?_
      rintro en w2 ⟨v', rfl, h1, _, h2⟩
      exact ⟨_, rfl, h1, h2⟩
  · obtain ⟨_, g, off, rfl⟩ := sl_addr h h0
    have := Try.slices_Clone_int g off L.length cap (ints L) W (by rw [ints_len]; exact Nat.le_refl _) (by omega) (sl_ints h)
    refine this.mono ?_
    rintro en w2 ⟨v', rfl, h1, _, h2⟩
    rw [List.take_of_length_le (by rw [ints_len]; exact Nat.le_refl _), ← flat_ic] at h1
    exact ⟨_, rfl, h1, h2⟩
theorem ints_inj {A B : List Nat} (h : ints A = ints B) : A = B := by
  unfold ints at h
  exact (List.map_inj_right (fun x y e => by omega)).1 h
theorem below_drewN2 {w w' : World} {q : Nat} (h : w' = w.drewN q) : Below w.heap.size w w' := h ▸ below_drewN' w q
theorem equal_ic {W : World} {u v : Value} {A B : List Nat} (ha : Sl W 1 ic u A) (hb : Sl W 1 ic v B) (hA : A.length ≤ 4194304) (hB : B.length ≤ 4194304) :
    Calls Try.prog 14 #[u, v] W fun e w' => e = .returned (.bool (A == B)) ∧ Below W.heap.size W w' := by
  obtain ⟨s, cap, rfl, hs⟩ := ha.form
  obtain ⟨s2, cap2, rfl, hs2⟩ := hb.form
  by_cases hl : A.length = B.length
  · by_cases h0 : A = []
    · subst h0
      have hB0 : B = [] := List.eq_nil_of_length_eq_zero hl.symm
      subst hB0
      refine (Try.slices_Equal_int_empty s s2 cap 0 cap2 W (by omega)).mono ?_
      rintro en w2 ⟨rfl, rfl⟩
      exact ⟨rfl, Below.refl _ _⟩
    · have h0' : B ≠ [] := fun e => h0 (List.eq_nil_of_length_eq_zero (by rw [hl, e]; rfl))
      obtain ⟨_, g, off, rfl⟩ := sl_addr ha h0
      obtain ⟨_, g2, off2, rfl⟩ := sl_addr hb h0'
      refine (Try.slices_Equal_int g off A.length cap g2 off2 B.length cap2 (ints A) (ints B) W (by rw [ints_len]; exact Nat.le_refl _) (by rw [ints_len]; exact Nat.le_refl _) (by omega) (by omega) (sl_ints ha) (sl_ints hb)).mono ?_
      rintro en w2 ⟨rfl, q, hq⟩
      refine ⟨?_, below_drewN2 hq⟩
      rw [List.take_of_length_le (by rw [ints_len]; exact Nat.le_refl _), List.take_of_length_le (by rw [ints_len]; exact Nat.le_refl _)]
      congr 2
      rw [Bool.eq_iff_iff, beq_iff_eq, beq_iff_eq]
      exact ⟨ints_inj, fun e => by rw [e]⟩
  · refine (Try.slices_Equal_int_lens s s2 A.length cap B.length cap2 W hl).mono ?_
    rintro en w2 ⟨rfl, rfl⟩
    refine ⟨?_, Below.refl _ _⟩
    have : (A == B) = false := beq_eq_false_iff_ne.2 (fun e => hl (by rw [e]))
    rw [this]
theorem ints_contains (L : List Nat) (x : Nat) : (ints L).contains (x : Int) = L.contains x := by
  rw [Bool.eq_iff_iff, List.contains_iff_mem, List.contains_iff_mem, ints, List.mem_map]
  exact ⟨fun ⟨y, hy, e⟩ => by have : y = x := by omega
                              exact this ▸ hy, fun h => ⟨x, h, rfl⟩⟩
theorem bsearch_ic {W : World} {v : Value} {L : List Nat} (h : Sl W 1 ic v L) (hn : L.length ≤ 4194304) (hs : L.Pairwise (· < ·)) (x : Int) :
    Calls Try.prog 43 #[v, .int .i64 x] W fun e w' => (∃ i : Int, e = .returned (.tuple #[.int .i64 i, .bool ((ints L).contains x)])) ∧ Below W.heap.size W w' := by
  obtain ⟨s, cap, rfl, hs'⟩ := h.form
  by_cases h0 : L = []
  · subst h0
    refine (Try.slices_BinarySearch_int_empty s cap x W).mono ?_
    rintro en w2 ⟨rfl, rfl⟩
    exact ⟨⟨_, rfl⟩, Below.refl _ _⟩
  · obtain ⟨_, g, off, rfl⟩ := sl_addr h h0
    have hp : ((ints L).take L.length).Pairwise (· ≤ ·) := by
      rw [List.take_of_length_le (by rw [ints_len]; exact Nat.le_refl _), ints, List.pairwise_map]
      exact hs.imp (fun h => by omega)
    refine (Try.slices_BinarySearch_int g off L.length cap (ints L) x W (by rw [ints_len]; exact Nat.le_refl _) (by omega) (sl_ints h) hp).mono ?_
    rintro en w2 ⟨rfl, q, hq⟩
    rw [List.take_of_length_le (by rw [ints_len]; exact Nat.le_refl _)]
    exact ⟨⟨_, rfl⟩, below_drewN2 hq⟩
theorem contains_ic {W : World} {v : Value} {L : List Nat} (h : Sl W 1 ic v L) (hn : L.length ≤ 4194304) (x : Int) :
    Calls Try.prog 26 #[v, .int .i64 x] W fun e w' => e = .returned (.bool ((ints L).contains x)) ∧ Below W.heap.size W w' := by
  obtain ⟨s, cap, rfl, hs'⟩ := h.form
  by_cases h0 : L = []
  · subst h0
    refine (Try.slices_Contains_int_empty s cap x W).mono ?_
    rintro en w2 ⟨rfl, rfl⟩
    exact ⟨rfl, Below.refl _ _⟩
  · obtain ⟨_, g, off, rfl⟩ := sl_addr h h0
    refine (Try.slices_Contains_int g off L.length cap (ints L) x W (by rw [ints_len]; exact Nat.le_refl _) (by omega) (sl_ints h)).mono ?_
    rintro en w2 ⟨rfl, rfl⟩
    rw [List.take_of_length_le (by rw [ints_len]; exact Nat.le_refl _)]
    exact ⟨rfl, Below.refl _ _⟩
end Go.Proofs.Ytjafmclladiblaa.Gr
