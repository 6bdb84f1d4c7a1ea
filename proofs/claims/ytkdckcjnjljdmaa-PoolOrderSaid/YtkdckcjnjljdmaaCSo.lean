/- Addresses in order: the comparison of two, and slices.SortFunc with it: what the row holds behind it is the list by rising addresses. -/
import Derived.Test.YtkdckcjnjljdmaaCKa
import Derived.Test.YtkdckcjnjljdmaaCKc
import Derived.Test.YtkdckcjnjljdmaaCCb
import Derived.Test.YtkdckcjnjljdmaaCShSort
import Derived.Deep.QuietTactic
import Derived.BigQuiet
import Derived.Shelf.SlSortCmp.NoneTotal
import Derived.Laws.OwnMore
namespace Go.Proofs.Ytkdckcjnjljdmaa.Ad
open Go Go.RowKit Go.Shelf Kt

/-! ### plain -/
def numL (l : List UInt8) : Nat := l.foldl (fun n x => n * 256 + x.toNat) 0
theorem foldl_num (l : List UInt8) : ∀ n : Nat, l.foldl (fun n x => n * 256 + x.toNat) n = n * 256 ^ l.length + numL l := by
  induction l with
  | nil => intro n; simp [numL]
  | cons x r ih =>
    intro n
    unfold numL
    simp only [List.foldl_cons, List.length_cons]
    rw [ih, ih (0 * 256 + x.toNat), Nat.pow_succ]
    have : (n * 256 + x.toNat) * 256 ^ r.length = n * (256 ^ r.length * 256) + x.toNat * 256 ^ r.length := by
      rw [Nat.add_mul, Nat.mul_assoc, Nat.mul_comm 256]
    simp only [Nat.zero_mul, Nat.zero_add]
    omega
theorem numL_cons (x : UInt8) (l : List UInt8) : numL (x :: l) = x.toNat * 256 ^ l.length + numL l := by
  have := foldl_num l (0 * 256 + x.toNat)
  simpa [numL] using this
theorem numL_lt (l : List UInt8) : numL l < 256 ^ l.length := by
  induction l with
  | nil => simp [numL]
  | cons x r ih =>
    rw [numL_cons, List.length_cons, Nat.pow_succ]
    have := u8_lt x
    have h2 : x.toNat * 256 ^ r.length ≤ 255 * 256 ^ r.length := Nat.mul_le_mul_right _ (by omega)
    omega
theorem compare_num : ∀ (l m : List UInt8), l.length = m.length → (Lib.compareBytes l m < 0 ↔ numL l < numL m)
  | [], [], _ => by simp [Lib.compareBytes]
  | x :: l, y :: m, h => by
    have hl : l.length = m.length := by simpa using h
    have ih := compare_num l m hl
    rw [numL_cons, numL_cons, hl]
    have b1 := numL_lt l; have b2 := numL_lt m
    rw [hl] at b1
    unfold Lib.compareBytes
    by_cases h1 : x < y
    · have : x.toNat < y.toNat := h1
      have h2 : (x.toNat + 1) * 256 ^ m.length ≤ y.toNat * 256 ^ m.length := Nat.mul_le_mul_right _ this
      rw [Nat.add_mul, Nat.one_mul] at h2
      simp [h1]; omega
    · by_cases h3 : y < x
      · have : y.toNat < x.toNat := h3
        have h2 : (y.toNat + 1) * 256 ^ m.length ≤ x.toNat * 256 ^ m.length := Nat.mul_le_mul_right _ this
        rw [Nat.add_mul, Nat.one_mul] at h2
        simp [h1, h3]; omega
      · have e : x = y := UInt8.toNat_inj.1 (by have a1 : ¬ x.toNat < y.toNat := h1; have a2 : ¬ y.toNat < x.toNat := h3; omega)
        subst e
        have hlt : ¬ x < x := UInt8.lt_irrefl x
        simp only [hlt, if_false]
        rw [ih]; omega
theorem num_eq (a : A8) : a.num = numL a.l := by
  simp only [A8.num, numL, A8.l, List.foldl_cons, List.foldl_nil]; omega

def cmpA (a b : A8) : Int := Lib.compareBytes a.l b.l
theorem cmpA_lt (a b : A8) : cmpA a b < 0 ↔ a.num < b.num := by rw [num_eq, num_eq]; exact compare_num _ _ rfl
theorem ltOf_cmpA (a b : A8) : ltOf cmpA a b = decide (a.num < b.num) := by
  unfold ltOf
  by_cases h : a.num < b.num
  · simp [h, (cmpA_lt a b).2 h]
  · simp [h, (cmpA_lt a b)]
theorem swoA : Sort.SWO (ltOf cmpA) := ⟨fun x => by simp [ltOf_cmpA], fun x y z h1 h2 => by simp only [ltOf_cmpA, decide_eq_true_eq] at *; omega, fun x y z h1 h2 => by simp only [ltOf_cmpA, decide_eq_false_iff_not] at *; omega⟩

/-- Rising. -/
def RiseA (l : List A8) : Prop := l.Pairwise (fun x y => x.num < y.num)
theorem eq_of_riseA {l m : List A8} (h : RiseA l) (h' : RiseA m) (hp : l.Perm m) : l = m := by
  refine List.Perm.eq_of_pairwise (le := fun a b => a.num ≤ b.num) (fun a b _ _ h1 h2 => A8.ext_num (by omega)) (h.imp (fun h => Nat.le_of_lt h)) (h'.imp (fun h => Nat.le_of_lt h)) hp

/-! ### the three comparisons -/
theorem A8.cs_eq (a : A8) : a.v = .agg a.cs.toArray := rfl
theorem length_l (a : A8) : a.l.length = 8 := rfl
theorem rb_addr {W : World} {b : Nat} {t : TypeId} {a : A8} (h : Lies W b t a.cs.toArray) : RB W W.heap.size (some ⟨b, 0, none⟩) a.l := fun _ => by
  refine ⟨_, rfl, h.lt, fun j x hj => ?_⟩
  have hadd : (⟨b, 0, none⟩ : Addr).add j = ⟨b, j, none⟩ := by unfold Addr.add; split <;> simp_all
  rw [hadd, h.cell]
  have hcs : a.cs = a.l.map fun x : UInt8 => Value.int .u8 (x.toNat : Int) := rfl
  simp [hcs, hj]

/-! ### the row, sorted -/
instance : Inhabited A8 := ⟨⟨0, 0, 0, 0, 0, 0, 0, 0⟩⟩
theorem getElem?_addrCells : ∀ (ts : List A8) (t : Nat), t < ts.length * 8 → (addrCells ts)[t]? = some (ts[t / 8]!.cs)[t % 8]!
  | [], t, h => by simp at h
  | x :: r, t, h => by
    have e1 : addrCells (x :: r) = x.cs ++ addrCells r := by simp [addrCells]
    have hl : x.cs.length = 8 := rfl
    rw [e1]
    by_cases ht : t < 8
    · rw [List.getElem?_append_left (by omega), Nat.div_eq_of_lt ht, Nat.mod_eq_of_lt ht]
      rw [List.getElem?_eq_getElem (by omega)]
      simp [ht, hl]
    · rw [List.getElem?_append_right (by omega), hl, getElem?_addrCells r (t - 8) (by simp at h; omega)]
      obtain ⟨u, rfl⟩ : ∃ u, t = u + 8 := ⟨t - 8, by omega⟩
      have e2 : (u + 8) / 8 = u / 8 + 1 := by omega
      have e3 : (u + 8) % 8 = u % 8 := by omega
      simp [e2, e3]
theorem length_addrCells (ts : List A8) : (addrCells ts).length = ts.length * 8 := by
  induction ts with
  | nil => rfl
  | cons x r ih =>
    have e1 : addrCells (x :: r) = x.cs ++ addrCells r := by simp [addrCells]
    rw [e1, List.length_append, ih]
    have hl : x.cs.length = 8 := rfl
    simp [hl]; omega
theorem flat_addr (ts : List A8) : Sort.flatK A8.cs 8 ts.toArray = (addrCells ts).toArray := by
  apply Array.ext_getElem?
  intro t
  by_cases ht : t < ts.length * 8
  · have h1 := getElem?_addrCells ts t ht
    have h2 : (addrCells ts).toArray[t]? = (addrCells ts)[t]? := List.getElem?_toArray
    rw [h2, h1]
    rw [Array.getElem?_eq_getElem (by simpa using ht)]
    have := Sort.get_flatK A8.cs 8 ts.toArray t (by simpa using ht)
    rw [getElem!_pos _ _ (by simpa using ht)] at this
    rw [this]
    simp
  · have h2 : (addrCells ts).toArray[t]? = (addrCells ts)[t]? := List.getElem?_toArray
    rw [h2, Array.getElem?_eq_none (by simp; omega), List.getElem?_eq_none (by rw [length_addrCells]; omega)]

theorem holdsK_of_block {w : World} {g : Nat} {cur : Array Value} {e : TypeId} {ss : List A8} (hb : w.heap[g]? = some (.cells cur e (0, 0))) (ht : cur.toList.take (ss.length * 8) = addrCells ss) : Sort.HoldsK A8.cs 8 w g 0 ss.toArray := by
  unfold Sort.HoldsK
  rw [flat_addr]
  intro j hj
  have hj' : j < ss.length * 8 := by simpa [length_addrCells] using hj
  refine ⟨?_, by simp [World.frozen?, hb]⟩
  have h1 : (cur.toList.take (ss.length * 8))[j]? = (addrCells ss)[j]? := by rw [ht]
  rw [List.getElem?_take_of_lt hj'] at h1
  simp only [World.cell?, hb, Nat.zero_add]
  simp only [Option.isSome_none, Bool.false_eq_true, if_false]
  rw [← Array.getElem?_toList, h1, List.getElem?_eq_getElem (by rw [length_addrCells]; omega)]
  simp [length_addrCells, hj']

theorem heap_putRow {w : World} {g n : Nat} {os : Array Obj} {cur : Array Value} {e : TypeId} {fr : Nat × Nat} (d : Array Value) (hb : w.heap[g]? = some (.cells cur e fr)) :
    (Sort.grow (Sort.putRow id (Sort.ahead w n) g 0 d) os).heap[g]? = some (.cells (Sort.putCells id 0 d cur) e fr) := by
  have hg : g < w.heap.size := (Array.getElem?_eq_some_iff.1 hb).1
  rw [Sort.heap_grow_old _ _ (by simpa using hg)]
  simp [Sort.putRow, Sort.mapBlock, Sort.ahead, Array.getElem?_modify, hb, Sort.onCells]
theorem grownBy_putRow {w : World} {g n : Nat} {os : Array Obj} (d : Array Value) : w.grownBy (Sort.grow (Sort.putRow id (Sort.ahead w n) g 0 d) os) (some g) := by
  refine ⟨rfl, rfl, rfl, by simp, fun k hk hne => ?_⟩
  rw [Sort.heap_grow_old _ _ (by simpa using hk)]
  have : g ≠ k := fun e => hne (by rw [e])
  simp [Sort.putRow, Sort.mapBlock, Sort.ahead, Array.getElem?_modify, this]
theorem take_putCells_id (cur : Array Value) (ts : List Value) (h : ts.length ≤ cur.size) : (Sort.putCells id 0 ts.toArray cur).toList.take ts.length = ts := by
  apply List.ext_getElem?
  intro j
  by_cases hj : j < ts.length
  · rw [List.getElem?_take_of_lt hj, Array.getElem?_toList]
    simp [Sort.putCells, hj, show j < cur.size by omega]
  · rw [List.getElem?_take_eq_none (by omega), List.getElem?_eq_none (by omega)]

theorem isAggA : ∀ w, (isAgg 23).run Try.prog w = .ok true w := fun _ => by kernel_rfl
theorem sizeOfA : ∀ w, (Go.sizeOf 23).run Try.prog w = .ok 8 w := fun _ => by kernel_rfl

set_option maxHeartbeats 1000000 in
/-- slices.SortFunc AT A LIST OF ADDRESSES THAT THE CALL OWNS. -/
theorem sort_addr {w : World} {base : Nat} {v : Value} {ss : List A8} (hr : w.ownsRow base 23 8 v ss.length (addrCells ss)) (hnd : ss.Nodup) (hN : ss.length ≤ 2000000000000) (g : Nat) (cb : Array Value)
    (eg : ∀ args w, (callFunc g args).run Try.prog w = .ok (.enter g args) w)
    (hcmp : ∀ (a b : A8) (W : World), Calls Try.prog g (#[a.v, b.v] ++ cb) W fun e w' => e = .returned (.int .i64 (cmpA a b)) ∧ ∃ q os, w' = Sort.grow (W.drewN q) os) :
    Calls Try.prog 64 #[v, .func (.func g) #[] cb] w fun e w' => e = .returned (.tuple #[]) ∧ ∃ ts : List A8, ts.Perm ss ∧ RiseA ts ∧ w'.ownsRow base 23 8 v ts.length (addrCells ts) ∧ w.grownBy w' v.ownBlock := by
  rcases hr.2 with ⟨rfl, h0⟩ | ⟨g0, cap, cur, rfl, hbase, hb, h1, h2, h3, h4⟩
  · obtain rfl : ss = [] := List.eq_nil_of_length_eq_zero h0
    refine (AnyF.slices_SortFunc_none Try.sortAddr none 0 _ w).mono ?_
    rintro e w' ⟨rfl, rfl⟩
    exact ⟨rfl, [], List.Perm.nil, List.Pairwise.nil, hr, World.grownBy.refl _ _⟩
  · have hlen : ss.length < 4611686018427387904 := by omega
    have hH := holdsK_of_block hb h4
    refine (AnyQ.slices_SortFunc_total Try.sortAddr 8 isAggA sizeOfA A8.cs (fun _ => rfl) oneCellA cmpA swoA g cb g0 0 cap ss.toArray w eg (fun m os dk _ x y => hcmp x y _) hH (Array.getElem?_eq_some_iff.1 hb).1 (by simpa using hlen) (fun x y hx hy => ?_)).mono ?_
    · rw [ltOf_cmpA, decide_eq_false_iff_not] at hx hy
      exact A8.ext_num (by omega)
    rintro e w' ⟨rfl, n, os, rfl⟩
    have hp : (ss.mergeSort fun x y => !(ltOf cmpA) y x).Perm ss := List.mergeSort_perm _ _
    have hl : (ss.mergeSort fun x y => !(ltOf cmpA) y x).length = ss.length := hp.length_eq
    have hs := List.pairwise_mergeSort (le := fun x y => !(ltOf cmpA) y x) (fun a b c h1 h2 => by simp only [ltOf_cmpA, Bool.not_eq_eq_eq_not, Bool.not_true, decide_eq_false_iff_not] at *; omega) (fun a b => by simp only [ltOf_cmpA, Bool.or_eq_true, Bool.not_eq_eq_eq_not, Bool.not_true, decide_eq_false_iff_not]; omega) ss
    simp only at hs ⊢
    generalize (ss.mergeSort fun x y => !(ltOf cmpA) y x) = ts at *
    refine ⟨trivial, ts, hp, ?_, ?_, ?_⟩
    · have hn' : ts.Nodup := hp.nodup_iff.2 hnd
      refine (List.Pairwise.and hs hn').imp (fun {a b} h => ?_)
      have h1 := h.1
      simp only [ltOf_cmpA, Bool.not_eq_eq_eq_not, Bool.not_true, decide_eq_false_iff_not] at h1
      have : a.num ≠ b.num := fun e => h.2 (A8.ext_num e)
      omega
    · unfold sortWorldK Sort.putRowK
      rw [flat_addr]
      have hcl : ts.length * 8 ≤ cur.size := by rw [h3, hl]; exact Nat.mul_le_mul_right _ h1
      rw [hl]
      refine ⟨by rw [length_addrCells, hl], .inr ⟨g0, cap, _, rfl, hbase, heap_putRow _ hb, h1, h2, by simp [Sort.putCells, h3], ?_⟩⟩
      have := take_putCells_id cur (addrCells ts) (by rw [length_addrCells]; exact hcl)
      rw [length_addrCells, hl] at this
      exact this
    · unfold sortWorldK Sort.putRowK
      exact grownBy_putRow _
end Go.Proofs.Ytkdckcjnjljdmaa.Ad
