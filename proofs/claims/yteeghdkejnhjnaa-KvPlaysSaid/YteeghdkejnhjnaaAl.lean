/- Lists of what is noted by rising addresses: any notes; what is put in, taken out, found. No program in sight. -/
import Derived.Test.YteeghdkejnhjnaaAdP
namespace Go.Proofs.Yteeghdkejnhjnaa.Al
open Go Ad

variable {α β : Type}
/-- Rising addresses. -/
def Rise (L : List (A8 × α)) : Prop := L.Pairwise (fun x y => x.1.num < y.1.num)
/-- What is left without an address's. -/
def del (a : A8) (L : List (A8 × α)) : List (A8 × α) := L.filter fun e => decide (e.1 ≠ a)
/-- The loop that puts one in: d: it has been put, or is not to be. -/
def insGo (x : A8 × α) : Bool → List (A8 × α) → List (A8 × α)
  | d, [] => if d then [] else [x]
  | d, y :: r => (if !d && decide (x.1.num < y.1.num) then [x] else []) ++ (if y.1 ≠ x.1 then [y] else []) ++ insGo x (d || decide (x.1.num < y.1.num)) r
def ins (x : A8 × α) (L : List (A8 × α)) : List (A8 × α) := insGo x false L
/-- What an address has. -/
def find (L : List (A8 × α)) (a : A8) : Option α := (L.find? (fun e => decide (e.1 = a))).map (·.2)

theorem insGo_true (x : A8 × α) : ∀ L, insGo x true L = del x.1 L
  | [] => rfl
  | y :: r => by
    rw [insGo, Bool.true_or, insGo_true x r]
    by_cases h : y.1 = x.1 <;> simp [del, h]
theorem perm_ins (x : A8 × α) : ∀ L, (insGo x false L).Perm (x :: del x.1 L)
  | [] => by simp [insGo, del]
  | y :: r => by
    rw [insGo]
    by_cases h : x.1.num < y.1.num
    · have hne : y.1 ≠ x.1 := fun e => by rw [e] at h; omega
      simp [h, hne, insGo_true, del]
    · simp only [h, decide_false, Bool.and_false, Bool.false_or, List.nil_append, Bool.false_eq_true, if_false]
      by_cases hne : y.1 = x.1
      · simpa [hne, del] using perm_ins x r
      · have := (perm_ins x r).cons y
        simp only [ne_eq, hne, not_false_eq_true, if_true, List.singleton_append]
        refine this.trans ?_
        have e1 : del x.1 (y :: r) = y :: del x.1 r := by simp [del, hne]
        rw [e1]
        exact List.Perm.swap x y _
theorem Rise.del {L : List (A8 × α)} (h : Rise L) (a : A8) : Rise (del a L) := h.filter _
theorem rise_insGo (x : A8 × α) : ∀ (L : List (A8 × α)), Rise L → Rise (insGo x false L)
  | [], _ => by simp [insGo, Rise]
  | y :: r, h => by
    obtain ⟨h1, h2⟩ := List.pairwise_cons.1 h
    rw [insGo]
    by_cases hlt : x.1.num < y.1.num
    · have hne : y.1 ≠ x.1 := fun e => by rw [e] at hlt; omega
      simp only [hlt, decide_true, Bool.not_false, Bool.and_self, if_true, ne_eq, hne, not_false_eq_true, Bool.or_true, insGo_true, List.cons_append, List.nil_append]
      have hs : Rise (Al.del x.1 r) := Rise.del h2 _
      have hm : ∀ z ∈ Al.del x.1 r, y.1.num < z.1.num := fun z hz => h1 z (List.mem_filter.1 hz).1
      refine List.pairwise_cons.2 ⟨fun z hz => ?_, List.pairwise_cons.2 ⟨hm, hs⟩⟩
      rcases List.mem_cons.1 hz with rfl | hz
      · exact hlt
      · have := hm z hz; omega
    · simp only [hlt, decide_false, Bool.and_false, Bool.false_or, List.nil_append, Bool.false_eq_true, if_false]
      by_cases hne : y.1 = x.1
      · simpa [hne] using rise_insGo x r h2
      · simp only [ne_eq, hne, not_false_eq_true, if_true, List.singleton_append]
        refine List.pairwise_cons.2 ⟨fun z hz => ?_, rise_insGo x r h2⟩
        have hz' := (perm_ins x r).mem_iff.1 hz
        rcases List.mem_cons.1 hz' with rfl | hz'
        · have : y.1.num ≠ z.1.num := fun e => hne (A8.ext_num e)
          omega
        · exact h1 z (List.mem_filter.1 hz').1
theorem Rise.ins {L : List (A8 × α)} (h : Rise L) (x : A8 × α) : Rise (ins x L) := rise_insGo x L h
theorem mem_ins {x e : A8 × α} {L : List (A8 × α)} : e ∈ ins x L ↔ (e ∈ L ∧ e.1 ≠ x.1) ∨ e = x := by
  unfold ins
  rw [(perm_ins x L).mem_iff]
  simp [del, or_comm]
theorem mem_del {a : A8} {e : A8 × α} {L : List (A8 × α)} : e ∈ del a L ↔ e ∈ L ∧ e.1 ≠ a := by simp [del]
theorem len_del (a : A8) (L : List (A8 × α)) : (del a L).length ≤ L.length := List.length_filter_le _ _
theorem len_ins (x : A8 × α) (L : List (A8 × α)) : (ins x L).length ≤ L.length + 1 := by
  unfold ins
  rw [(perm_ins x L).length_eq, List.length_cons]
  have := len_del x.1 L
  omega
theorem nodup_of_rise {L : List (A8 × α)} (h : Rise L) : (L.map (·.1)).Nodup :=
  List.pairwise_map.2 (h.imp (fun {x y} hlt e => by rw [e] at hlt; omega))
theorem Rise.nil : Rise ([] : List (A8 × α)) := List.Pairwise.nil

theorem find_cases (L : List (A8 × α)) (a : A8) : (∃ x, (a, x) ∈ L ∧ find L a = some x) ∨ ((∀ e ∈ L, e.1 ≠ a) ∧ find L a = none) := by
  unfold find
  cases hf : L.find? (fun x => decide (x.1 = a)) with
  | none => exact Or.inr ⟨fun e he => by simpa using List.find?_eq_none.1 hf e he, rfl⟩
  | some y =>
    obtain ⟨y1, y2⟩ := y
    have h2 := List.find?_some hf
    simp only [decide_eq_true_eq] at h2
    subst h2
    exact Or.inl ⟨y2, List.mem_of_find?_eq_some hf, rfl⟩
theorem rise_uniq {L : List (A8 × α)} (h : Rise L) {a : A8} {x y : α} (hx : (a, x) ∈ L) (hy : (a, y) ∈ L) : x = y := by
  obtain ⟨i, hi, e1⟩ := List.getElem_of_mem hx
  obtain ⟨j, hj, e2⟩ := List.getElem_of_mem hy
  rcases Nat.lt_trichotomy i j with hij | hij | hij
  · have := List.pairwise_iff_getElem.1 h i j hi hj hij; simp_all
  · subst hij; have := e1.symm.trans e2; injection this
  · have := List.pairwise_iff_getElem.1 h j i hj hi hij; simp_all
theorem find_mem {L : List (A8 × α)} (h : Rise L) {a : A8} {x : α} (hx : (a, x) ∈ L) : find L a = some x := by
  rcases find_cases L a with ⟨y, hy, e⟩ | ⟨hn, _⟩
  · rw [e, rise_uniq h hx hy]
  · exact absurd rfl (hn _ hx)
theorem find_none {L : List (A8 × α)} {a : A8} (h : ∀ e ∈ L, e.1 ≠ a) : find L a = none := by
  rcases find_cases L a with ⟨y, hy, e⟩ | ⟨_, e⟩
  · exact absurd rfl (h _ hy)
  · exact e
theorem find_ins {L : List (A8 × α)} (h : Rise L) (x : A8 × α) (a : A8) : find (ins x L) a = if a = x.1 then some x.2 else find L a := by
  by_cases ha : a = x.1
  · rw [if_pos ha]
    subst ha
    exact find_mem (h.ins x) (mem_ins.2 (Or.inr rfl))
  · rw [if_neg ha]
    rcases find_cases L a with ⟨y, hy, e⟩ | ⟨hn, e⟩
    · rw [e]; exact find_mem (h.ins x) (mem_ins.2 (Or.inl ⟨hy, ha⟩))
    · rw [e]
      refine find_none fun z hz => ?_
      rcases mem_ins.1 hz with ⟨hz, _⟩ | rfl
      · exact hn z hz
      · exact fun e => ha e.symm
theorem find_del {L : List (A8 × α)} (h : Rise L) (b a : A8) : find (del b L) a = if a = b then none else find L a := by
  by_cases ha : a = b
  · rw [if_pos ha]
    subst ha
    exact find_none fun z hz => (mem_del.1 hz).2
  · rw [if_neg ha]
    rcases find_cases L a with ⟨y, hy, e⟩ | ⟨hn, e⟩
    · rw [e]; exact find_mem (h.del b) (mem_del.2 ⟨hy, ha⟩)
    · rw [e]
      exact find_none fun z hz => hn z (mem_del.1 hz).1

/-! ### what is noted, turned -/
def turn (f : α → β) (L : List (A8 × α)) : List (A8 × β) := L.map fun e => (e.1, f e.2)
theorem turn_insGo (f : α → β) (x : A8 × α) : ∀ (d : Bool) (L : List (A8 × α)), turn f (insGo x d L) = insGo (x.1, f x.2) d (turn f L)
  | d, [] => by cases d <;> rfl
  | d, y :: r => by
    have ih := turn_insGo f x (d || decide (x.1.num < y.1.num)) r
    unfold turn at ih ⊢
    simp only [List.map_cons]
    rw [insGo, insGo, List.map_append, List.map_append, ih]
    congr 1
    · congr 1 <;> split <;> rfl
theorem turn_ins (f : α → β) (x : A8 × α) (L : List (A8 × α)) : turn f (ins x L) = ins (x.1, f x.2) (turn f L) := turn_insGo f x false L
theorem turn_del (f : α → β) (a : A8) (L : List (A8 × α)) : turn f (del a L) = del a (turn f L) := by
  unfold turn del
  rw [List.filter_map]
  rfl
theorem turn_find (f : α → β) (L : List (A8 × α)) (a : A8) : find (turn f L) a = (find L a).map f := by
  unfold find turn
  rw [List.find?_map, Option.map_map, Option.map_map]
  rfl
theorem turn_rise (f : α → β) {L : List (A8 × α)} (h : Rise L) : Rise (turn f L) := List.pairwise_map.2 h
theorem turn_keys (f : α → β) (L : List (A8 × α)) : (turn f L).map (·.1) = L.map (·.1) := by unfold turn; rw [List.map_map]; rfl
end Go.Proofs.Yteeghdkejnhjnaa.Al
