/- Values by address and key, plain: lists of what is noted of whatever keys; bytes in order; the state as a function. No program in sight. -/
import Derived.Test.YteeghdkejnhjnaaAdP
import Derived.Lib.Bytealg
namespace Go.Proofs.Yteeghdkejnhjnaa.Kv
open Go Ad

abbrev Bs := List UInt8

/-! ### lists of notes -/
section
variable {α β γ : Type} [DecidableEq α]
def get (L : List (α × β)) (a : α) : Option β := (L.find? fun p => decide (p.1 = a)).map (·.2)
def cut (L : List (α × β)) (a : α) : List (α × β) := L.filter fun p => decide (p.1 ≠ a)
def put (L : List (α × β)) (a : α) (v : β) : List (α × β) := (a, v) :: cut L a
def One (L : List (α × β)) : Prop := (L.map (·.1)).Nodup
variable {L : List (α × β)}
theorem get_mem {a : α} {v : β} : get L a = some v → (a, v) ∈ L := by
  unfold get
  intro h
  obtain ⟨p, hp, rfl⟩ := Option.map_eq_some_iff.1 h
  have h1 := List.mem_of_find?_eq_some hp
  have h2 := List.find?_some hp
  simp only [decide_eq_true_eq] at h2
  rw [← h2]
  exact h1
theorem get_none {a : α} : get L a = none ↔ ∀ p ∈ L, p.1 ≠ a := by
  unfold get
  rw [Option.map_eq_none_iff, List.find?_eq_none]
  simp
omit [DecidableEq α] in
theorem One.uniq (h : One L) {a : α} {u v : β} (hu : (a, u) ∈ L) (hv : (a, v) ∈ L) : u = v := by
  induction L with
  | nil => simp at hu
  | cons p r ih =>
    unfold One at h
    rw [List.map_cons, List.nodup_cons] at h
    rcases List.mem_cons.1 hu with e1 | h1
    · rcases List.mem_cons.1 hv with e2 | h2
      · have := e1.trans e2.symm
        injection this
      · exact absurd (List.mem_map.2 ⟨(a, v), h2, by rw [← e1]⟩) h.1
    · rcases List.mem_cons.1 hv with e2 | h2
      · exact absurd (List.mem_map.2 ⟨(a, u), h1, by rw [← e2]⟩) h.1
      · exact ih h.2 h1 h2
theorem One.get (h : One L) {a : α} {v : β} (hm : (a, v) ∈ L) : get L a = some v := by
  cases e : Kv.get L a with
  | none => exact absurd rfl (get_none.1 e _ hm)
  | some u => rw [h.uniq (get_mem e) hm]
theorem mem_cut {a : α} {p : α × β} : p ∈ cut L a ↔ p ∈ L ∧ p.1 ≠ a := by simp [cut]
theorem One.cut (h : One L) (a : α) : One (cut L a) := (List.Sublist.map _ List.filter_sublist).nodup h
theorem One.put (h : One L) (a : α) (v : β) : One (put L a v) := by
  unfold One Kv.put
  rw [List.map_cons, List.nodup_cons]
  refine ⟨fun hm => ?_, h.cut a⟩
  obtain ⟨p, hp, e⟩ := List.mem_map.1 hm
  exact (mem_cut.1 hp).2 e
omit [DecidableEq α] in
theorem One.nil : One ([] : List (α × β)) := List.nodup_nil
theorem get_nil (a : α) : get ([] : List (α × β)) a = none := rfl
theorem get_cut (a b : α) : get (cut L a) b = if b = a then none else get L b := by
  unfold get cut
  rw [List.find?_filter]
  by_cases h : b = a
  · subst h
    rw [if_pos rfl, Option.map_eq_none_iff, List.find?_eq_none]
    intro p _
    by_cases e : p.1 = b <;> simp [e]
  · rw [if_neg h]
    congr 2
    funext p
    by_cases e : p.1 = b
    · have : p.1 ≠ a := fun e' => h (e.symm.trans e')
      simp [e, h]
    · simp [e]
theorem get_put (a b : α) (v : β) : get (put L a v) b = if b = a then some v else get L b := by
  by_cases h : b = a
  · subst h
    rw [if_pos rfl]
    simp [get, put]
  · rw [if_neg h]
    have h' : ¬ a = b := fun e => h e.symm
    have : get (put L a v) b = get (cut L a) b := by simp [get, put, h']
    rw [this, get_cut, if_neg h]
theorem perm_put (h : One L) {a : α} {v : β} (hm : (a, v) ∈ L) : L.Perm (put L a v) := by
  induction L with
  | nil => simp at hm
  | cons p r ih =>
    unfold One at h
    rw [List.map_cons, List.nodup_cons] at h
    unfold Kv.put
    rcases List.mem_cons.1 hm with rfl | hm
    · have e : cut ((a, v) :: r) a = r := by
        unfold Kv.cut
        rw [List.filter_cons_of_neg (by simp)]
        refine List.filter_eq_self.2 fun q hq => ?_
        have : q.1 ≠ a := fun e => h.1 (List.mem_map.2 ⟨q, hq, e⟩)
        simpa using this
      rw [e]
    · have hne : p.1 ≠ a := fun e => h.1 (List.mem_map.2 ⟨_, hm, e.symm⟩)
      have e : cut (p :: r) a = p :: cut r a := by
        unfold Kv.cut
        rw [List.filter_cons_of_pos (by simpa using hne)]
      rw [e]
      exact ((ih h.2 hm).cons p).trans (List.Perm.swap _ _ _)
theorem cut_none {a : α} (h : get L a = none) : cut L a = L := by
  unfold cut
  refine List.filter_eq_self.2 fun q hq => ?_
  simpa using get_none.1 h q hq
theorem map_cut (f : α × β → γ) (a : α) : (cut L a).map (fun p => (p.1, f p)) = cut (L.map fun p => (p.1, f p)) a := by
  unfold cut
  rw [List.filter_map]
  rfl
end

/-! ### bytes in order -/
theorem cmp_self : ∀ a : Bs, Lib.compareBytes a a = 0
  | [] => rfl
  | x :: r => by simp [Lib.compareBytes, UInt8.lt_irrefl, cmp_self r]
theorem cmp_flip : ∀ a b : Bs, Lib.compareBytes a b = - Lib.compareBytes b a
  | [], [] => rfl
  | [], _ :: _ => rfl
  | _ :: _, [] => rfl
  | x :: a, y :: b => by
    unfold Lib.compareBytes
    by_cases h1 : x < y
    · have h2 : ¬ y < x := fun h => by have a1 : x.toNat < y.toNat := h1; have a2 : y.toNat < x.toNat := h; omega
      simp [h1, h2]
    · by_cases h2 : y < x
      · simp [h1, h2]
      · simp only [h1, h2, if_false]
        exact cmp_flip a b
theorem cmp_zero : ∀ {a b : Bs}, Lib.compareBytes a b = 0 → a = b
  | [], [], _ => rfl
  | [], _ :: _, h => by simp [Lib.compareBytes] at h
  | _ :: _, [], h => by simp [Lib.compareBytes] at h
  | x :: a, y :: b, h => by
    unfold Lib.compareBytes at h
    by_cases h1 : x < y
    · simp [h1] at h
    · by_cases h2 : y < x
      · simp [h1, h2] at h
      · simp only [h1, h2, if_false] at h
        have e : x = y := UInt8.toNat_inj.1 (by have a1 : ¬ x.toNat < y.toNat := h1; have a2 : ¬ y.toNat < x.toNat := h2; omega)
        rw [e, cmp_zero h]
/-- One row of bytes is ahead of another one. -/
def Lt (a b : Bs) : Prop := Lib.compareBytes a b < 0
instance (a b : Bs) : Decidable (Lt a b) := inferInstanceAs (Decidable (_ < _))
theorem lt_irr (a : Bs) : ¬ Lt a a := by unfold Lt; rw [cmp_self]; decide
theorem lt_nil {a : Bs} : ¬ Lt a [] := by cases a <;> simp [Lt, Lib.compareBytes]
theorem nil_lt {x : UInt8} {a : Bs} : Lt [] (x :: a) := by simp [Lt, Lib.compareBytes]
theorem lt_cons {x y : UInt8} {a b : Bs} : Lt (x :: a) (y :: b) ↔ x < y ∨ (x = y ∧ Lt a b) := by
  unfold Lt
  rw [Lib.compareBytes]
  by_cases h1 : x < y
  · simp [h1]
  · by_cases h2 : y < x
    · have : ¬ x = y := fun e => by subst e; exact h1 h2
      simp [h1, h2, this]
    · have e : x = y := UInt8.toNat_inj.1 (by have a1 : ¬ x.toNat < y.toNat := h1; have a2 : ¬ y.toNat < x.toNat := h2; omega)
      subst e
      simp [h1]
theorem lt_trans : ∀ {a b c : Bs}, Lt a b → Lt b c → Lt a c
  | _, [], _, h, _ => absurd h lt_nil
  | _, _ :: _, [], _, h => absurd h lt_nil
  | [], _ :: _, _ :: _, _, _ => nil_lt
  | x :: a, y :: b, z :: c, h1, h2 => by
    rw [lt_cons] at *
    rcases h1 with h1 | ⟨rfl, h1⟩
    · rcases h2 with h2 | ⟨rfl, h2⟩
      · exact Or.inl (by have a1 : x.toNat < y.toNat := h1; have a2 : y.toNat < z.toNat := h2; have : x.toNat < z.toNat := by omega
                         exact this)
      · exact Or.inl h1
    · rcases h2 with h2 | ⟨rfl, h2⟩
      · exact Or.inl h2
      · exact Or.inr ⟨rfl, lt_trans h1 h2⟩
theorem lt_or (a b : Bs) : Lt a b ∨ a = b ∨ Lt b a := by
  unfold Lt
  rw [cmp_flip b a]
  rcases Int.lt_trichotomy (Lib.compareBytes a b) 0 with h | h | h
  · exact Or.inl h
  · exact Or.inr (Or.inl (cmp_zero h))
  · exact Or.inr (Or.inr (by omega))
theorem lt_asymm {a b : Bs} (h : Lt a b) : ¬ Lt b a := fun h' => lt_irr a (lt_trans h h')

/-! ### rising lists -/
def Rise (P : List (Bs × Bs)) : Prop := P.Pairwise fun x y => Lt x.1 y.1
theorem Rise.one {P : List (Bs × Bs)} (h : Rise P) : One P :=
  List.pairwise_map.2 (h.imp fun {x y} hlt e => by rw [e] at hlt; exact lt_irr _ hlt)
theorem nodup_of_one {P : List (Bs × Bs)} (h : One P) : P.Nodup := (List.pairwise_map.1 h).imp fun hne e => hne (by rw [e])
/-- Two rising lists of the same pairs are one. -/
theorem rise_eq {P Q : List (Bs × Bs)} (hP : Rise P) (hQ : Rise Q) (h : ∀ p, p ∈ P ↔ p ∈ Q) : P = Q := by
  have nP : P.Nodup := nodup_of_one hP.one
  have nQ : Q.Nodup := nodup_of_one hQ.one
  have hp : P.Perm Q := (List.perm_ext_iff_of_nodup nP nQ).2 h
  refine List.Perm.eq_of_pairwise (le := fun a b => a = b ∨ Lt a.1 b.1) (fun a b _ _ h1 h2 => ?_) (hP.imp fun h => Or.inr h) (hQ.imp fun h => Or.inr h) hp
  rcases h1 with h1 | h1
  · exact h1
  · rcases h2 with h2 | h2
    · exact h2.symm
    · exact absurd h2 (lt_asymm h1)

/-! ### the state -/
abbrev St := A8 → Bs → Option Bs
def St.nil : St := fun _ _ => none
def St.put (g : St) (a : A8) (k : Bs) (v : Option Bs) : St := fun a' k' => if a' = a ∧ k' = k then v else g a' k'
/-- P is what is told of a's. -/
def Tells (g : St) (a : A8) (P : List (Bs × Bs)) : Prop := Rise P ∧ ∀ k v, (k, v) ∈ P ↔ g a k = some v
theorem Tells.uniq {g : St} {a : A8} {P Q : List (Bs × Bs)} (h : Tells g a P) (h' : Tells g a Q) : P = Q :=
  rise_eq h.1 h'.1 fun ⟨k, v⟩ => (h.2 k v).trans (h'.2 k v).symm
/-- No more than n values, none of them long. -/
def Bd (n : Nat) (g : St) : Prop := ∃ D : List (A8 × Bs), D.length ≤ n ∧ ∀ a k v, g a k = some v → (a, k) ∈ D ∧ k.length ≤ 64 ∧ v.length ≤ 1024
theorem Bd.nil : Bd 0 St.nil := ⟨[], Nat.le_refl _, fun _ _ _ h => by cases h⟩
theorem Bd.mono {n m : Nat} {g : St} (h : Bd n g) (hm : n ≤ m) : Bd m g := by
  obtain ⟨D, h1, h2⟩ := h
  exact ⟨D, Nat.le_trans h1 hm, h2⟩
theorem Bd.put {n : Nat} {g : St} (h : Bd n g) (a : A8) {k v : Bs} (hk : k.length ≤ 64) (hv : v.length ≤ 1024) : Bd (n + 1) (g.put a k (some v)) := by
  obtain ⟨D, h1, h2⟩ := h
  refine ⟨(a, k) :: D, by simpa using h1, fun a' k' v' e => ?_⟩
  unfold St.put at e
  by_cases hc : a' = a ∧ k' = k
  · rw [if_pos hc] at e
    obtain ⟨rfl, rfl⟩ := hc
    injection e with e
    subst e
    exact ⟨List.mem_cons_self, hk, hv⟩
  · rw [if_neg hc] at e
    obtain ⟨h3, h4⟩ := h2 _ _ _ e
    exact ⟨List.mem_cons_of_mem _ h3, h4⟩
theorem Bd.del {n : Nat} {g : St} (h : Bd n g) (a : A8) (k : Bs) : Bd n (g.put a k none) := by
  obtain ⟨D, h1, h2⟩ := h
  refine ⟨D, h1, fun a' k' v' e => ?_⟩
  unfold St.put at e
  by_cases hc : a' = a ∧ k' = k
  · rw [if_pos hc] at e; cases e
  · rw [if_neg hc] at e; exact h2 _ _ _ e
/-- A list of different things, all of which are in another list, is no longer. -/
theorem nodup_le {α : Type} : ∀ {l m : List α}, l.Nodup → (∀ x ∈ l, x ∈ m) → l.length ≤ m.length
  | [], _, _, _ => Nat.zero_le _
  | x :: r, m, hn, hs => by
    obtain ⟨h1, h2⟩ := List.nodup_cons.1 hn
    obtain ⟨s, t, rfl⟩ := List.append_of_mem (hs x List.mem_cons_self)
    have := nodup_le (l := r) (m := s ++ t) h2 (fun y hy => by
      have := hs y (List.mem_cons_of_mem _ hy)
      rcases List.mem_append.1 this with h | h
      · exact List.mem_append_left _ h
      · rcases List.mem_cons.1 h with rfl | h
        · exact absurd hy h1
        · exact List.mem_append_right _ h)
    simp only [List.length_append, List.length_cons] at this ⊢
    omega
theorem Tells.len {n : Nat} {g : St} {a : A8} {P : List (Bs × Bs)} (h : Tells g a P) (hb : Bd n g) : P.length ≤ n := by
  obtain ⟨D, h1, h2⟩ := hb
  have := nodup_le (l := P.map fun p => (a, p.1)) (m := D) (by
    have := h.1.one
    unfold One at this
    rw [show (P.map fun p => (a, p.1)) = (P.map (·.1)).map (fun k => (a, k)) by rw [List.map_map]; rfl]
    exact List.pairwise_map.2 (this.imp fun hne e => hne (by injection e))) (fun x hx => by
    obtain ⟨⟨k, v⟩, hp, rfl⟩ := List.mem_map.1 hx
    exact (h2 _ _ _ ((h.2 k v).1 hp)).1)
  rw [List.length_map] at this
  omega
theorem put_same (g : St) (a : A8) (k : Bs) (v : Option Bs) : g.put a k v a k = v := if_pos ⟨rfl, rfl⟩
theorem put_other (g : St) {a a' : A8} {k k' : Bs} (v : Option Bs) (h : ¬ (a' = a ∧ k' = k)) : g.put a k v a' k' = g a' k' := if_neg h
end Go.Proofs.Yteeghdkejnhjnaa.Kv
