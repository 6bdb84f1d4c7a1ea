/- Plain arithmetic on addresses of eight bytes: their numbers, the stirring, the bytes of a number. No program in sight. -/
import Derived.WalkKit
import Derived.Laws.Bits64
import Derived.Laws.BitsLemmas
import Derived.Lib.Bytealg
namespace Go.Proofs.Ytkdckcjnjljdmaa.Ad
open Go

/-- Eight bytes. -/
structure A8 where
  (x0 x1 x2 x3 x4 x5 x6 x7 : UInt8)
  deriving DecidableEq

/-- The value of an address. -/
@[reducible] def A8.v (a : A8) : Value := .agg #[.int .u8 a.x0.toNat, .int .u8 a.x1.toNat, .int .u8 a.x2.toNat, .int .u8 a.x3.toNat, .int .u8 a.x4.toNat, .int .u8 a.x5.toNat, .int .u8 a.x6.toNat, .int .u8 a.x7.toNat]

def A8.l (a : A8) : List UInt8 := [a.x0, a.x1, a.x2, a.x3, a.x4, a.x5, a.x6, a.x7]

/-- The number of an address. -/
def A8.num (a : A8) : Nat := ((((((a.x0.toNat * 256 + a.x1.toNat) * 256 + a.x2.toNat) * 256 + a.x3.toNat) * 256 + a.x4.toNat) * 256 + a.x5.toNat) * 256 + a.x6.toNat) * 256 + a.x7.toNat

theorem u8_lt (x : UInt8) : x.toNat < 256 := x.toNat_lt

theorem A8.num_lt (a : A8) : a.num < 18446744073709551616 := by
  have := u8_lt a.x0; have := u8_lt a.x1; have := u8_lt a.x2; have := u8_lt a.x3
  have := u8_lt a.x4; have := u8_lt a.x5; have := u8_lt a.x6; have := u8_lt a.x7
  unfold A8.num; omega

/-- The address of a number below 2^64. -/
def A8.of (n : Nat) : A8 :=
  ⟨UInt8.ofNat (n / 72057594037927936 % 256), UInt8.ofNat (n / 281474976710656 % 256), UInt8.ofNat (n / 1099511627776 % 256), UInt8.ofNat (n / 4294967296 % 256),
   UInt8.ofNat (n / 16777216 % 256), UInt8.ofNat (n / 65536 % 256), UInt8.ofNat (n / 256 % 256), UInt8.ofNat (n % 256)⟩

theorem ofNat_toNat (n : Nat) (h : n < 256) : (UInt8.ofNat n).toNat = n := by
  simp only [UInt8.toNat_ofNat']
  exact Nat.mod_eq_of_lt h

theorem A8.num_of (n : Nat) (h : n < 18446744073709551616) : (A8.of n).num = n := by
  unfold A8.num A8.of
  simp only []
  rw [ofNat_toNat _ (by omega), ofNat_toNat _ (by omega), ofNat_toNat _ (by omega), ofNat_toNat _ (by omega), ofNat_toNat _ (by omega), ofNat_toNat _ (by omega), ofNat_toNat _ (by omega), ofNat_toNat _ (by omega)]
  omega

theorem A8.ext_num {a b : A8} (h : a.num = b.num) : a = b := by
  have := u8_lt a.x0; have := u8_lt a.x1; have := u8_lt a.x2; have := u8_lt a.x3
  have := u8_lt a.x4; have := u8_lt a.x5; have := u8_lt a.x6; have := u8_lt a.x7
  have := u8_lt b.x0; have := u8_lt b.x1; have := u8_lt b.x2; have := u8_lt b.x3
  have := u8_lt b.x4; have := u8_lt b.x5; have := u8_lt b.x6; have := u8_lt b.x7
  obtain ⟨a0, a1, a2, a3, a4, a5, a6, a7⟩ := a
  obtain ⟨b0, b1, b2, b3, b4, b5, b6, b7⟩ := b
  simp only [A8.num] at *
  have e0 : a0 = b0 := UInt8.toNat_inj.1 (by omega)
  have e1 : a1 = b1 := UInt8.toNat_inj.1 (by omega)
  have e2 : a2 = b2 := UInt8.toNat_inj.1 (by omega)
  have e3 : a3 = b3 := UInt8.toNat_inj.1 (by omega)
  have e4 : a4 = b4 := UInt8.toNat_inj.1 (by omega)
  have e5 : a5 = b5 := UInt8.toNat_inj.1 (by omega)
  have e6 : a6 = b6 := UInt8.toNat_inj.1 (by omega)
  have e7 : a7 = b7 := UInt8.toNat_inj.1 (by omega)
  subst e0 e1 e2 e3 e4 e5 e6 e7
  rfl

/-- One round of the stirring. -/
def mix (x s c : Nat) : Nat := (x ^^^ x / s) * c % 18446744073709551616
def stir (x : Nat) : Nat :=
  let a := mix x 1073741824 13787848793156543929
  let b := mix a 134217728 10723151780598845931
  b ^^^ b / 2147483648

theorem mix_lt (x s c : Nat) : mix x s c < 18446744073709551616 := Nat.mod_lt _ (by decide)
theorem stir_lt (x : Nat) : stir x < 18446744073709551616 := by
  unfold stir
  exact Nat.xor_lt_two_pow (n := 64) (mix_lt _ _ _) (Nat.lt_of_le_of_lt (Nat.div_le_self _ _) (mix_lt _ _ _))

/-- The address that is derived. -/
def derive (a : A8) (n : Nat) : A8 := A8.of (stir ((a.num + stir ((n + 11400714819323198485) % 18446744073709551616)) % 18446744073709551616))

/-- The join of a shifted number and a byte. -/
theorem or_byte (n c : Nat) (hn : n * 256 < 18446744073709551616) (hc : c < 256) : bits .or .u64 ((n : Int) * 256) (c : Int) = ((n * 256 + c : Nat) : Int) := by
  have h1 : ((n : Int) * 256) = ((n * 256 : Nat) : Int) := by simp
  rw [h1, (bits_nat .u64 64 (by decide) (fun n h0 h1 => by rw [IntKind.wrap_u64]; omega) (n * 256) c (by omega) (by omega)).2]
  congr 1
  have := Nat.two_pow_add_eq_or_of_lt (i := 8) (b := c) (by omega) n
  rw [show n * 256 = 2 ^ 8 * n by omega, ← this]

end Go.Proofs.Ytkdckcjnjljdmaa.Ad
namespace Go.Proofs.Ytkdckcjnjljdmaa.Kv
open Go Ad

abbrev Bs := List UInt8

/-! ### lists of notes -/
section
variable {α β γ : Type} [DecidableEq α]
def get (L : List (α × β)) (a : α) : Option β := (L.find? fun p => decide (p.1 = a)).map (·.2)
def cut (L : List (α × β)) (a : α) : List (α × β) := L.filter fun p => decide (p.1 ≠ a)
def put (L : List (α × β)) (a : α) (v : β) : List (α × β) := (a, v) :: cut L a
def One (L : List (α × β)) : Prop := (L.map (·.1)).Nodup
variable {L : List (α × β)}
theorem get_mem {a : α} {v : β} : get L a = some v → (a, v) ∈ L := by
  unfold get
  intro h
  obtain ⟨p, hp, rfl⟩ := Option.map_eq_some_iff.1 h
  have h1 := List.mem_of_find?_eq_some hp
  have h2 := List.find?_some hp
  simp only [decide_eq_true_eq] at h2
  rw [← h2]
  exact h1
theorem get_none {a : α} : get L a = none ↔ ∀ p ∈ L, p.1 ≠ a := by
  unfold get
  rw [Option.map_eq_none_iff, List.find?_eq_none]
  simp
omit [DecidableEq α] in
theorem One.uniq (h : One L) {a : α} {u v : β} (hu : (a, u) ∈ L) (hv : (a, v) ∈ L) : u = v := by
  induction L with
  | nil => simp at hu
  | cons p r ih =>
    unfold One at h
    rw [List.map_cons, List.nodup_cons] at h
    rcases List.mem_cons.1 hu with e1 | h1
    · rcases List.mem_cons.1 hv with e2 | h2
      · have := e1.trans e2.symm
        injection this
      · exact absurd (List.mem_map.2 ⟨(a, v), h2, by rw [← e1]⟩) h.1
    · rcases List.mem_cons.1 hv with e2 | h2
      · exact absurd (List.mem_map.2 ⟨(a, u), h1, by rw [← e2]⟩) h.1
      · exact ih h.2 h1 h2
theorem One.get (h : One L) {a : α} {v : β} (hm : (a, v) ∈ L) : get L a = some v := by
  cases e : Kv.get L a with
  | none => exact absurd rfl (get_none.1 e _ hm)
  | some u => rw [h.uniq (get_mem e) hm]
theorem mem_cut {a : α} {p : α × β} : p ∈ cut L a ↔ p ∈ L ∧ p.1 ≠ a := by simp [cut]
theorem One.cut (h : One L) (a : α) : One (cut L a) := (List.Sublist.map _ List.filter_sublist).nodup h
theorem One.put (h : One L) (a : α) (v : β) : One (put L a v) := by
  unfold One Kv.put
  rw [List.map_cons, List.nodup_cons]
  refine ⟨fun hm => ?_, h.cut a⟩
  obtain ⟨p, hp, e⟩ := List.mem_map.1 hm
  exact (mem_cut.1 hp).2 e
omit [DecidableEq α] in
theorem One.nil : One ([] : List (α × β)) := List.nodup_nil
theorem get_nil (a : α) : get ([] : List (α × β)) a = none := rfl
theorem get_cut (a b : α) : get (cut L a) b = if b = a then none else get L b := by
  unfold get cut
  rw [List.find?_filter]
  by_cases h : b = a
  · subst h
    rw [if_pos rfl, Option.map_eq_none_iff, List.find?_eq_none]
    intro p _
    by_cases e : p.1 = b <;> simp [e]
  · rw [if_neg h]
    congr 2
    funext p
    by_cases e : p.1 = b
    · have : p.1 ≠ a := fun e' => h (e.symm.trans e')
      simp [e, h]
    · simp [e]
theorem get_put (a b : α) (v : β) : get (put L a v) b = if b = a then some v else get L b := by
  by_cases h : b = a
  · subst h
    rw [if_pos rfl]
    simp [get, put]
  · rw [if_neg h]
    have h' : ¬ a = b := fun e => h e.symm
    have : get (put L a v) b = get (cut L a) b := by simp [get, put, h']
    rw [this, get_cut, if_neg h]
theorem perm_put (h : One L) {a : α} {v : β} (hm : (a, v) ∈ L) : L.Perm (put L a v) := by
  induction L with
  | nil => simp at hm
  | cons p r ih =>
    unfold One at h
    rw [List.map_cons, List.nodup_cons] at h
    unfold Kv.put
    rcases List.mem_cons.1 hm with rfl | hm
    · have e : cut ((a, v) :: r) a = r := by
        unfold Kv.cut
        rw [List.filter_cons_of_neg (by simp)]
        refine List.filter_eq_self.2 fun q hq => ?_
        have : q.1 ≠ a := fun e => h.1 (List.mem_map.2 ⟨q, hq, e⟩)
        simpa using this
      rw [e]
    · have hne : p.1 ≠ a := fun e => h.1 (List.mem_map.2 ⟨_, hm, e.symm⟩)
      have e : cut (p :: r) a = p :: cut r a := by
        unfold Kv.cut
        rw [List.filter_cons_of_pos (by simpa using hne)]
      rw [e]
      exact ((ih h.2 hm).cons p).trans (List.Perm.swap _ _ _)
theorem cut_none {a : α} (h : get L a = none) : cut L a = L := by
  unfold cut
  refine List.filter_eq_self.2 fun q hq => ?_
  simpa using get_none.1 h q hq
theorem map_cut (f : α × β → γ) (a : α) : (cut L a).map (fun p => (p.1, f p)) = cut (L.map fun p => (p.1, f p)) a := by
  unfold cut
  rw [List.filter_map]
  rfl
end

/-! ### bytes in order -/
theorem cmp_self : ∀ a : Bs, Lib.compareBytes a a = 0
  | [] => rfl
  | x :: r => by simp [Lib.compareBytes, UInt8.lt_irrefl, cmp_self r]
theorem cmp_flip : ∀ a b : Bs, Lib.compareBytes a b = - Lib.compareBytes b a
  | [], [] => rfl
  | [], _ :: _ => rfl
  | _ :: _, [] => rfl
  | x :: a, y :: b => by
    unfold Lib.compareBytes
    by_cases h1 : x < y
    · have h2 : ¬ y < x := fun h => by have a1 : x.toNat < y.toNat := h1; have a2 : y.toNat < x.toNat := h; omega
      simp [h1, h2]
    · by_cases h2 : y < x
      · simp [h1, h2]
      · simp only [h1, h2, if_false]
        exact cmp_flip a b
theorem cmp_zero : ∀ {a b : Bs}, Lib.compareBytes a b = 0 → a = b
  | [], [], _ => rfl
  | [], _ :: _, h => by simp [Lib.compareBytes] at h
  | _ :: _, [], h => by simp [Lib.compareBytes] at h
  | x :: a, y :: b, h => by
    unfold Lib.compareBytes at h
    by_cases h1 : x < y
    · simp [h1] at h
    · by_cases h2 : y < x
      · simp [h1, h2] at h
      · simp only [h1, h2, if_false] at h
        have e : x = y := UInt8.toNat_inj.1 (by have a1 : ¬ x.toNat < y.toNat := h1; have a2 : ¬ y.toNat < x.toNat := h2; omega)
        rw [e, cmp_zero h]
/-- One row of bytes is ahead of another one. -/
def Lt (a b : Bs) : Prop := Lib.compareBytes a b < 0
instance (a b : Bs) : Decidable (Lt a b) := inferInstanceAs (Decidable (_ < _))
theorem lt_irr (a : Bs) : ¬ Lt a a := by unfold Lt; rw [cmp_self]; decide
theorem lt_nil {a : Bs} : ¬ Lt a [] := by cases a <;> simp [Lt, Lib.compareBytes]
theorem nil_lt {x : UInt8} {a : Bs} : Lt [] (x :: a) := by simp [Lt, Lib.compareBytes]
theorem lt_cons {x y : UInt8} {a b : Bs} : Lt (x :: a) (y :: b) ↔ x < y ∨ (x = y ∧ Lt a b) := by
  unfold Lt
  rw [Lib.compareBytes]
  by_cases h1 : x < y
  · simp [h1]
  · by_cases h2 : y < x
    · have : ¬ x = y := fun e => by subst e; exact h1 h2
      simp [h1, h2, this]
    · have e : x = y := UInt8.toNat_inj.1 (by have a1 : ¬ x.toNat < y.toNat := h1; have a2 : ¬ y.toNat < x.toNat := h2; omega)
      subst e
      simp [h1]
theorem lt_trans : ∀ {a b c : Bs}, Lt a b → Lt b c → Lt a c
  | _, [], _, h, _ => absurd h lt_nil
  | _, _ :: _, [], _, h => absurd h lt_nil
  | [], _ :: _, _ :: _, _, _ => nil_lt
  | x :: a, y :: b, z :: c, h1, h2 => by
    rw [lt_cons] at *
    rcases h1 with h1 | ⟨rfl, h1⟩
    · rcases h2 with h2 | ⟨rfl, h2⟩
      · exact Or.inl (by have a1 : x.toNat < y.toNat := h1; have a2 : y.toNat < z.toNat := h2; have : x.toNat < z.toNat := by omega
                         exact this)
      · exact Or.inl h1
    · rcases h2 with h2 | ⟨rfl, h2⟩
      · exact Or.inl h2
      · exact Or.inr ⟨rfl, lt_trans h1 h2⟩
theorem lt_or (a b : Bs) : Lt a b ∨ a = b ∨ Lt b a := by
  unfold Lt
  rw [cmp_flip b a]
  rcases Int.lt_trichotomy (Lib.compareBytes a b) 0 with h | h | h
  · exact Or.inl h
  · exact Or.inr (Or.inl (cmp_zero h))
  · exact Or.inr (Or.inr (by omega))
theorem lt_asymm {a b : Bs} (h : Lt a b) : ¬ Lt b a := fun h' => lt_irr a (lt_trans h h')

/-! ### rising lists -/
def Rise (P : List (Bs × Bs)) : Prop := P.Pairwise fun x y => Lt x.1 y.1
theorem Rise.one {P : List (Bs × Bs)} (h : Rise P) : One P :=
  List.pairwise_map.2 (h.imp fun {x y} hlt e => by rw [e] at hlt; exact lt_irr _ hlt)
theorem nodup_of_one {P : List (Bs × Bs)} (h : One P) : P.Nodup := (List.pairwise_map.1 h).imp fun hne e => hne (by rw [e])
/-- Two rising lists of the same pairs are one. -/
theorem rise_eq {P Q : List (Bs × Bs)} (hP : Rise P) (hQ : Rise Q) (h : ∀ p, p ∈ P ↔ p ∈ Q) : P = Q := by
  have nP : P.Nodup := nodup_of_one hP.one
  have nQ : Q.Nodup := nodup_of_one hQ.one
  have hp : P.Perm Q := (List.perm_ext_iff_of_nodup nP nQ).2 h
  refine List.Perm.eq_of_pairwise (le := fun a b => a = b ∨ Lt a.1 b.1) (fun a b _ _ h1 h2 => ?_) (hP.imp fun h => Or.inr h) (hQ.imp fun h => Or.inr h) hp
  rcases h1 with h1 | h1
  · exact h1
  · rcases h2 with h2 | h2
    · exact h2.symm
    · exact absurd h2 (lt_asymm h1)

/-! ### the state -/
abbrev St := A8 → Bs → Option Bs
def St.nil : St := fun _ _ => none
def St.put (g : St) (a : A8) (k : Bs) (v : Option Bs) : St := fun a' k' => if a' = a ∧ k' = k then v else g a' k'
/-- P is what is told of a's. -/
def Tells (g : St) (a : A8) (P : List (Bs × Bs)) : Prop := Rise P ∧ ∀ k v, (k, v) ∈ P ↔ g a k = some v
theorem Tells.uniq {g : St} {a : A8} {P Q : List (Bs × Bs)} (h : Tells g a P) (h' : Tells g a Q) : P = Q :=
  rise_eq h.1 h'.1 fun ⟨k, v⟩ => (h.2 k v).trans (h'.2 k v).symm
/-- No more than n values, none of them long. -/
def Bd (n : Nat) (g : St) : Prop := ∃ D : List (A8 × Bs), D.length ≤ n ∧ ∀ a k v, g a k = some v → (a, k) ∈ D ∧ k.length ≤ 64 ∧ v.length ≤ 1024
theorem Bd.nil : Bd 0 St.nil := ⟨[], Nat.le_refl _, fun _ _ _ h => by cases h⟩
theorem Bd.mono {n m : Nat} {g : St} (h : Bd n g) (hm : n ≤ m) : Bd m g := by
  obtain ⟨D, h1, h2⟩ := h
  exact ⟨D, Nat.le_trans h1 hm, h2⟩
theorem Bd.put {n : Nat} {g : St} (h : Bd n g) (a : A8) {k v : Bs} (hk : k.length ≤ 64) (hv : v.length ≤ 1024) : Bd (n + 1) (g.put a k (some v)) := by
  obtain ⟨D, h1, h2⟩ := h
  refine ⟨(a, k) :: D, by simpa using h1, fun a' k' v' e => ?_⟩
  unfold St.put at e
  by_cases hc : a' = a ∧ k' = k
  · rw [if_pos hc] at e
    obtain ⟨rfl, rfl⟩ := hc
    injection e with e
    subst e
    exact ⟨List.mem_cons_self, hk, hv⟩
  · rw [if_neg hc] at e
    obtain ⟨h3, h4⟩ := h2 _ _ _ e
    exact ⟨List.mem_cons_of_mem _ h3, h4⟩
theorem Bd.del {n : Nat} {g : St} (h : Bd n g) (a : A8) (k : Bs) : Bd n (g.put a k none) := by
  obtain ⟨D, h1, h2⟩ := h
  refine ⟨D, h1, fun a' k' v' e => ?_⟩
  unfold St.put at e
  by_cases hc : a' = a ∧ k' = k
  · rw [if_pos hc] at e; cases e
  · rw [if_neg hc] at e; exact h2 _ _ _ e
/-- A list of different things, all of which are in another list, is no longer. -/
theorem nodup_le {α : Type} : ∀ {l m : List α}, l.Nodup → (∀ x ∈ l, x ∈ m) → l.length ≤ m.length
  | [], _, _, _ => Nat.zero_le _
  | x :: r, m, hn, hs => by
    obtain ⟨h1, h2⟩ := List.nodup_cons.1 hn
    obtain ⟨s, t, rfl⟩ := List.append_of_mem (hs x List.mem_cons_self)
    have := nodup_le (l := r) (m := s ++ t) h2 (fun y hy => by
      have := hs y (List.mem_cons_of_mem _ hy)
      rcases List.mem_append.1 this with h | h
      · exact List.mem_append_left _ h
      · rcases List.mem_cons.1 h with rfl | h
        · exact absurd hy h1
        · exact List.mem_append_right _ h)
    simp only [List.length_append, List.length_cons] at this ⊢
    omega
theorem Tells.len {n : Nat} {g : St} {a : A8} {P : List (Bs × Bs)} (h : Tells g a P) (hb : Bd n g) : P.length ≤ n := by
  obtain ⟨D, h1, h2⟩ := hb
  have := nodup_le (l := P.map fun p => (a, p.1)) (m := D) (by
    have := h.1.one
    unfold One at this
    rw [show (P.map fun p => (a, p.1)) = (P.map (·.1)).map (fun k => (a, k)) by rw [List.map_map]; rfl]
    exact List.pairwise_map.2 (this.imp fun hne e => hne (by injection e))) (fun x hx => by
    obtain ⟨⟨k, v⟩, hp, rfl⟩ := List.mem_map.1 hx
    exact (h2 _ _ _ ((h.2 k v).1 hp)).1)
  rw [List.length_map] at this
  omega
theorem put_same (g : St) (a : A8) (k : Bs) (v : Option Bs) : g.put a k v a k = v := if_pos ⟨rfl, rfl⟩
theorem put_other (g : St) {a a' : A8} {k k' : Bs} (v : Option Bs) (h : ¬ (a' = a ∧ k' = k)) : g.put a k v a' k' = g a' k' := if_neg h
end Go.Proofs.Ytkdckcjnjljdmaa.Kv
namespace Go.Proofs.Ytkdckcjnjljdmaa.Po
open Go Ad Kv

/-- A transaction. -/
structure Tx where
  (kind : UInt8) (frm to : A8) (nonce value gas price : Nat) (dv : Value) (data : List UInt8)
def be : Nat → Nat → List UInt8
  | 0, _ => []
  | k + 1, n => UInt8.ofNat (n / 256 ^ k % 256) :: be k n
def Tx.bytes (t : Tx) : List UInt8 := [t.kind] ++ t.frm.l ++ t.to.l ++ be 8 t.nonce ++ be 8 t.value ++ be 8 t.gas ++ be 8 t.price ++ be 4 t.data.length ++ t.data
/-- tx.May. -/
def mayT (t : Tx) : Nat :=
  if t.kind = 1 then (if t.data.length ≤ 0 then 0 else 2)
  else if t.kind = 2 then (if t.to ≠ ⟨0, 0, 0, 0, 0, 0, 0, 0⟩ then 2 else if t.data.length ≤ 65536 then 0 else 3)
  else if t.kind = 3 then (if t.data.length ≤ 4096 then 0 else 3)
  else 2
def cmpN (a b : Nat) : Int := if a < b then -1 else if b < a then 1 else 0
def orI (a b : Int) : Int := if a ≠ 0 then a else b
/-- How good they are, the best one first. -/
def rank (x y : Tx) : Int := orI (cmpN y.price x.price) (orI (cmpN x.gas y.gas) (Lib.compareBytes x.bytes y.bytes))
/-- By senders, and nonces. -/
def place (x y : Tx) : Int := orI (Lib.compareBytes x.frm.l y.frm.l) (cmpN x.nonce y.nonce)

theorem cmpN_lt {a b : Nat} : cmpN a b < 0 ↔ a < b := by
  unfold cmpN
  split
  · omega
  · split <;> omega
theorem cmpN_eq {a b : Nat} : cmpN a b = 0 ↔ a = b := by
  unfold cmpN
  split
  · omega
  · split <;> omega
theorem orI_lt {a b : Int} : orI a b < 0 ↔ a < 0 ∨ (a = 0 ∧ b < 0) := by unfold orI; split <;> omega
theorem orI_eq {a b : Int} : orI a b = 0 ↔ a = 0 ∧ b = 0 := by unfold orI; split <;> omega
theorem cmpB_eq {a b : List UInt8} : Lib.compareBytes a b = 0 ↔ a = b := ⟨cmp_zero, fun h => by rw [h]; exact cmp_self b⟩
theorem rank_lt {x y : Tx} : rank x y < 0 ↔ y.price < x.price ∨ (y.price = x.price ∧ (x.gas < y.gas ∨ (x.gas = y.gas ∧ Lt x.bytes y.bytes))) := by
  unfold rank Lt
  rw [orI_lt, orI_lt, cmpN_lt, cmpN_eq, cmpN_lt, cmpN_eq]
theorem rank_eq {x y : Tx} : rank x y = 0 ↔ y.price = x.price ∧ x.gas = y.gas ∧ x.bytes = y.bytes := by
  unfold rank
  rw [orI_eq, orI_eq, cmpN_eq, cmpN_eq, cmpB_eq]
theorem rank_trans {x y z : Tx} (h1 : rank x y < 0) (h2 : rank y z < 0) : rank x z < 0 := by
  rw [rank_lt] at *
  rcases h1 with h1 | ⟨e1, h1⟩
  · rcases h2 with h2 | ⟨e2, h2⟩
    · exact .inl (by omega)
    · exact .inl (by omega)
  · rcases h2 with h2 | ⟨e2, h2⟩
    · exact .inl (by omega)
    · refine .inr ⟨by omega, ?_⟩
      rcases h1 with h1 | ⟨f1, h1⟩
      · rcases h2 with h2 | ⟨f2, h2⟩
        · exact .inl (by omega)
        · exact .inl (by omega)
      · rcases h2 with h2 | ⟨f2, h2⟩
        · exact .inl (by omega)
        · exact .inr ⟨by omega, lt_trans h1 h2⟩
theorem rank_or (x y : Tx) : rank x y < 0 ∨ rank x y = 0 ∨ rank y x < 0 := by
  rw [rank_lt, rank_lt, rank_eq]
  rcases Nat.lt_trichotomy y.price x.price with h | h | h
  · exact .inl (.inl h)
  · rcases Nat.lt_trichotomy x.gas y.gas with g | g | g
    · exact .inl (.inr ⟨h, .inl g⟩)
    · rcases lt_or x.bytes y.bytes with b | b | b
      · exact .inl (.inr ⟨h, .inr ⟨g, b⟩⟩)
      · exact .inr (.inl ⟨h, g, b⟩)
      · exact .inr (.inr (.inr ⟨h.symm, .inr ⟨g.symm, b⟩⟩))
    · exact .inr (.inr (.inr ⟨h.symm, .inl g⟩))
  · exact .inr (.inr (.inl h))
theorem rank_asymm {x y : Tx} (h : rank x y < 0) : ¬ rank y x < 0 := fun h' => by
  have := rank_trans h h'
  rw [rank_lt] at this
  rcases this with h | ⟨_, h | ⟨_, h⟩⟩
  · omega
  · omega
  · exact lt_irr _ h
theorem rank_gt {x y : Tx} : 0 < rank x y ↔ rank y x < 0 := by
  constructor
  · intro h
    rcases rank_or x y with h1 | h1 | h1
    · omega
    · omega
    · exact h1
  · intro h
    rcases rank_or x y with h1 | h1 | h1
    · exact absurd h1 (rank_asymm h)
    · exfalso
      rw [rank_eq] at h1
      rw [rank_lt] at h
      obtain ⟨e1, e2, e3⟩ := h1
      rw [e3] at h
      rcases h with h | ⟨_, h | ⟨_, h⟩⟩
      · omega
      · omega
      · exact lt_irr _ h
    · rcases Int.lt_trichotomy (rank x y) 0 with h2 | h2 | h2
      · exact absurd h2 (rank_asymm h)
      · exfalso
        rw [rank_eq] at h2
        rw [rank_lt] at h
        obtain ⟨e1, e2, e3⟩ := h2
        rw [e3] at h
        rcases h with h | ⟨_, h | ⟨_, h⟩⟩
        · omega
        · omega
        · exact lt_irr _ h
      · exact h2
/-- None behind is as the one ahead: the order of ranks, weakly. -/
theorem rank_le_trans {x y z : Tx} (h1 : ¬ rank y x < 0) (h2 : ¬ rank z y < 0) : ¬ rank z x < 0 := by
  intro h
  rcases rank_or x y with a | a | a
  · exact h2 (rank_trans h a)
  · obtain ⟨e1, e2, e3⟩ := rank_eq.1 a
    apply h2
    rw [rank_lt] at h ⊢
    rw [e1, ← e2, ← e3]
    exact h
  · exact h1 a
/-- slices.MinFunc, MaxFunc. -/
def minT : Tx → List Tx → Tx
  | m, [] => m
  | m, x :: r => minT (if rank x m < 0 then x else m) r
def maxT : Tx → List Tx → Tx
  | m, [] => m
  | m, x :: r => maxT (if 0 < rank x m then x else m) r
theorem minT_spec : ∀ (r : List Tx) (m : Tx), (minT m r = m ∨ minT m r ∈ r) ∧ ¬ rank m (minT m r) < 0 ∧ ∀ u ∈ r, ¬ rank u (minT m r) < 0
  | [], m => ⟨.inl rfl, fun h => rank_asymm h h, fun u h => by cases h⟩
  | x :: r, m => by
    rw [minT]
    by_cases hx : rank x m < 0
    · rw [if_pos hx]
      obtain ⟨h1, h2, h3⟩ := minT_spec r x
      refine ⟨.inr ?_, ?_, ?_⟩
      · rcases h1 with h1 | h1
        · rw [h1]; exact .head _
        · exact .tail _ h1
      · exact rank_le_trans h2 (rank_asymm hx)
      · intro u hu
        rcases List.mem_cons.1 hu with rfl | hu
        · exact h2
        · exact h3 u hu
    · rw [if_neg hx]
      obtain ⟨h1, h2, h3⟩ := minT_spec r m
      refine ⟨h1.imp id (fun h => .tail _ h), h2, ?_⟩
      intro u hu
      rcases List.mem_cons.1 hu with rfl | hu
      · exact rank_le_trans h2 hx
      · exact h3 u hu
theorem maxT_spec : ∀ (r : List Tx) (m : Tx), (maxT m r = m ∨ maxT m r ∈ r) ∧ ¬ rank (maxT m r) m < 0 ∧ ∀ u ∈ r, ¬ rank (maxT m r) u < 0
  | [], m => ⟨.inl rfl, fun h => rank_asymm h h, fun u h => by cases h⟩
  | x :: r, m => by
    rw [maxT]
    by_cases hx : 0 < rank x m
    · rw [if_pos hx]
      rw [rank_gt] at hx
      obtain ⟨h1, h2, h3⟩ := maxT_spec r x
      refine ⟨.inr ?_, ?_, ?_⟩
      · rcases h1 with h1 | h1
        · rw [h1]; exact .head _
        · exact .tail _ h1
      · exact rank_le_trans (rank_asymm hx) h2
      · intro u hu
        rcases List.mem_cons.1 hu with rfl | hu
        · exact h2
        · exact h3 u hu
    · rw [if_neg hx]
      rw [rank_gt] at hx
      obtain ⟨h1, h2, h3⟩ := maxT_spec r m
      refine ⟨h1.imp id (fun h => .tail _ h), h2, ?_⟩
      intro u hu
      rcases List.mem_cons.1 hu with rfl | hu
      · exact rank_le_trans hx h2
      · exact h3 u hu

/-! ### the order -/
abbrev Nx := A8 → Nat
def Nx.set (f : Nx) (a : A8) (n : Nat) : Nx := fun b => if b = a then n else f b
/-- Those that can go next. -/
def avail (l : List Tx) (f : Nx) : List Tx := l.filter fun x => decide (x.nonce = f x.frm)
/-- What is told in an order. -/
def Ord (l : List Tx) : Nx → List Tx → Prop
  | f, [] => avail l f = []
  | f, t :: o => t ∈ avail l f ∧ (∀ u ∈ avail l f, ¬ rank u t < 0) ∧ Ord l (f.set t.frm (t.nonce + 1)) o
/-- As far as it has been told. -/
def OrdTo (l : List Tx) : Nx → List Tx → Nx → Prop
  | f, [], g => g = f
  | f, t :: o, g => t ∈ avail l f ∧ (∀ u ∈ avail l f, ¬ rank u t < 0) ∧ OrdTo l (f.set t.frm (t.nonce + 1)) o g
theorem OrdTo.snoc {l : List Tx} : ∀ {o : List Tx} {f g : Nx} {t : Tx}, OrdTo l f o g → t ∈ avail l g → (∀ u ∈ avail l g, ¬ rank u t < 0) → OrdTo l f (o ++ [t]) (g.set t.frm (t.nonce + 1))
  | [], f, g, t, h, h1, h2 => by
    cases h
    exact ⟨h1, h2, rfl⟩
  | x :: o, f, g, t, h, h1, h2 => ⟨h.1, h.2.1, OrdTo.snoc h.2.2 h1 h2⟩
theorem OrdTo.done {l : List Tx} : ∀ {o : List Tx} {f g : Nx}, OrdTo l f o g → avail l g = [] → Ord l f o
  | [], f, g, h, h1 => by cases h; exact h1
  | x :: o, f, g, h, h1 => ⟨h.1, h.2.1, OrdTo.done h.2.2 h1⟩
theorem mem_avail {l : List Tx} {f : Nx} {x : Tx} : x ∈ avail l f ↔ x ∈ l ∧ x.nonce = f x.frm := by simp [avail]
/-- How many may still go. -/
def togo (l : List Tx) (f : Nx) : Nat := l.countP fun x => decide (f x.frm ≤ x.nonce)
theorem countP_lt {α : Type} {p q : α → Bool} (h : ∀ x, p x = true → q x = true) : ∀ {l : List α} {x0 : α}, x0 ∈ l → q x0 = true → p x0 = false → l.countP p < l.countP q
  | [], _, h0, _, _ => by cases h0
  | y :: l, x0, h0, hq, hp => by
    have hm : l.countP p ≤ l.countP q := List.countP_mono_left (fun x _ => h x)
    rcases List.mem_cons.1 h0 with rfl | h1
    · rw [List.countP_cons_of_pos hq, List.countP_cons_of_neg (by simp [hp])]
      omega
    · have := countP_lt h h1 hq hp
      rw [List.countP_cons, List.countP_cons]
      have hy : (if p y = true then 1 else 0) ≤ (if q y = true then 1 else 0 : Nat) := by
        by_cases e : p y = true
        · simp [e, h y e]
        · simp [e]
      omega
theorem togo_less {l : List Tx} {f : Nx} {t : Tx} (h : t ∈ avail l f) : togo l (f.set t.frm (t.nonce + 1)) < togo l f := by
  obtain ⟨h1, h2⟩ := mem_avail.1 h
  refine countP_lt (fun x hx => ?_) h1 (by simp [h2]) (by simp [Nx.set])
  rw [decide_eq_true_eq] at hx ⊢
  by_cases e : x.frm = t.frm
  · have h3 : f.set t.frm (t.nonce + 1) x.frm = t.nonce + 1 := if_pos e
    rw [h3] at hx
    rw [e]
    omega
  · have h3 : f.set t.frm (t.nonce + 1) x.frm = f x.frm := if_neg e
    rw [h3] at hx
    exact hx
theorem OrdTo.len {l : List Tx} : ∀ {o : List Tx} {f g : Nx}, OrdTo l f o g → o.length + togo l g ≤ togo l f
  | [], f, g, h => by cases h; simp
  | x :: o, f, g, h => by
    have := OrdTo.len h.2.2
    have := togo_less h.1
    simp only [List.length_cons]
    omega
end Go.Proofs.Ytkdckcjnjljdmaa.Po
namespace Go.Proofs.Ytkdckcjnjljdmaa.Po
open Go Ad Kv

theorem A8.l_inj {a b : A8} (h : a.l = b.l) : a = b := by
  obtain ⟨a0, a1, a2, a3, a4, a5, a6, a7⟩ := a
  obtain ⟨b0, b1, b2, b3, b4, b5, b6, b7⟩ := b
  simp only [A8.l, List.cons.injEq, and_true] at h
  obtain ⟨rfl, rfl, rfl, rfl, rfl, rfl, rfl, rfl⟩ := h
  rfl
theorem A8.l_len (a : A8) : a.l.length = 8 := rfl
theorem place_lt {x y : Tx} : place x y < 0 ↔ Lt x.frm.l y.frm.l ∨ (x.frm = y.frm ∧ x.nonce < y.nonce) := by
  unfold place Lt
  rw [orI_lt, cmpB_eq, cmpN_lt]
  exact ⟨fun h => h.imp id (fun ⟨e, h⟩ => ⟨A8.l_inj e, h⟩), fun h => h.imp id (fun ⟨e, h⟩ => ⟨by rw [e], h⟩)⟩
theorem place_eq {x y : Tx} : place x y = 0 ↔ x.frm = y.frm ∧ x.nonce = y.nonce := by
  unfold place
  rw [orI_eq, cmpB_eq, cmpN_eq]
  exact ⟨fun ⟨e, h⟩ => ⟨A8.l_inj e, h⟩, fun ⟨e, h⟩ => ⟨by rw [e], h⟩⟩
theorem place_trans {x y z : Tx} (h1 : place x y < 0) (h2 : place y z < 0) : place x z < 0 := by
  rw [place_lt] at *
  rcases h1 with h1 | ⟨e1, h1⟩
  · rcases h2 with h2 | ⟨e2, h2⟩
    · exact .inl (lt_trans h1 h2)
    · rw [← e2]; exact .inl h1
  · rcases h2 with h2 | ⟨e2, h2⟩
    · rw [e1]; exact .inl h2
    · exact .inr ⟨e1.trans e2, by omega⟩
theorem place_irr (x : Tx) : ¬ place x x < 0 := by
  rw [place_lt]
  rintro (h | ⟨_, h⟩)
  · exact lt_irr _ h
  · omega
theorem place_or (x y : Tx) : place x y < 0 ∨ place x y = 0 ∨ place y x < 0 := by
  rw [place_lt, place_lt, place_eq]
  rcases lt_or x.frm.l y.frm.l with h | h | h
  · exact .inl (.inl h)
  · have e := A8.l_inj h
    rcases Nat.lt_trichotomy x.nonce y.nonce with g | g | g
    · exact .inl (.inr ⟨e, g⟩)
    · exact .inr (.inl ⟨e, g⟩)
    · exact .inr (.inr (.inr ⟨e.symm, g⟩))
  · exact .inr (.inr (.inl h))
theorem place_congr {x y z : Tx} (h : place x y = 0) : (place x z < 0 ↔ place y z < 0) ∧ (place z x < 0 ↔ place z y < 0) ∧ (place x z = 0 ↔ place y z = 0) := by
  obtain ⟨e1, e2⟩ := place_eq.1 h
  simp only [place_lt, place_eq, e1, e2, and_self]
/-- By rising senders, and nonces. -/
def Srt (l : List Tx) : Prop := l.Pairwise fun x y => place x y < 0
theorem Srt.one {l : List Tx} (h : Srt l) {i j : Nat} {x y : Tx} (hi : l[i]? = some x) (hj : l[j]? = some y) (e : place x y = 0) : i = j := by
  obtain ⟨h1, rfl⟩ := List.getElem?_eq_some_iff.1 hi
  obtain ⟨h2, rfl⟩ := List.getElem?_eq_some_iff.1 hj
  rcases Nat.lt_trichotomy i j with k | k | k
  · have := List.pairwise_iff_getElem.1 h i j h1 h2 k
    omega
  · exact k
  · have := List.pairwise_iff_getElem.1 h j i h2 h1 k
    rw [(place_congr e).2.1] at this
    exact absurd this (place_irr _)
/-- Where a sender's nonce stands, or would stand. -/
def pos (l : List Tx) (t : Tx) : Nat := l.countP fun x => decide (place x t < 0)
theorem pos_le (l : List Tx) (t : Tx) : pos l t ≤ l.length := List.countP_le_length
theorem pos_spec {t : Tx} : ∀ {l : List Tx}, Srt l → ∀ (i : Nat) (x : Tx), l[i]? = some x → (place x t < 0 ↔ i < pos l t)
  | [], _, i, x, h => by simp at h
  | y :: r, h, i, x, hx => by
    obtain ⟨h1, h2⟩ := List.pairwise_cons.1 h
    unfold pos
    rw [List.countP_cons]
    by_cases hy : place y t < 0
    · rw [if_pos (by simpa using hy)]
      cases i with
      | zero =>
        simp only [List.getElem?_cons_zero, Option.some.injEq] at hx
        subst hx
        simp [hy]
      | succ i =>
        rw [List.getElem?_cons_succ] at hx
        have := pos_spec (t := t) h2 i x hx
        unfold pos at this
        omega
    · rw [if_neg (by simpa using hy)]
      have h0 : r.countP (fun x => decide (place x t < 0)) = 0 := by
        rw [List.countP_eq_zero]
        intro z hz hzt
        exact hy (place_trans (h1 z hz) (by simpa using hzt))
      rw [h0]
      constructor
      · intro hxt
        exfalso
        cases i with
        | zero =>
          simp only [List.getElem?_cons_zero, Option.some.injEq] at hx
          subst hx
          exact hy hxt
        | succ i =>
          rw [List.getElem?_cons_succ] at hx
          exact hy (place_trans (h1 x (List.mem_of_getElem? hx)) hxt)
      · intro h; omega
/-- One of that sender and nonce. -/
def at? (l : List Tx) (t : Tx) : Option Tx := match l[pos l t]? with
  | some y => if place y t = 0 then some y else none
  | none => none
theorem at_none {l : List Tx} {t : Tx} (hs : Srt l) (h : at? l t = none) : ∀ x ∈ l, ¬ place x t = 0 := by
  intro x hx e
  obtain ⟨i, hi⟩ := List.getElem?_of_mem hx
  have h1 := pos_spec hs i x hi (t := t)
  have hn : ¬ i < pos l t := fun hlt => by have := h1.2 hlt; omega
  have hpl : pos l t < l.length := by have := (List.getElem?_eq_some_iff.1 hi).1; omega
  obtain ⟨y, hy⟩ : ∃ y, l[pos l t]? = some y := ⟨_, List.getElem?_eq_getElem hpl⟩
  have h2 := pos_spec hs (pos l t) y hy (t := t)
  have hy0 : ¬ place y t < 0 := fun hlt => by have := h2.1 hlt; omega
  unfold at? at h
  rw [hy] at h
  simp only at h
  by_cases hyt : place y t = 0
  · rw [if_pos hyt] at h; cases h
  · -- y lies behind t, so x, which is no earlier, does too
    have hyt' : place t y < 0 := by
      rcases place_or y t with a | a | a
      · exact absurd a hy0
      · exact absurd a hyt
      · exact a
    rcases Nat.lt_or_ge (pos l t) i with hlt | hge
    · have hj := (List.getElem?_eq_some_iff.1 hi)
      have hk := (List.getElem?_eq_some_iff.1 hy)
      have := List.pairwise_iff_getElem.1 hs (pos l t) i hk.1 hj.1 hlt
      rw [hk.2, hj.2] at this
      have h3 := place_trans hyt' this
      rw [(place_congr e).2.1] at h3
      exact place_irr _ h3
    · have : i = pos l t := by omega
      rw [this, hy] at hi
      cases hi
      exact hyt e
def insAt (l : List Tx) (i : Nat) (x : Tx) : List Tx := l.take i ++ x :: l.drop i
theorem insAt_mem {l : List Tx} {i : Nat} {x u : Tx} : u ∈ insAt l i x ↔ u = x ∨ u ∈ l := by
  unfold insAt
  rw [List.mem_append, List.mem_cons]
  constructor
  · rintro (h | h | h)
    · exact .inr (List.mem_of_mem_take h)
    · exact .inl h
    · exact .inr (List.mem_of_mem_drop h)
  · rintro (h | h)
    · exact .inr (.inl h)
    · rw [← List.take_append_drop i l, List.mem_append] at h
      rcases h with h | h
      · exact .inl h
      · exact .inr (.inr h)
theorem insAt_len {l : List Tx} {i : Nat} {x : Tx} (h : i ≤ l.length) : (insAt l i x).length = l.length + 1 := by
  unfold insAt
  rw [List.length_append, List.length_cons, List.length_take, List.length_drop]
  omega
theorem take_lt {l : List Tx} {t : Tx} (hs : Srt l) : ∀ x ∈ l.take (pos l t), place x t < 0 := by
  intro x hx
  obtain ⟨i, hi⟩ := List.getElem?_of_mem hx
  rw [List.getElem?_take] at hi
  split at hi
  · rename_i hlt
    exact (pos_spec hs i x hi).2 hlt
  · cases hi
theorem drop_ge {l : List Tx} {t : Tx} (hs : Srt l) : ∀ x ∈ l.drop (pos l t), ¬ place x t < 0 := by
  intro x hx
  obtain ⟨i, hi⟩ := List.getElem?_of_mem hx
  rw [List.getElem?_drop] at hi
  intro h
  have := (pos_spec hs _ x hi).1 h
  omega
theorem Srt.ins {l : List Tx} {t : Tx} (hs : Srt l) (h : ∀ x ∈ l, ¬ place x t = 0) : Srt (insAt l (pos l t) t) := by
  unfold insAt Srt
  have h1 := hs
  unfold Srt at h1
  rw [← List.take_append_drop (pos l t) l, List.pairwise_append] at h1
  rw [List.pairwise_append, List.pairwise_cons]
  refine ⟨h1.1, ⟨fun x hx => ?_, h1.2.1⟩, fun x hx y hy => ?_⟩
  · rcases place_or x t with a | a | a
    · exact absurd a (drop_ge hs x hx)
    · exact absurd a (h x (List.mem_of_mem_drop hx))
    · exact a
  · rcases List.mem_cons.1 hy with rfl | hy
    · exact take_lt hs x hx
    · exact h1.2.2 x hx y hy
theorem Srt.set {l : List Tx} {t y : Tx} {i : Nat} (hs : Srt l) (hi : l[i]? = some y) (h : place y t = 0) : Srt (l.set i t) := by
  unfold Srt at hs ⊢
  rw [List.pairwise_iff_getElem] at hs ⊢
  obtain ⟨hil, hiy⟩ := List.getElem?_eq_some_iff.1 hi
  intro a b ha hb hab
  rw [List.length_set] at ha hb
  have h0 := hs a b ha hb hab
  rw [List.getElem_set, List.getElem_set]
  by_cases ea : i = a
  · subst ea
    rw [if_pos rfl, if_neg (by omega)]
    rw [hiy] at h0
    exact (place_congr h).1.1 h0
  · rw [if_neg ea]
    by_cases eb : i = b
    · subst eb
      rw [if_pos rfl]
      rw [hiy] at h0
      exact (place_congr h).2.1.1 h0
    · rw [if_neg eb]
      exact h0
/-- The worst one. -/
def worst : List Tx → Option Tx
  | [] => none
  | x :: r => some (maxT x r)
/-- With one more, and which one it takes the place of. -/
def withT (l : List Tx) (t : Tx) : List Tx × List Tx := match at? l t with
  | some y => (l.set (pos l t) t, [y])
  | none => (insAt l (pos l t) t, [])
/-- What is there, what goes, and the error, behind a transaction that may come. -/
def addP (most : Nat) (l : List Tx) (t : Tx) : List Tx × List Tx × Nat :=
  if (withT l t).1.length ≤ most then ((withT l t).1, (withT l t).2, 0)
  else match worst (withT l t).1 with
    | none => (l, [], 7)
    | some z => if place z t = 0 then (l, [], 7) else ((withT l t).1.filter (fun u => decide (¬ place u z = 0)), (withT l t).2 ++ [z], 0)
/-- What a pool's transactions have. -/
structure OkT (t : Tx) : Prop where
  may : mayT t = 0
  n : t.nonce < 18446744073709551615
  v : t.value < 18446744073709551616
  g : t.gas < 18446744073709551616
  p : t.price < 18446744073709551616
theorem mayT_len {t : Tx} (h : mayT t = 0) : t.data.length ≤ 65536 := by
  unfold mayT at h
  by_cases h1 : t.kind = 1
  · rw [if_pos h1] at h
    by_cases h2 : t.data.length ≤ 0
    · omega
    · rw [if_neg h2] at h; omega
  · rw [if_neg h1] at h
    by_cases h2 : t.kind = 2
    · rw [if_pos h2] at h
      by_cases h3 : t.to ≠ ⟨0, 0, 0, 0, 0, 0, 0, 0⟩
      · rw [if_pos h3] at h; omega
      · rw [if_neg h3] at h
        by_cases h4 : t.data.length ≤ 65536
        · exact h4
        · rw [if_neg h4] at h; omega
    · rw [if_neg h2] at h
      by_cases h3 : t.kind = 3
      · rw [if_pos h3] at h
        by_cases h4 : t.data.length ≤ 4096
        · omega
        · rw [if_neg h4] at h; omega
      · rw [if_neg h3] at h; omega
theorem be_len : ∀ k n, (be k n).length = k
  | 0, _ => rfl
  | k + 1, n => by rw [be, List.length_cons, be_len k n]
theorem u8_ofNat_inj {a b : Nat} (ha : a < 256) (hb : b < 256) (h : UInt8.ofNat a = UInt8.ofNat b) : a = b := by
  have := congrArg UInt8.toNat h
  simp only [UInt8.toNat_ofNat'] at this
  omega
theorem be_inj : ∀ (k : Nat) {n m : Nat}, n < 256 ^ k → m < 256 ^ k → be k n = be k m → n = m
  | 0, n, m, h1, h2, _ => by simp at h1 h2; omega
  | k + 1, n, m, h1, h2, h => by
    rw [be, be, List.cons.injEq] at h
    obtain ⟨e1, e2⟩ := h
    have hk : 0 < 256 ^ k := Nat.pow_pos (by decide)
    have q1 : n / 256 ^ k < 256 := Nat.div_lt_of_lt_mul (by rw [Nat.pow_succ] at h1; omega)
    have q2 : m / 256 ^ k < 256 := Nat.div_lt_of_lt_mul (by rw [Nat.pow_succ] at h2; omega)
    have f1 := u8_ofNat_inj (Nat.mod_lt _ (by decide)) (Nat.mod_lt _ (by decide)) e1
    rw [Nat.mod_eq_of_lt q1, Nat.mod_eq_of_lt q2] at f1
    have be_mod : ∀ (j : Nat) (x y : Nat), j ≤ k → x % 256 ^ k = y → be j x = be j y := by
      intro j
      induction j with
      | zero => intros; rfl
      | succ j ih =>
        intro x y hj hxy
        rw [be, be, ih x y (by omega) hxy]
        congr 2
        subst hxy
        have e : 256 ^ k = 256 ^ j * 256 * 256 ^ (k - j - 1) := by
          rw [← Nat.pow_succ, ← Nat.pow_add]
          congr 1
          omega
        rw [e, Nat.mul_assoc, Nat.mod_mul_right_div_self, Nat.mod_mul_right_mod]
    have e3 : be k (n % 256 ^ k) = be k (m % 256 ^ k) := by
      rw [← be_mod k n _ (Nat.le_refl _) rfl, ← be_mod k m _ (Nat.le_refl _) rfl]
      exact e2
    have f2 := be_inj k (Nat.mod_lt _ hk) (Nat.mod_lt _ hk) e3
    have d1 := Nat.div_add_mod n (256 ^ k)
    have d2 := Nat.div_add_mod m (256 ^ k)
    rw [f1, f2] at d1
    omega
theorem bytes_inj {x y : Tx} (hx : OkT x) (hy : OkT y) (h : x.bytes = y.bytes) : place x y = 0 := by
  unfold Tx.bytes at h
  simp only [List.append_assoc] at h
  obtain ⟨_, h⟩ := List.append_inj h rfl
  obtain ⟨e1, h⟩ := List.append_inj h rfl
  obtain ⟨_, h⟩ := List.append_inj h rfl
  obtain ⟨e2, _⟩ := List.append_inj h (by rw [be_len, be_len])
  rw [place_eq]
  exact ⟨A8.l_inj e1, be_inj 8 (by have := hx.n; simp; omega) (by have := hy.n; simp; omega) e2⟩
theorem rank_ne {x y : Tx} (hx : OkT x) (hy : OkT y) (h : ¬ place x y = 0) : ¬ rank x y = 0 := fun e => h (bytes_inj hx hy (rank_eq.1 e).2.2)
end Go.Proofs.Ytkdckcjnjljdmaa.Po
namespace Go.Proofs.Ytkdckcjnjljdmaa.Po
open Go Ad Kv

theorem worst_spec {l : List Tx} {z : Tx} (h : worst l = some z) : z ∈ l ∧ ∀ u ∈ l, ¬ rank z u < 0 := by
  cases l with
  | nil => cases h
  | cons x r =>
    obtain rfl : maxT x r = z := Option.some.inj h
    obtain ⟨h1, h2, h3⟩ := maxT_spec r x
    refine ⟨?_, fun u hu => ?_⟩
    · rcases h1 with h1 | h1
      · rw [h1]; exact .head _
      · exact .tail _ h1
    · rcases List.mem_cons.1 hu with rfl | hu
      · exact h2
      · exact h3 u hu
theorem worst_some {l : List Tx} (h : l ≠ []) : ∃ z, worst l = some z := by
  cases l with
  | nil => exact absurd rfl h
  | cons x r => exact ⟨_, rfl⟩
theorem at_some {l : List Tx} {t y : Tx} (h : at? l t = some y) : l[pos l t]? = some y ∧ place y t = 0 := by
  unfold at? at h
  cases hp : l[pos l t]? with
  | none => rw [hp] at h; cases h
  | some z =>
    rw [hp] at h
    simp only at h
    by_cases e : place z t = 0
    · rw [if_pos e] at h
      cases h
      exact ⟨rfl, e⟩
    · rw [if_neg e] at h; cases h
theorem withT_srt {l : List Tx} {t : Tx} (hs : Srt l) : Srt (withT l t).1 := by
  unfold withT
  cases h : at? l t with
  | none => exact hs.ins (at_none hs h)
  | some y => exact hs.set (at_some h).1 (at_some h).2
theorem withT_mem {l : List Tx} {t u : Tx} (h : u ∈ (withT l t).1) : u = t ∨ u ∈ l := by
  unfold withT at h
  cases ha : at? l t with
  | none => rw [ha] at h; exact insAt_mem.1 h
  | some y => rw [ha] at h; exact (List.mem_or_eq_of_mem_set h).symm
theorem withT_has {l : List Tx} {t : Tx} : t ∈ (withT l t).1 := by
  unfold withT
  cases ha : at? l t with
  | none => exact insAt_mem.2 (.inl rfl)
  | some y =>
    have := (List.getElem?_eq_some_iff.1 (at_some ha).1).1
    exact List.mem_set this t
theorem withT_len {l : List Tx} {t : Tx} : (withT l t).1.length = l.length + (if (at? l t).isSome then 0 else 1) := by
  unfold withT
  cases ha : at? l t with
  | none => simp [insAt_len (pos_le l t)]
  | some y => simp
/-- One of a list with one sender and nonce each is left out. -/
theorem strike_len {z : Tx} : ∀ {l : List Tx}, Srt l → z ∈ l → (l.filter (fun u => decide (¬ place u z = 0))).length + 1 = l.length
  | [], _, h => by cases h
  | y :: r, hs, h => by
    obtain ⟨h1, h2⟩ := List.pairwise_cons.1 hs
    rw [List.filter_cons]
    by_cases hy : place y z = 0
    · have hall : r.filter (fun u => decide (¬ place u z = 0)) = r := by
        rw [List.filter_eq_self]
        intro u hu
        have := h1 u hu
        rw [decide_eq_true_eq]
        intro e
        rw [(place_congr hy).1, ← (place_congr e).1] at this
        exact place_irr _ this
      rw [hall, if_neg (by simp [hy])]
      rfl
    · rw [if_pos (by simp [hy])]
      have hz : z ∈ r := by
        rcases List.mem_cons.1 h with rfl | h
        · exact absurd (place_eq.2 ⟨rfl, rfl⟩) hy
        · exact h
      have := strike_len h2 hz
      simp only [List.length_cons]
      omega
structure Added (most : Nat) (l : List Tx) (t : Tx) (r : List Tx × List Tx × Nat) : Prop where
  srt : Srt r.1
  ok : ∀ u ∈ r.1, OkT u
  len : r.1.length ≤ most
  er : r.2.2 = 0 ∨ r.2.2 = 7
  full : r.2.2 = 7 → r.1 = l ∧ r.2.1 = [] ∧ ∀ u ∈ l, rank u t < 0
  outs : at? l t = none → ∀ x ∈ r.2.1, ∀ u ∈ r.1, rank u x < 0
  one : at? l t = none → r.2.1.length ≤ 1
  grow : at? l t = none → r.1.length = min (l.length + 1) most
theorem addP_spec {most : Nat} {l : List Tx} {t : Tx} (hs : Srt l) (ho : ∀ u ∈ l, OkT u) (ht : OkT t) (hl : l.length ≤ most) : Added most l t (addP most l t) := by
  have hs1 := withT_srt (t := t) hs
  have ho1 : ∀ u ∈ (withT l t).1, OkT u := fun u hu => (withT_mem hu).elim (fun e => e ▸ ht) (ho u)
  have hn1 := withT_len (l := l) (t := t)
  unfold addP
  by_cases hle : (withT l t).1.length ≤ most
  · rw [if_pos hle]
    refine ⟨hs1, ho1, hle, .inl rfl, fun h => absurd (show (0 : Nat) = 7 from h) (by decide), fun ha x hx => ?_, fun ha => ?_, fun ha => ?_⟩
    · unfold withT at hx; rw [ha] at hx; cases hx
    · unfold withT; rw [ha]; exact Nat.zero_le _
    · rw [ha] at hn1
      simp only [Option.isSome_none, Bool.false_eq_true, if_false] at hn1
      show (withT l t).1.length = _
      omega
  · rw [if_neg hle]
    -- nothing was replaced
    have ha : at? l t = none := by
      cases h : at? l t with
      | none => rfl
      | some y => rw [h] at hn1; simp only [Option.isSome_some, if_true] at hn1; omega
    have ha2 : (withT l t).2 = [] := by unfold withT; rw [ha]
    rw [ha] at hn1
    simp only [Option.isSome_none, Bool.false_eq_true, if_false] at hn1
    obtain ⟨z, hz⟩ := worst_some (l := (withT l t).1) (fun e => by rw [e] at hn1; simp at hn1)
    obtain ⟨z1, z2⟩ := worst_spec hz
    rw [hz]
    have hlt : ∀ u ∈ (withT l t).1, ¬ place u z = 0 → rank u z < 0 := fun u hu hne => by
      rcases rank_or u z with a | a | a
      · exact a
      · exact absurd a (rank_ne (ho1 u hu) (ho1 z z1) hne)
      · exact absurd a (z2 u hu)
    simp only
    by_cases hzt : place z t = 0
    · rw [if_pos hzt]
      have ezt : z = t := by
        rcases withT_mem z1 with e | hm
        · exact e
        · exact absurd hzt (at_none hs ha z hm)
      refine ⟨hs, ho, hl, .inr rfl, fun _ => ⟨rfl, rfl, fun u hu => ?_⟩, fun _ x hx => (by cases hx), fun _ => Nat.zero_le _, fun _ => by show l.length = _; omega⟩
      have hm : u ∈ (withT l t).1 := by unfold withT; rw [ha]; exact insAt_mem.2 (.inr hu)
      have := hlt u hm (by rw [ezt]; exact at_none hs ha u hu)
      rwa [ezt] at this
    · rw [if_neg hzt]
      have hsl := strike_len hs1 z1
      refine ⟨hs1.filter _, fun u hu => ho1 u (List.mem_filter.1 hu).1, by show (List.filter _ _).length ≤ most; omega, .inl rfl, fun h => absurd (show (0 : Nat) = 7 from h) (by decide), fun _ x hx u hu => ?_, fun _ => by rw [ha2]; exact Nat.le_refl _, fun _ => by show (List.filter _ _).length = _; omega⟩
      rw [ha2] at hx
      obtain rfl := List.mem_singleton.1 hx
      obtain ⟨u1, u2⟩ := List.mem_filter.1 hu
      exact hlt u u1 (by simpa using u2)
end Go.Proofs.Ytkdckcjnjljdmaa.Po
namespace Go.Proofs.Ytkdckcjnjljdmaa.Po
open Go Ad Kv

/-- What a transaction takes at least. -/
def leastT (t : Tx) : Nat := 1000 + (if t.kind = 2 then 24 else 4) * t.data.length
/-- Why a transaction is not taken; f: the senders' nonces. -/
def mayP (f : Nx) (l : List Tx) (t : Tx) : Nat :=
  if mayT t ≠ 0 then mayT t
  else if t.gas < leastT t ∨ 4294967296 < t.gas then 2
  else if t.nonce < f t.frm then 8
  else if 64 ≤ t.nonce - f t.frm ∨ t.nonce = 18446744073709551615 then 5
  else match at? l t with
    | some y => if t.price ≤ y.price then 6 else 0
    | none => 0
def addF (f : Nx) (most : Nat) (l : List Tx) (t : Tx) : List Tx × List Tx × Nat := if mayP f l t = 0 then addP most l t else (l, [], mayP f l t)
/-- A pool's list. -/
structure PoolOk (most : Nat) (l : List Tx) : Prop where
  srt : Srt l
  ok : ∀ u ∈ l, OkT u
  len : l.length ≤ most
theorem PoolOk.nil (most : Nat) : PoolOk most [] := ⟨List.Pairwise.nil, fun u h => (by cases h), Nat.zero_le _⟩
theorem mayP_ok {f : Nx} {l : List Tx} {t : Tx} (h : mayP f l t = 0) : mayT t = 0 ∧ t.nonce ≠ 18446744073709551615 ∧ f t.frm ≤ t.nonce := by
  unfold mayP at h
  by_cases h1 : mayT t ≠ 0
  · rw [if_pos h1] at h; exact absurd h h1
  · rw [if_neg h1] at h
    by_cases h2 : t.gas < leastT t ∨ 4294967296 < t.gas
    · rw [if_pos h2] at h; cases h
    · rw [if_neg h2] at h
      by_cases h3 : t.nonce < f t.frm
      · rw [if_pos h3] at h; cases h
      · rw [if_neg h3] at h
        by_cases h4 : 64 ≤ t.nonce - f t.frm ∨ t.nonce = 18446744073709551615
        · rw [if_pos h4] at h; cases h
        · exact ⟨Decidable.not_not.1 h1, fun e => h4 (.inr e), Nat.le_of_not_lt h3⟩
theorem addF_ok {f : Nx} {most : Nat} {l : List Tx} {t : Tx} (h : PoolOk most l) (hn : t.nonce < 18446744073709551616) (hv : t.value < 18446744073709551616) (hg : t.gas < 18446744073709551616) (hp : t.price < 18446744073709551616) : PoolOk most (addF f most l t).1 := by
  unfold addF
  by_cases hm : mayP f l t = 0
  · rw [if_pos hm]
    obtain ⟨h1, h2, _⟩ := mayP_ok hm
    have := addP_spec h.srt h.ok (t := t) ⟨h1, by omega, hv, hg, hp⟩ h.len
    exact ⟨this.srt, this.ok, this.len⟩
  · rw [if_neg hm]
    exact h
/-! ### PoolKeeps -/
def adr (b : UInt8) : A8 := ⟨b, 0, 0, 0, 0, 0, 0, 0⟩
/-- tx1: a transfer of a sender, a nonce, a price. -/
def tx1 (b : UInt8) (nonce price : Nat) : Tx := ⟨1, adr b, adr 9, nonce, 0, 1000, price, .slice none 0 0, []⟩
theorem tx1_ok {b : UInt8} {n p : Nat} (hn : n < 18446744073709551615) (hp : p < 18446744073709551616) : OkT (tx1 b n p) := ⟨rfl, hn, by show (0 : Nat) < 18446744073709551616; decide, by show (1000 : Nat) < 18446744073709551616; decide, hp⟩
/-- The transactions of senders that came earlier. -/
def Came (i : Nat) (l : List Tx) : Prop := ∀ u ∈ l, ∃ j, j < i ∧ u.frm = adr (UInt8.ofNat j)
theorem came_none {i : Nat} (hi : i < 256) {l : List Tx} (h : Came i l) (n p : Nat) : at? l (tx1 (UInt8.ofNat i) n p) = none := by
  cases ha : at? l (tx1 (UInt8.ofNat i) n p) with
  | none => rfl
  | some y =>
    exfalso
    obtain ⟨h1, h2⟩ := at_some ha
    obtain ⟨j, hj, e⟩ := h y (List.mem_of_getElem? h1)
    obtain ⟨e1, _⟩ := place_eq.1 h2
    rw [e] at e1
    have e2 : UInt8.ofNat j = UInt8.ofNat i := congrArg A8.x0 e1
    have := u8_ofNat_inj (by omega) hi e2
    omega
theorem may_one {i : Nat} (hi : i < 256) {l : List Tx} (h : Came i l) {n p : Nat} (hn : n < 64) : mayP (fun _ => 0) l (tx1 (UInt8.ofNat i) n p) = 0 := by
  unfold mayP
  rw [came_none hi h]
  rw [if_neg (show ¬ mayT (tx1 (UInt8.ofNat i) n p) ≠ 0 from fun h => h rfl), if_neg (by show ¬ ((1000 : Nat) < 1000 + 4 * 0 ∨ 4294967296 < (1000 : Nat)); decide), if_neg (Nat.not_lt_zero _), if_neg]
  show ¬ (64 ≤ n - 0 ∨ n = 18446744073709551615)
  omega
theorem came_next {i most : Nat} {l : List Tx} {n p : Nat} (h : Came i l) : Came (i + 1) (addP most l (tx1 (UInt8.ofNat i) n p)).1 := by
  have h0 : ∀ u ∈ (withT l (tx1 (UInt8.ofNat i) n p)).1, ∃ j, j < i + 1 ∧ u.frm = adr (UInt8.ofNat j) := fun u hu => by
    rcases withT_mem hu with rfl | hu
    · exact ⟨i, by omega, rfl⟩
    · obtain ⟨j, hj, e⟩ := h u hu
      exact ⟨j, by omega, e⟩
  have hl : Came (i + 1) l := fun u hu => by
    obtain ⟨j, hj, e⟩ := h u hu
    exact ⟨j, by omega, e⟩
  unfold addP
  by_cases hle : (withT l (tx1 (UInt8.ofNat i) n p)).1.length ≤ most
  · rw [if_pos hle]; exact h0
  · rw [if_neg hle]
    cases worst (withT l (tx1 (UInt8.ofNat i) n p)).1 with
    | none => exact hl
    | some z =>
      simp only
      by_cases hz : place z (tx1 (UInt8.ofNat i) n p) = 0
      · rw [if_pos hz]; exact hl
      · rw [if_neg hz]
        exact fun u hu => h0 u (List.mem_filter.1 hu).1
end Go.Proofs.Ytkdckcjnjljdmaa.Po
namespace Go.Proofs.Ytkdckcjnjljdmaa.Po
open Go Ad Kv

theorem minT_snoc : ∀ (l : List Tx) (m x : Tx), minT m (l ++ [x]) = if rank x (minT m l) < 0 then x else minT m l
  | [], m, x => rfl
  | y :: r, m, x => by
    rw [List.cons_append, minT, minT_snoc r _ x]
    rfl
theorem maxT_snoc : ∀ (l : List Tx) (m x : Tx), maxT m (l ++ [x]) = if 0 < rank x (maxT m l) then x else maxT m l
  | [], m, x => rfl
  | y :: r, m, x => by
    rw [List.cons_append, maxT, maxT_snoc r _ x]
    rfl
/-- One more of a list's front. -/
theorem take_more {l : List Tx} {k : Nat} {x : Tx} (h : l[k]? = some x) : l.take (k + 1) = l.take k ++ [x] := by rw [List.take_add_one, h, Option.toList_some]
theorem min_more {a : Tx} {l : List Tx} {k : Nat} {x : Tx} (h : l[k]? = some x) : minT a (l.take (k + 1)) = if rank x (minT a (l.take k)) < 0 then x else minT a (l.take k) := by rw [take_more h, minT_snoc]
theorem max_more {a : Tx} {l : List Tx} {k : Nat} {x : Tx} (h : l[k]? = some x) : maxT a (l.take (k + 1)) = if 0 < rank x (maxT a (l.take k)) then x else maxT a (l.take k) := by rw [take_more h, maxT_snoc]
/-- The one with a sender and nonce is left out of a rising list. -/
theorem strike_at {z : Tx} : ∀ {l : List Tx} {k : Nat}, Srt l → l[k]? = some z → l.take k ++ l.drop (k + 1) = l.filter (fun u => decide (¬ place u z = 0))
  | [], k, _, h => by simp at h
  | y :: r, k, hs, h => by
    obtain ⟨h1, h2⟩ := List.pairwise_cons.1 hs
    cases k with
    | zero =>
      simp only [List.getElem?_cons_zero, Option.some.injEq] at h
      subst h
      rw [List.filter_cons, if_neg (by simp [place_eq])]
      show [] ++ r = _
      rw [List.nil_append]
      symm
      rw [List.filter_eq_self]
      intro u hu
      rw [decide_eq_true_eq]
      intro e
      have := h1 u hu
      rw [(place_congr e).2.1] at this
      exact place_irr _ this
    | succ k =>
      rw [List.getElem?_cons_succ] at h
      have hne : ¬ place y z = 0 := by
        intro e
        have := h1 z (List.mem_of_getElem? h)
        rw [(place_congr e).1] at this
        exact place_irr _ this
      rw [List.filter_cons, if_pos (by simp [hne]), ← strike_at h2 h]
      rfl
/-- Where the first one of that sender and nonce stands. -/
def idxT (l : List Tx) (z : Tx) : Nat := l.findIdx fun u => decide (place u z = 0)
theorem idxT_at {l : List Tx} {z : Tx} (hs : Srt l) (hz : z ∈ l) : l[idxT l z]? = some z := by
  have hex : ∃ x ∈ l, decide (place x z = 0) = true := ⟨z, hz, by simp [place_eq]⟩
  have hlt : idxT l z < l.length := List.findIdx_lt_length.2 hex
  have h1 : decide (place l[idxT l z] z = 0) = true := List.findIdx_getElem (w := hlt)
  rw [decide_eq_true_eq] at h1
  obtain ⟨j, hj⟩ := List.getElem?_of_mem hz
  have hi : l[idxT l z]? = some l[idxT l z] := List.getElem?_eq_getElem hlt
  have := hs.one hi hj h1
  rw [this]
  exact hj
theorem idxT_before {l : List Tx} {z : Tx} {k : Nat} {x : Tx} (hk : k < idxT l z) (hx : l[k]? = some x) : ¬ place x z = 0 := by
  have := List.not_of_lt_findIdx hk
  obtain ⟨h1, h2⟩ := List.getElem?_eq_some_iff.1 hx
  rw [h2] at this
  simpa using this
theorem be_get : ∀ (k n j : Nat), j < k → (be k n)[j]? = some (UInt8.ofNat (n / 256 ^ (k - 1 - j) % 256))
  | 0, _, _, h => absurd h (Nat.not_lt_zero _)
  | k + 1, n, 0, _ => by
    rw [be]
    simp
  | k + 1, n, j + 1, h => by
    rw [be, List.getElem?_cons_succ, be_get k n j (by omega)]
    rw [show k + 1 - 1 - (j + 1) = k - 1 - j from by omega]
/-- What addP makes of the parts. -/
theorem addP_less {most : Nat} {l : List Tx} {t : Tx} (h : (withT l t).1.length ≤ most) : addP most l t = ((withT l t).1, (withT l t).2, 0) := by unfold addP; rw [if_pos h]
theorem addP_self {most : Nat} {l : List Tx} {t z : Tx} (h : ¬ (withT l t).1.length ≤ most) (hz : worst (withT l t).1 = some z) (he : place z t = 0) : addP most l t = (l, [], 7) := by
  unfold addP
  rw [if_neg h, hz]
  simp only
  rw [if_pos he]
theorem addP_more {most : Nat} {l : List Tx} {t z : Tx} (h : ¬ (withT l t).1.length ≤ most) (hz : worst (withT l t).1 = some z) (he : ¬ place z t = 0) : addP most l t = ((withT l t).1.filter (fun u => decide (¬ place u z = 0)), (withT l t).2 ++ [z], 0) := by
  unfold addP
  rw [if_neg h, hz]
  simp only
  rw [if_neg he]
end Go.Proofs.Ytkdckcjnjljdmaa.Po
