/- Plain arithmetic of ledgers: lists of entries by rising addresses; what is set, added, taken, moved, counted; sums. No program in sight. -/
import Derived.Test.YtkdckcjnjljdmaaCAdP
namespace Go.Proofs.Ytkdckcjnjljdmaa.Ac
open Go Ad

/-- An entry: an address, its balance, its nonce. -/
structure Ent where
  (a : A8) (b n : Nat)
  deriving DecidableEq

abbrev M64 : Nat := 18446744073709551616

/-- A ledger's list: rising, nothing zero, each in its bounds. -/
structure Ok (L : List Ent) : Prop where
  rise : L.Pairwise (fun x y => x.a.num < y.a.num)
  fit : ∀ e ∈ L, (e.b ≠ 0 ∨ e.n ≠ 0) ∧ e.b < M64 ∧ e.n < M64

def get (L : List Ent) (a : A8) : Nat × Nat := match L.find? (fun e => decide (e.a = a)) with | some e => (e.b, e.n) | none => (0, 0)

/-- The loop that sets an entry: d: it has been put, or is not to be. -/
def putGo (x : Ent) : Bool → List Ent → List Ent
  | d, [] => if d then [] else [x]
  | d, y :: r => (if !d && decide (x.a.num < y.a.num) then [x] else []) ++ (if y.a ≠ x.a then [y] else []) ++ putGo x (d || decide (x.a.num < y.a.num)) r
def zero (x : Ent) : Bool := decide (x.b = 0) && decide (x.n = 0)
def put (x : Ent) (L : List Ent) : List Ent := putGo x (zero x) L
def strikeE (a : A8) (L : List Ent) : List Ent := L.filter fun e => decide (e.a ≠ a)

theorem putGo_true (x : Ent) : ∀ L, putGo x true L = strikeE x.a L
  | [] => rfl
  | y :: r => by
    rw [putGo, Bool.true_or, putGo_true x r]
    by_cases h : y.a = x.a <;> simp [strikeE, h]

theorem perm_putGo (x : Ent) : ∀ L, (putGo x false L).Perm (x :: strikeE x.a L)
  | [] => by simp [putGo, strikeE]
  | y :: r => by
    rw [putGo]
    by_cases h : x.a.num < y.a.num
    · have hne : y.a ≠ x.a := fun e => by rw [e] at h; omega
      simp [h, hne, putGo_true, strikeE]
    · simp only [h, decide_false, Bool.and_false, Bool.false_or, List.nil_append, Bool.false_eq_true, if_false]
      by_cases hne : y.a = x.a
      · simpa [hne, strikeE] using perm_putGo x r
      · have := (perm_putGo x r).cons y
        simp only [ne_eq, hne, not_false_eq_true, if_true, List.singleton_append]
        refine this.trans ?_
        have e1 : strikeE x.a (y :: r) = y :: strikeE x.a r := by simp [strikeE, hne]
        rw [e1]
        exact List.Perm.swap x y _

theorem perm_put (x : Ent) (L : List Ent) (h : zero x = false) : (put x L).Perm (x :: strikeE x.a L) := by unfold put; rw [h]; exact perm_putGo x L
theorem put_zero (x : Ent) (L : List Ent) (h : zero x = true) : put x L = strikeE x.a L := by unfold put; rw [h]; exact putGo_true x L

theorem rise_putGo (x : Ent) : ∀ (L : List Ent), L.Pairwise (fun x y => x.a.num < y.a.num) → (putGo x false L).Pairwise (fun x y => x.a.num < y.a.num)
  | [], _ => by simp [putGo]
  | y :: r, h => by
    obtain ⟨h1, h2⟩ := List.pairwise_cons.1 h
    rw [putGo]
    by_cases hlt : x.a.num < y.a.num
    · have hne : y.a ≠ x.a := fun e => by rw [e] at hlt; omega
      simp only [hlt, decide_true, Bool.not_false, Bool.and_self, if_true, ne_eq, hne, not_false_eq_true, Bool.or_true, putGo_true, List.cons_append, List.nil_append]
      have hs : (strikeE x.a r).Pairwise (fun x y => x.a.num < y.a.num) := h2.filter _
      have hm : ∀ z ∈ strikeE x.a r, y.a.num < z.a.num := fun z hz => h1 z (List.mem_filter.1 hz).1
      refine List.pairwise_cons.2 ⟨fun z hz => ?_, List.pairwise_cons.2 ⟨hm, hs⟩⟩
      rcases List.mem_cons.1 hz with rfl | hz
      · exact hlt
      · have := hm z hz; omega
    · simp only [hlt, decide_false, Bool.and_false, Bool.false_or, List.nil_append, Bool.false_eq_true, if_false]
      by_cases hne : y.a = x.a
      · simpa [hne] using rise_putGo x r h2
      · simp only [ne_eq, hne, not_false_eq_true, if_true, List.singleton_append]
        refine List.pairwise_cons.2 ⟨fun z hz => ?_, rise_putGo x r h2⟩
        have hz' := (perm_putGo x r).mem_iff.1 hz
        rcases List.mem_cons.1 hz' with rfl | hz'
        · have : y.a.num ≠ z.a.num := fun e => hne (A8.ext_num e)
          omega
        · exact h1 z (List.mem_filter.1 hz').1

theorem rise_put (x : Ent) {L : List Ent} (h : L.Pairwise (fun x y => x.a.num < y.a.num)) : (put x L).Pairwise (fun x y => x.a.num < y.a.num) := by
  by_cases hz : zero x = true
  · rw [put_zero x L hz]; exact h.filter _
  · unfold put
    rw [Bool.eq_false_iff.2 hz]
    exact rise_putGo x L h

theorem mem_put {x e : Ent} {L : List Ent} : e ∈ put x L ↔ (e ∈ L ∧ e.a ≠ x.a) ∨ (e = x ∧ zero x = false) := by
  by_cases hz : zero x = true
  · rw [put_zero x L hz]; simp [strikeE, hz]
  · rw [Bool.not_eq_true] at hz
    rw [(perm_put x L hz).mem_iff]
    simp [strikeE, hz, or_comm]

theorem Ok.put {x : Ent} {L : List Ent} (h : Ok L) (hb : x.b < M64) (hn : x.n < M64) : Ok (put x L) :=
  ⟨rise_put x h.rise, fun e he => by
    rcases mem_put.1 he with ⟨h1, _⟩ | ⟨rfl, hz⟩
    · exact h.fit e h1
    · refine ⟨?_, hb, hn⟩
      simp only [zero, Bool.and_eq_false_iff, decide_eq_false_iff_not] at hz
      exact hz⟩
theorem Ok.nil : Ok [] := ⟨List.Pairwise.nil, by simp⟩

theorem nodup_of_rise {L : List Ent} (h : L.Pairwise (fun x y => x.a.num < y.a.num)) : (L.map (·.a)).Nodup :=
  List.pairwise_map.2 (h.imp (fun {x y} hlt e => by rw [e] at hlt; omega))

theorem get_mem {L : List Ent} (h : L.Pairwise (fun x y => x.a.num < y.a.num)) {e : Ent} (he : e ∈ L) : get L e.a = (e.b, e.n) := by
  unfold get
  cases hf : L.find? (fun x => decide (x.a = e.a)) with
  | none => have := List.find?_eq_none.1 hf e he; simp at this
  | some y =>
    have h1 := List.mem_of_find?_eq_some hf
    have h2 := List.find?_some hf
    simp only [decide_eq_true_eq] at h2
    have : y = e := by
      by_cases hye : y = e
      · exact hye
      · exfalso
        have hnd := nodup_of_rise h
        obtain ⟨i, hi, e1⟩ := List.getElem_of_mem h1
        obtain ⟨j, hj, e2⟩ := List.getElem_of_mem he
        have := h2
        rw [← e1, ← e2] at this
        rcases Nat.lt_trichotomy i j with hij | hij | hij
        · have := List.pairwise_iff_getElem.1 h i j hi hj hij; simp_all
        · subst hij; exact hye (e1.symm.trans e2)
        · have := List.pairwise_iff_getElem.1 h j i hj hi hij; simp_all
    rw [this]
theorem get_none {L : List Ent} {a : A8} (h : ∀ e ∈ L, e.a ≠ a) : get L a = (0, 0) := by
  unfold get
  rw [List.find?_eq_none.2 (fun e he => by simpa using h e he)]
theorem get_cases (L : List Ent) (a : A8) : (∃ e ∈ L, e.a = a ∧ get L a = (e.b, e.n)) ∨ ((∀ e ∈ L, e.a ≠ a) ∧ get L a = (0, 0)) := by
  cases hf : L.find? (fun x => decide (x.a = a)) with
  | none => exact Or.inr ⟨fun e he => by simpa using List.find?_eq_none.1 hf e he, by unfold get; rw [hf]⟩
  | some y => exact Or.inl ⟨y, List.mem_of_find?_eq_some hf, by simpa using List.find?_some hf, by unfold get; rw [hf]⟩
theorem get_lt {L : List Ent} (h : Ok L) (a : A8) : (get L a).1 < M64 ∧ (get L a).2 < M64 := by
  rcases get_cases L a with ⟨e, he, rfl, hg⟩ | ⟨_, hg⟩
  · rw [hg]; exact (h.fit e he).2
  · rw [hg]; decide

theorem get_put {x : Ent} {L : List Ent} (h : Ok L) (a : A8) : get (put x L) a = if a = x.a then (x.b, x.n) else get L a := by
  have hr := rise_put x h.rise
  by_cases hax : a = x.a
  · rw [if_pos hax]
    by_cases hz : zero x = true
    · have e0 : x.b = 0 ∧ x.n = 0 := by simpa [zero] using hz
      rw [e0.1, e0.2]
      refine get_none (fun e he => ?_)
      rcases mem_put.1 he with ⟨_, h2⟩ | ⟨_, h2⟩
      · rw [hax]; exact h2
      · rw [hz] at h2; cases h2
    · rw [Bool.not_eq_true] at hz
      rw [hax]
      exact get_mem hr (mem_put.2 (Or.inr ⟨rfl, hz⟩))
  · rw [if_neg hax]
    rcases get_cases L a with ⟨e, he, rfl, hg⟩ | ⟨hn, hg⟩
    · rw [hg]; exact get_mem hr (mem_put.2 (Or.inl ⟨he, hax⟩))
    · rw [hg]
      refine get_none (fun e he => ?_)
      rcases mem_put.1 he with ⟨h1, _⟩ | ⟨rfl, _⟩
      · exact hn e h1
      · exact fun e => hax e.symm

theorem eq_of_rise : ∀ {L L' : List Ent}, L.Pairwise (fun x y => x.a.num < y.a.num) → L'.Pairwise (fun x y => x.a.num < y.a.num) → (∀ e, e ∈ L ↔ e ∈ L') → L = L'
  | [], [], _, _, _ => rfl
  | [], b :: s, _, _, h => by have := (h b).2 (by simp); simp at this
  | a :: r, [], _, _, h => by have := (h a).1 (by simp); simp at this
  | a :: r, b :: s, h1, h2, h => by
    obtain ⟨a1, a2⟩ := List.pairwise_cons.1 h1
    obtain ⟨b1, b2⟩ := List.pairwise_cons.1 h2
    have hab : a = b := by
      rcases List.mem_cons.1 ((h a).1 (by simp)) with e | ha
      · exact e
      · rcases List.mem_cons.1 ((h b).2 (by simp)) with e | hb
        · exact e.symm
        · have := a1 b hb; have := b1 a ha; omega
    subst hab
    rw [eq_of_rise a2 b2 (fun p => ⟨fun hp => by
      rcases List.mem_cons.1 ((h p).1 (by simp [hp])) with e | hp'
      · have := a1 p hp; rw [e] at this; omega
      · exact hp', fun hp => by
      rcases List.mem_cons.1 ((h p).2 (by simp [hp])) with e | hp'
      · have := b1 p hp; rw [e] at this; omega
      · exact hp'⟩)]

/-- TWO LEDGERS WITH THE SAME ANSWERS ARE ONE. -/
theorem ext {L L' : List Ent} (h : Ok L) (h' : Ok L') (hg : ∀ a, get L a = get L' a) : L = L' := by
  have half : ∀ {L L' : List Ent}, Ok L → Ok L' → (∀ a, get L a = get L' a) → ∀ e, e ∈ L → e ∈ L' := by
    intro L L' h h' hg e he
    have g1 := get_mem h.rise he
    rw [hg] at g1
    rcases get_cases L' e.a with ⟨y, hy, hya, g2⟩ | ⟨_, g2⟩
    · rw [g2] at g1
      simp only [Prod.mk.injEq] at g1
      have : y = e := by cases y; cases e; simp_all
      exact this ▸ hy
    · rw [g2] at g1
      simp only [Prod.mk.injEq] at g1
      have := (h.fit e he).1
      omega
  exact eq_of_rise h.rise h'.rise (fun e => ⟨half h h' hg e, half h' h (fun a => (hg a).symm) e⟩)

/-! ### the calls -/
def addE (L : List Ent) (a : A8) (n : Nat) : Int × List Ent := if M64 ≤ (get L a).1 + n then (211, L) else (0, put ⟨a, (get L a).1 + n, (get L a).2⟩ L)
def subE (L : List Ent) (a : A8) (n : Nat) : Int × List Ent := if (get L a).1 < n then (210, L) else (0, put ⟨a, (get L a).1 - n, (get L a).2⟩ L)
def moveE (L : List Ent) (f t : A8) (n : Nat) : Int × List Ent :=
  if (subE L f n).1 = 0 then
    if (addE (subE L f n).2 t n).1 = 0 then (0, (addE (subE L f n).2 t n).2) else ((addE (subE L f n).2 t n).1, (addE (subE L f n).2 f n).2)
  else ((subE L f n).1, L)
def moveR (L : List Ent) (f t : A8) (n : Nat) : Int × List Ent :=
  if (get L f).1 < n then (210, L) else if f = t then (0, L) else
    if (addE L t n).1 = 0 then (0, (subE (addE L t n).2 f n).2) else ((addE L t n).1, L)
def bumpE (L : List Ent) (a : A8) : Int × List Ent := if (get L a).2 = 18446744073709551615 then (211, L) else (0, put ⟨a, (get L a).1, (get L a).2 + 1⟩ L)
def totGo : Nat → List Ent → Nat × Bool
  | s, [] => (s, true)
  | s, e :: r => if M64 ≤ s + e.b then (0, false) else totGo (s + e.b) r
def tot (L : List Ent) : Nat × Bool := totGo 0 L

theorem addE_ok {L : List Ent} (h : Ok L) (a : A8) {n : Nat} : Ok (addE L a n).2 := by
  unfold addE
  split
  · exact h
  · exact h.put (by simp only []; omega) (get_lt h a).2
theorem subE_ok {L : List Ent} (h : Ok L) (a : A8) {n : Nat} : Ok (subE L a n).2 := by
  unfold subE
  split
  · exact h
  · exact h.put (by have := (get_lt h a).1; simp only []; omega) (get_lt h a).2
theorem bumpE_ok {L : List Ent} (h : Ok L) (a : A8) : Ok (bumpE L a).2 := by
  unfold bumpE
  split
  · exact h
  · exact h.put (get_lt h a).1 (by have := (get_lt h a).2; unfold M64 at *; simp only []; omega)

theorem put_same {L : List Ent} (h : Ok L) (a : A8) : put ⟨a, (get L a).1, (get L a).2⟩ L = L := by
  refine ext (h.put (get_lt h a).1 (get_lt h a).2) h (fun c => ?_)
  rw [get_put h]
  split
  · rename_i e; rw [e]
  · rfl
theorem addE_back {L : List Ent} (h : Ok L) (a : A8) {n : Nat} (hs : (subE L a n).1 = 0) : addE (subE L a n).2 a n = (0, L) := by
  have hlt := get_lt h a
  have hn : ¬ (get L a).1 < n := fun hc => by unfold subE at hs; rw [if_pos hc] at hs; cases hs
  have e1 : (subE L a n).2 = put ⟨a, (get L a).1 - n, (get L a).2⟩ L := by unfold subE; rw [if_neg hn]
  have ho : Ok (put ⟨a, (get L a).1 - n, (get L a).2⟩ L) := h.put (by simp only []; omega) hlt.2
  rw [e1]
  unfold addE
  have e2 : get (put ⟨a, (get L a).1 - n, (get L a).2⟩ L) a = ((get L a).1 - n, (get L a).2) := by rw [get_put h]; simp
  rw [e2]
  rw [if_neg (by simp only []; omega)]
  have e3 : (get L a).1 - n + n = (get L a).1 := by omega
  simp only [e3]
  congr 1
  refine ext (ho.put hlt.1 hlt.2) h (fun c => ?_)
  rw [get_put ho, get_put h]
  simp only []
  by_cases hc : c = a
  · simp [hc]
  · simp [hc]

/-- TWO WAYS TO MOVE. -/
theorem move_eq {L : List Ent} (h : Ok L) (f t : A8) (n : Nat) : moveE L f t n = moveR L f t n := by
  have hf := get_lt h f
  have ht := get_lt h t
  unfold moveE moveR
  by_cases hlt : (get L f).1 < n
  · have e1 : subE L f n = (210, L) := by unfold subE; rw [if_pos hlt]
    rw [e1, if_neg (by simp), if_pos hlt]
  · have e1 : subE L f n = (0, put ⟨f, (get L f).1 - n, (get L f).2⟩ L) := by unfold subE; rw [if_neg hlt]
    have hs0 : (subE L f n).1 = 0 := by rw [e1]
    have ho1 : Ok (put ⟨f, (get L f).1 - n, (get L f).2⟩ L) := h.put (by simp only []; omega) hf.2
    rw [if_pos hs0, if_neg hlt]
    by_cases hft : f = t
    · subst hft
      rw [if_pos rfl, addE_back h f hs0]
      simp
    · rw [if_neg hft]
      have g1 : get (put ⟨f, (get L f).1 - n, (get L f).2⟩ L) t = get L t := by rw [get_put h, if_neg (fun e => hft e.symm)]
      by_cases ho : M64 ≤ (get L t).1 + n
      · have e2 : addE (subE L f n).2 t n = (211, (subE L f n).2) := by unfold addE; rw [e1]; simp only []; rw [g1, if_pos ho]
        have e3 : addE L t n = (211, L) := by unfold addE; rw [if_pos ho]
        rw [e2, e3, addE_back h f hs0]
      · have e2 : addE (subE L f n).2 t n = (0, put ⟨t, (get L t).1 + n, (get L t).2⟩ (put ⟨f, (get L f).1 - n, (get L f).2⟩ L)) := by unfold addE; rw [e1]; simp only []; rw [g1, if_neg ho]
        have e3 : addE L t n = (0, put ⟨t, (get L t).1 + n, (get L t).2⟩ L) := by unfold addE; rw [if_neg ho]
        have ho2 : Ok (put ⟨t, (get L t).1 + n, (get L t).2⟩ L) := h.put (by simp only []; omega) ht.2
        have g2 : get (put ⟨t, (get L t).1 + n, (get L t).2⟩ L) f = get L f := by rw [get_put h, if_neg hft]
        have e4 : subE (put ⟨t, (get L t).1 + n, (get L t).2⟩ L) f n = (0, put ⟨f, (get L f).1 - n, (get L f).2⟩ (put ⟨t, (get L t).1 + n, (get L t).2⟩ L)) := by unfold subE; rw [g2, if_neg hlt]
        rw [e2, e3]
        simp only [if_true, e4]
        congr 1
        refine ext (ho1.put (by simp only []; omega) ht.2) (ho2.put (by simp only []; omega) hf.2) (fun c => ?_)
        rw [get_put ho1, get_put h, get_put ho2, get_put h]
        simp only []
        by_cases c1 : c = t
        · subst c1; simp [Ne.symm hft]
        · simp [c1]

theorem moveE_ok {L : List Ent} (h : Ok L) (f t : A8) (n : Nat) : Ok (moveE L f t n).2 := by
  unfold moveE
  split
  · split
    · exact addE_ok (subE_ok h f) t
    · exact addE_ok (subE_ok h f) f
  · exact h

/-! ### sums -/
def sumB (L : List Ent) : Nat := (L.map (·.b)).sum
theorem totGo_eq : ∀ (L : List Ent) (s : Nat), s < M64 → totGo s L = if s + sumB L < M64 then (s + sumB L, true) else (0, false)
  | [], s, h => by simp [totGo, sumB, h]
  | e :: r, s, h => by
    rw [totGo]
    have e1 : sumB (e :: r) = e.b + sumB r := by simp [sumB]
    rw [e1]
    by_cases hc : M64 ≤ s + e.b
    · rw [if_pos hc, if_neg (by omega)]
    · rw [if_neg hc, totGo_eq r (s + e.b) (by omega), Nat.add_assoc]
theorem tot_eq (L : List Ent) : tot L = if sumB L < M64 then (sumB L, true) else (0, false) := by
  unfold tot
  rw [totGo_eq L 0 (by decide), Nat.zero_add]

theorem sumB_perm {L L' : List Ent} (h : L.Perm L') : sumB L = sumB L' := (h.map _).sum_nat
theorem sumB_strike {L : List Ent} (h : L.Pairwise (fun x y => x.a.num < y.a.num)) (a : A8) : sumB L = (get L a).1 + sumB (strikeE a L) := by
  rcases get_cases L a with ⟨e, he, rfl, hg⟩ | ⟨hn, hg⟩
  · rw [hg]
    have hp : L.Perm (e :: strikeE e.a L) := by
      have hnd : L.Nodup := h.imp (fun {x y} hlt e => by rw [e] at hlt; omega)
      have hnd2 : (e :: strikeE e.a L).Nodup := List.nodup_cons.2 ⟨by simp [strikeE], hnd.filter _⟩
      refine (List.perm_ext_iff_of_nodup hnd hnd2).2 (fun x => ?_)
      simp only [List.mem_cons, strikeE, List.mem_filter, ne_eq, decide_not, Bool.not_eq_eq_eq_not, Bool.not_true, decide_eq_false_iff_not]
      constructor
      · intro hx
        by_cases hxe : x.a = e.a
        · left
          have g1 := get_mem h hx
          rw [hxe, hg] at g1
          simp only [Prod.mk.injEq] at g1
          cases x; cases e; simp_all
        · exact Or.inr ⟨hx, hxe⟩
      · rintro (rfl | ⟨hx, _⟩)
        · exact he
        · exact hx
    rw [sumB_perm hp]
    simp [sumB]
  · rw [hg]
    have : strikeE a L = L := List.filter_eq_self.2 (fun e he => by simpa using hn e he)
    rw [this]; simp
theorem sumB_put {L : List Ent} (h : Ok L) (x : Ent) : sumB (put x L) + (get L x.a).1 = sumB L + x.b := by
  have h1 := sumB_strike h.rise x.a
  by_cases hz : zero x = true
  · have e0 : x.b = 0 ∧ x.n = 0 := by simpa [zero] using hz
    rw [put_zero x L hz, e0.1]
    omega
  · rw [Bool.not_eq_true] at hz
    rw [sumB_perm (perm_put x L hz)]
    have : sumB (x :: strikeE x.a L) = x.b + sumB (strikeE x.a L) := by simp [sumB]
    omega
theorem get_le_sum {L : List Ent} (h : Ok L) (a : A8) : (get L a).1 ≤ sumB L := by have := sumB_strike h.rise a; omega

theorem sumB_add {L : List Ent} (h : Ok L) (a : A8) {n : Nat} (hs : (addE L a n).1 = 0) : sumB (addE L a n).2 = sumB L + n := by
  unfold addE at hs ⊢
  split at hs
  · cases hs
  · rename_i hc
    rw [if_neg hc]
    have := sumB_put h ⟨a, (get L a).1 + n, (get L a).2⟩
    simp only [] at this ⊢
    omega
theorem sumB_sub {L : List Ent} (h : Ok L) (a : A8) {n : Nat} (hs : (subE L a n).1 = 0) : sumB (subE L a n).2 + n = sumB L := by
  unfold subE at hs ⊢
  split at hs
  · cases hs
  · rename_i hc
    rw [if_neg hc]
    have h1 := sumB_put h ⟨a, (get L a).1 - n, (get L a).2⟩
    have h2 := get_le_sum h a
    simp only [] at h1 h2 ⊢
    omega

/-- WHAT IS MOVED CHANGES NO SUM. -/
theorem sumB_move {L : List Ent} (h : Ok L) (f t : A8) (n : Nat) : sumB (moveE L f t n).2 = sumB L := by
  unfold moveE
  split
  · rename_i h1
    have s1 := sumB_sub h f h1
    split
    · rename_i h2
      have := sumB_add (subE_ok h f) t h2
      simp only [] at *
      omega
    · rw [addE_back h f h1]
  · rfl
theorem tot_move {L : List Ent} (h : Ok L) (f t : A8) (n : Nat) : tot (moveE L f t n).2 = tot L := by
  rw [tot_eq, tot_eq, sumB_move h]

/-- WHAT A MOVE DOES, in one's own words. -/
theorem move_cases {L : List Ent} (h : Ok L) (f t : A8) (n : Nat) :
    ((moveE L f t n).1 = 0 ∧ f = t ∧ n ≤ (get L f).1 ∧ get (moveE L f t n).2 f = get L f) ∨
    ((moveE L f t n).1 = 0 ∧ f ≠ t ∧ n ≤ (get L f).1 ∧ (get L t).1 + n < M64 ∧ (get (moveE L f t n).2 f).1 = (get L f).1 - n ∧ (get (moveE L f t n).2 t).1 = (get L t).1 + n) ∨
    ((moveE L f t n).1 = 210 ∧ (get L f).1 < n ∧ (moveE L f t n).2 = L) ∨
    ((moveE L f t n).1 = 211 ∧ n ≤ (get L f).1 ∧ (moveE L f t n).2 = L ∧ ¬ sumB L < M64) := by
  rw [move_eq h]
  unfold moveR
  by_cases h1 : (get L f).1 < n
  · rw [if_pos h1]; exact Or.inr (Or.inr (Or.inl ⟨rfl, h1, rfl⟩))
  · rw [if_neg h1]
    by_cases h2 : f = t
    · rw [if_pos h2]; exact Or.inl ⟨rfl, h2, by omega, rfl⟩
    · rw [if_neg h2]
      by_cases h3 : M64 ≤ (get L t).1 + n
      · have e3 : addE L t n = (211, L) := by unfold addE; rw [if_pos h3]
        rw [e3, if_neg (by simp)]
        refine Or.inr (Or.inr (Or.inr ⟨rfl, by omega, rfl, ?_⟩))
        have s1 := sumB_strike h.rise f
        have s2 : (get L t).1 ≤ sumB (strikeE f L) := by
          rcases get_cases L t with ⟨e, he, rfl, hg⟩ | ⟨_, hg⟩
          · have hm : e ∈ strikeE f L := List.mem_filter.2 ⟨he, by simpa using fun e => h2 e.symm⟩
            have hr : (strikeE f L).Pairwise (fun x y => x.a.num < y.a.num) := h.rise.filter _
            have := sumB_strike hr e.a
            rw [get_mem hr hm] at this
            rw [hg]
            simp only [] at this ⊢
            omega
          · rw [hg]; simp
        omega
      · have e3 : addE L t n = (0, put ⟨t, (get L t).1 + n, (get L t).2⟩ L) := by unfold addE; rw [if_neg h3]
        rw [e3]
        simp only [if_true]
        have ht := get_lt h t
        have ho2 : Ok (put ⟨t, (get L t).1 + n, (get L t).2⟩ L) := h.put (by simp only []; omega) ht.2
        have g2 : get (put ⟨t, (get L t).1 + n, (get L t).2⟩ L) f = get L f := by rw [get_put h, if_neg h2]
        have e4 : subE (put ⟨t, (get L t).1 + n, (get L t).2⟩ L) f n = (0, put ⟨f, (get L f).1 - n, (get L f).2⟩ (put ⟨t, (get L t).1 + n, (get L t).2⟩ L)) := by unfold subE; rw [g2, if_neg h1]
        rw [e4]
        refine Or.inr (Or.inl ⟨trivial, h2, by omega, by omega, ?_, ?_⟩)
        · rw [get_put ho2]; simp
        · rw [get_put ho2, if_neg (fun e => h2 e.symm), get_put h]; simp
end Go.Proofs.Ytkdckcjnjljdmaa.Ac
