/- Graph: the groups, plain: each function once, rising; two are in one just if they reach one another. -/
import Derived.Test.YtjafmclladiblaaHe
namespace Go.Proofs.Ytjafmclladiblaa.Gr
open Go Go.RowKit Go.Lib Kt Fm

theorem nodup_le : ∀ {a b : List Nat}, a.Nodup → (∀ x ∈ a, x ∈ b) → a.length ≤ b.length
  | [], _, _, _ => Nat.zero_le _
  | x :: r, b, hn, hs => by
    obtain ⟨h1, h2⟩ := List.nodup_cons.1 hn
    have hx := hs x (List.mem_cons_self ..)
    have := nodup_le (b := b.erase x) h2 (fun y hy => (List.mem_erase_of_ne (fun e => by subst e; exact h1 hy)).2 (hs y (List.mem_cons_of_mem _ hy)))
    rw [List.length_erase_of_mem hx] at this
    have hp := List.length_pos_of_mem hx
    rw [List.length_cons]
    omega
theorem nodup_of_sorted {l : List Nat} (h : l.Pairwise (· < ·)) : l.Nodup := h.imp (fun h e => by omega)
section
variable {m : Mod}
/-- The functions that stand first in a group. -/
noncomputable def reps (m : Mod) : List Nat := (List.range (cnt m)).filter fun f => !old m f f
theorem grps_eq (m : Mod) : grps m (cnt m) = (reps m).map (grp m) := rfl
theorem reps_sorted (m : Mod) : (reps m).Pairwise (· < ·) := sorted_range _ _
theorem mem_reps {f : Nat} : f ∈ reps m ↔ f < cnt m ∧ old m f f = false := by simp [reps]
/-- One function, or two that reach one another. -/
def Sam (m : Mod) (f h : Nat) : Prop := f = h ∨ both m f h = true
theorem Sam.symm {f h : Nat} (a : Sam m f h) : Sam m h f := a.elim (fun e => Or.inl e.symm) (fun e => Or.inr (both_symm e))
theorem Sam.trans {f g h : Nat} (a : Sam m f g) (b : Sam m g h) : Sam m f h := by
  rcases a with rfl | a
  · exact b
  · rcases b with rfl | b
    · exact Or.inr a
    · exact Or.inr (both_trans a b)
theorem mem_grp {f h : Nat} : h ∈ grp m f ↔ h = f ∨ (h < cnt m ∧ f < h ∧ both m f h = true) := by
  unfold grp
  simp [List.mem_filter]
theorem grp_sam {f h : Nat} (hm : h ∈ grp m f) : Sam m f h := by
  rcases mem_grp.1 hm with rfl | ⟨_, _, e⟩
  · exact Or.inl rfl
  · exact Or.inr e
theorem grp_sorted (m : Mod) (f : Nat) : (grp m f).Pairwise (· < ·) := by
  unfold grp
  refine List.pairwise_cons.2 ⟨fun h hh => ?_, sorted_range _ _⟩
  have := (List.mem_filter.1 hh).2
  simp at this
  exact this.1
theorem reps_uniq {f h : Nat} (hf : f ∈ reps m) (hh : h ∈ reps m) (s : Sam m f h) : f = h := by
  rcases s with e | e
  · exact e
  · refine Classical.byContradiction fun hne => ?_
    rcases Nat.lt_or_gt_of_ne hne with hlt | hlt
    · have := old_iff.2 ⟨f, hlt, hlt, e⟩
      rw [(mem_reps.1 hh).2] at this
      cases this
    · have := old_iff.2 ⟨h, hlt, hlt, both_symm e⟩
      rw [(mem_reps.1 hf).2] at this
      cases this
theorem has_rep {f : Nat} (hf : f < cnt m) : ∃ r, r ∈ reps m ∧ r ≤ f ∧ Sam m r f := by
  induction f using Nat.strongRecOn with
  | _ f ih =>
    cases ho : old m f f with
    | false => exact ⟨f, mem_reps.2 ⟨hf, ho⟩, Nat.le_refl _, Or.inl rfl⟩
    | true =>
      obtain ⟨g, hg, _, e⟩ := old_iff.1 ho
      obtain ⟨r, hr, hle, hs⟩ := ih g hg (by omega)
      exact ⟨r, hr, by omega, hs.trans (Or.inr e)⟩
theorem mem_grp_of {r f : Nat} (hf : f < cnt m) (hle : r ≤ f) (s : Sam m r f) : f ∈ grp m r := by
  rcases s with e | e
  · exact mem_grp.2 (Or.inl e.symm)
  · by_cases h : f = r
    · exact mem_grp.2 (Or.inl h)
    · exact mem_grp.2 (Or.inr ⟨hf, by omega, e⟩)
theorem grp_lt {r f : Nat} (hr : r ∈ reps m) (hf : f ∈ grp m r) : f < cnt m := by
  rcases mem_grp.1 hf with rfl | ⟨h, _⟩
  · exact (mem_reps.1 hr).1
  · exact h
/-- What the groups are, all together. -/
structure Groups (m : Mod) (GS : List (List Nat)) : Prop where
  ne : ∀ (j : Nat) (g : List Nat), GS[j]? = some g → ∃ r, g.head? = some r
  rise : ∀ (j : Nat) (g g' : List Nat) (r r' : Nat), GS[j]? = some g → GS[j + 1]? = some g' → g.head? = some r → g'.head? = some r' → r < r'
  sorted : ∀ g ∈ GS, g.Pairwise (· < ·)
  lt : ∀ g ∈ GS, ∀ f ∈ g, f < cnt m
  apart : ∀ (j j' : Nat) (g g' : List Nat) (f h : Nat), GS[j]? = some g → GS[j']? = some g' → f ∈ g → h ∈ g' → (j = j' ↔ Sam m f h)
  all : ∀ f, f < cnt m → ∃ (j : Nat) (g : List Nat), GS[j]? = some g ∧ f ∈ g
theorem groups_plain (m : Mod) : Groups m (grps m (cnt m)) := by
  rw [grps_eq]
  have at_ : ∀ (j : Nat) (g : List Nat), ((reps m).map (grp m))[j]? = some g → ∃ r, (reps m)[j]? = some r ∧ g = grp m r := fun j g h => by
    rw [List.getElem?_map] at h
    cases hr : (reps m)[j]? with
    | none => rw [hr] at h; cases h
    | some r => rw [hr] at h; exact ⟨r, rfl, (Option.some.inj h).symm⟩
  refine ⟨fun j g h => ?_, fun j g g' r r' h h' e e' => ?_, fun g hg => ?_, fun g hg f hf => ?_, fun j j' g g' f h hj hj' hf hh => ?_, fun f hf => ?_⟩
  · obtain ⟨r, _, rfl⟩ := at_ j g h
    exact ⟨r, rfl⟩
  · obtain ⟨x, hx, rfl⟩ := at_ j g h
    obtain ⟨y, hy, rfl⟩ := at_ _ g' h'
    obtain rfl : x = r := Option.some.inj e
    obtain rfl : y = r' := Option.some.inj e'
    have h1 := List.getElem?_eq_some_iff.1 hx
    have h2 := List.getElem?_eq_some_iff.1 hy
    have := List.pairwise_iff_getElem.1 (reps_sorted m) j (j + 1) h1.1 h2.1 (by omega)
    rw [h1.2, h2.2] at this
    exact this
  · obtain ⟨r, _, rfl⟩ := List.mem_map.1 hg
    exact grp_sorted m r
  · obtain ⟨r, hr, rfl⟩ := List.mem_map.1 hg
    exact grp_lt hr hf
  · obtain ⟨x, hx, rfl⟩ := at_ j g hj
    obtain ⟨y, hy, rfl⟩ := at_ j' g' hj'
    have mx := List.mem_of_getElem? hx
    have my := List.mem_of_getElem? hy
    constructor
    · rintro rfl
      rw [hx] at hy
      obtain rfl := Option.some.inj hy
      exact (grp_sam hf).symm.trans (grp_sam hh)
    · intro s
      have hxy : x = y := reps_uniq mx my ((grp_sam hf).trans (s.trans (grp_sam hh).symm))
      subst hxy
      have h1 := List.getElem?_eq_some_iff.1 hx
      have h2 := List.getElem?_eq_some_iff.1 hy
      refine Classical.byContradiction fun hne => ?_
      rcases Nat.lt_or_gt_of_ne hne with hlt | hlt
      · have := List.pairwise_iff_getElem.1 (reps_sorted m) j j' h1.1 h2.1 hlt
        rw [h1.2, h2.2] at this
        omega
      · have := List.pairwise_iff_getElem.1 (reps_sorted m) j' j h2.1 h1.1 hlt
        rw [h1.2, h2.2] at this
        omega
  · obtain ⟨r, hr, hle, hs⟩ := has_rep hf
    obtain ⟨j, hj, e⟩ := List.getElem_of_mem hr
    exact ⟨j, grp m r, by rw [List.getElem?_map, List.getElem?_eq_getElem hj, e]; rfl, mem_grp_of hf hle hs⟩
theorem Groups.total {GS : List (List Nat)} (h : Groups m GS) : GS.flatten.length = cnt m := by
  have hnd : GS.flatten.Nodup := by
    have : ∀ (L : List (List Nat)) (k : Nat), (∀ j g, L[j]? = some g → GS[k + j]? = some g) → L.flatten.Nodup := by
      intro L
      induction L with
      | nil => intro _ _; exact List.nodup_nil
      | cons g r ih =>
        intro k hk
        rw [List.flatten_cons]
        refine List.nodup_append.2 ⟨nodup_of_sorted (h.sorted g (List.mem_of_getElem? (hk 0 g rfl))), ih (k + 1) (fun j g' hj => by have := hk (j + 1) g' hj; rwa [show k + (j + 1) = k + 1 + j by omega] at this), fun x hx y hy e => ?_⟩
        subst e
        obtain ⟨g', hg', hx'⟩ := List.mem_flatten.1 hy
        obtain ⟨j, hj, e⟩ := List.getElem_of_mem hg'
        have h1 := hk 0 g rfl
        have h2 := hk (j + 1) g' (by rw [List.getElem?_cons_succ, List.getElem?_eq_getElem hj, e])
        have := (h.apart _ _ _ _ x x h1 h2 hx hx').2 (Or.inl rfl)
        omega
    exact this GS 0 (fun j g hj => by rw [Nat.zero_add]; exact hj)
  have h1 := nodup_le hnd (b := List.range (cnt m)) (fun x hx => by
    obtain ⟨g, hg, hxg⟩ := List.mem_flatten.1 hx
    exact List.mem_range.2 (h.lt g hg x hxg))
  have h2 := nodup_le (a := List.range (cnt m)) (b := GS.flatten) List.nodup_range (fun x hx => by
    obtain ⟨j, g, hj, hxg⟩ := h.all x (List.mem_range.1 hx)
    exact List.mem_flatten.2 ⟨g, List.mem_of_getElem? hj, hxg⟩)
  rw [List.length_range] at h1 h2
  omega
/-- Where each function's group stands, as far as it is put there: k groups, and i more functions of group k. -/
def Put (GS : List (List Nat)) (k i : Nat) (A : List Nat) : Prop := ∀ (j : Nat) (g : List Nat) (p f : Nat), GS[j]? = some g → g[p]? = some f → (j < k ∨ j = k ∧ p < i) → A[f]? = some j
theorem Put.set {GS : List (List Nat)} {k i : Nat} {A g : List Nat} {f : Nat} (h : Put GS k i A) (G : Groups m GS) (hg : GS[k]? = some g) (hf : g[i]? = some f) (hA : A.length = cnt m) : Put GS k (i + 1) (A.set f k) := by
  intro j g' p f' hj hp hw
  by_cases e : f' = f
  · subst e
    have hjk : j = k := (G.apart _ _ _ _ f' f' hj hg (List.mem_of_getElem? hp) (List.mem_of_getElem? hf)).2 (Or.inl rfl)
    rw [List.getElem?_set_self (by rw [hA]; exact G.lt g (List.mem_of_getElem? hg) f' (List.mem_of_getElem? hf)), hjk]
  · rw [List.getElem?_set_ne (fun e' => e e'.symm)]
    refine h j g' p f' hj hp ?_
    rcases hw with hw | ⟨rfl, hw⟩
    · exact Or.inl hw
    · refine Or.inr ⟨rfl, ?_⟩
      by_cases hpi : p = i
      · subst hpi
        rw [hg] at hj
        obtain rfl := Option.some.inj hj
        rw [hf] at hp
        exact absurd (Option.some.inj hp).symm e
      · omega
theorem Put.row {GS : List (List Nat)} {k : Nat} {A g : List Nat} (h : Put GS k g.length A) (hg : GS[k]? = some g) : Put GS (k + 1) 0 A := fun j g' p f hj hp hw => by
  refine h j g' p f hj hp ?_
  rcases hw with hw | ⟨_, hw⟩
  · by_cases e : j = k
    · subst e
      rw [hg] at hj
      obtain rfl := Option.some.inj hj
      exact Or.inr ⟨rfl, (List.getElem?_eq_some_iff.1 hp).1⟩
    · exact Or.inl (by omega)
  · omega
/-- At the end: two functions' numbers are one just if they are one, or reach one another. -/
theorem Put.end {GS : List (List Nat)} {A : List Nat} (h : Put GS GS.length 0 A) (G : Groups m GS) {f : Nat} (hf : f < cnt m) : ∃ j, A[f]? = some j ∧ j < GS.length ∧ ∃ g, GS[j]? = some g ∧ f ∈ g := by
  obtain ⟨j, g, hj, hfg⟩ := G.all f hf
  obtain ⟨p, hp, e⟩ := List.getElem_of_mem hfg
  have hjl := (List.getElem?_eq_some_iff.1 hj).1
  exact ⟨j, h j g p f hj (by rw [List.getElem?_eq_getElem hp, e]) (Or.inl hjl), hjl, g, hj, hfg⟩
theorem Put.same {GS : List (List Nat)} {A : List Nat} (h : Put GS GS.length 0 A) (G : Groups m GS) {f h' a b : Nat} (hf : f < cnt m) (hh : h' < cnt m) (ha : A[f]? = some a) (hb : A[h']? = some b) : a = b ↔ Sam m f h' := by
  obtain ⟨j, e, _, g, hj, hg⟩ := h.end G hf
  obtain ⟨j', e', _, g', hj', hg'⟩ := h.end G hh
  rw [e] at ha
  rw [e'] at hb
  obtain rfl := Option.some.inj ha
  obtain rfl := Option.some.inj hb
  exact G.apart j j' g g' f h' hj hj' hg hg'
end
end Go.Proofs.Ytjafmclladiblaa.Gr
