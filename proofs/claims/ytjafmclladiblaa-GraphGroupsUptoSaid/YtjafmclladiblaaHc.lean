/- Graph: the document's two examples, plain: what is reached, how deep, which groups. -/
import Derived.Test.YtjafmclladiblaaHb
import Derived.Test.YtjafmclladiblaaGw
namespace Go.Proofs.Ytjafmclladiblaa.Gr
open Go Go.RowKit Go.Lib Kt Fm

section
variable {m : Mod} {R : List (List Nat)}
theorem RowOf.fk (r : RowOf m R) (k : UInt8) : fk m k = [] := by unfold Gr.fk; rw [r.imps]; rfl
theorem RowOf.fimps (r : RowOf m R) : fimps m = [] := by unfold Gr.fimps; rw [r.imps]; rfl
theorem RowOf.cnt (r : RowOf m R) : cnt m = R.length := by unfold Gr.cnt; rw [r.fimps, r.funcs]; simp
theorem hit_call (m : Mod) (h x : Nat) : hit m h (callI x) = (x == h) := by
  unfold hit callI
  simp
theorem RowOf.calls (r : RowOf m R) (f h : Nat) : callsB m f h = (decide (h < R.length) && ((R[f]?).getD []).contains h) := by
  unfold callsB
  rw [r.cnt]
  congr 1
  unfold codeOf
  rw [r.fimps, r.cnt]
  have hl : m.codes.length = R.length := by have := congrArg List.length r.codes; simpa using this
  by_cases hf : f < R.length
  · rw [if_pos ⟨Nat.zero_le _, hf⟩]
    obtain ⟨c, hc⟩ : ∃ c, m.codes[f]? = some c := ⟨_, List.getElem?_eq_getElem (by omega)⟩
    obtain ⟨l, hl'⟩ : ∃ l, R[f]? = some l := ⟨_, List.getElem?_eq_getElem hf⟩
    have hb := congrArg (·[f]?) r.codes
    simp only [List.getElem?_map, hc, hl', Option.map_some, Option.some.injEq] at hb
    simp only [List.length_nil, Nat.sub_zero, hc, hl', Option.getD_some, hb]
    rw [List.any_map, Bool.eq_iff_iff, List.any_eq_true, List.contains_iff_mem]
    simp only [Function.comp, hit_call, beq_iff_eq]
    exact ⟨fun ⟨x, hx, e⟩ => e ▸ hx, fun hx => ⟨h, hx, rfl⟩⟩
  · rw [if_neg (by omega), List.getElem?_eq_none (by omega)]
    rfl
theorem RowOf.root (r : RowOf m R) (f : Nat) : rootB m f = (f == 0) := by
  unfold rootB
  rw [r.exps, r.hs]
  simp [mainE]
  rw [Bool.eq_iff_iff, beq_iff_eq, beq_iff_eq]
  exact ⟨fun e => e.symm, fun e => e.symm⟩
end

abbrev R1 : List (List Nat) := [[1], [2], []]
abbrev R2 : List (List Nat) := [[1], [2], [1]]
section
variable {m : Mod}
theorem way_sub {n : Nat} {c : Cl} {T : Nat → Nat → Prop} (h1 : ∀ f h, f < n → h < n → c f h = true → T f h) (h2 : ∀ f g h, T f g → g < n → h < n → c g h = true → T f h) {f h : Nat} (w : Way n c f h) : T f h := by
  induction w with
  | one hf hh e => exact h1 _ _ hf hh e
  | more w hh e ih => exact h2 _ _ _ ih w.lt.2 hh e
theorem calls1 (r : RowOf m R1) (f h : Nat) : callsB m f h = (decide (f < 2) && h == f + 1) := by
  rw [r.calls, Bool.eq_iff_iff]
  match f with
  | 0 => simp; omega
  | 1 => simp; omega
  | 2 => simp
  | f + 3 => simp; omega
theorem calls2 (r : RowOf m R2) (f h : Nat) : callsB m f h = (decide (f < 2) && h == f + 1 || f == 2 && h == 1) := by
  rw [r.calls, Bool.eq_iff_iff]
  match f with
  | 0 => simp; omega
  | 1 => simp; omega
  | 2 => simp; omega
  | f + 3 => simp; omega
theorem way1 (r : RowOf m R1) {f h : Nat} : Way (cnt m) (callsB m) f h ↔ f < h ∧ h < 3 := by
  have hn : cnt m = 3 := r.cnt
  rw [hn]
  constructor
  · intro w
    refine way_sub (T := fun f h => f < h ∧ h < 3) (fun f h h1 h2 e => ?_) (fun f g h t h1 h2 e => ?_) w
    all_goals
      rw [calls1 r] at e
      simp at e
      omega
  · rintro ⟨h1, h2⟩
    have w01 : Way 3 (callsB m) 0 1 := .one (by omega) (by omega) (by rw [calls1 r]; rfl)
    have w12 : Way 3 (callsB m) 1 2 := .one (by omega) (by omega) (by rw [calls1 r]; rfl)
    rcases (by omega : f = 0 ∧ h = 1 ∨ f = 1 ∧ h = 2 ∨ f = 0 ∧ h = 2) with ⟨rfl, rfl⟩ | ⟨rfl, rfl⟩ | ⟨rfl, rfl⟩
    · exact w01
    · exact w12
    · exact w01.trans w12
theorem way2 (r : RowOf m R2) {f h : Nat} : Way (cnt m) (callsB m) f h ↔ f < 3 ∧ (h = 1 ∨ h = 2) := by
  have hn : cnt m = 3 := r.cnt
  rw [hn]
  constructor
  · intro w
    refine way_sub (T := fun f h => f < 3 ∧ (h = 1 ∨ h = 2)) (fun f h h1 h2 e => ?_) (fun f g h t h1 h2 e => ?_) w
    all_goals
      rw [calls2 r] at e
      simp at e
      omega
  · rintro ⟨h1, h2⟩
    have w01 : Way 3 (callsB m) 0 1 := .one (by omega) (by omega) (by rw [calls2 r]; rfl)
    have w12 : Way 3 (callsB m) 1 2 := .one (by omega) (by omega) (by rw [calls2 r]; rfl)
    have w21 : Way 3 (callsB m) 2 1 := .one (by omega) (by omega) (by rw [calls2 r]; rfl)
    rcases (by omega : f = 0 ∧ h = 1 ∨ f = 1 ∧ h = 2 ∨ f = 0 ∧ h = 2 ∨ f = 2 ∧ h = 1 ∨ f = 1 ∧ h = 1 ∨ f = 2 ∧ h = 2) with ⟨rfl, rfl⟩ | ⟨rfl, rfl⟩ | ⟨rfl, rfl⟩ | ⟨rfl, rfl⟩ | ⟨rfl, rfl⟩ | ⟨rfl, rfl⟩
    · exact w01
    · exact w12
    · exact w01.trans w12
    · exact w21
    · exact w12.trans w21
    · exact w21.trans w12
theorem callsL1 (r : RowOf m R1) (f : Nat) : callsL m f = (List.range 3).filter fun h => decide (f < 2) && h == f + 1 := by
  unfold callsL
  rw [r.cnt]
  exact List.filter_congr fun h _ => calls1 r f h
open Classical in
theorem wayL1 (r : RowOf m R1) (f : Nat) : wayL m f = (List.range 3).filter fun h => decide (f < h) := by
  unfold wayL
  rw [show cnt m = 3 from r.cnt]
  refine List.filter_congr fun h hh => ?_
  have := List.mem_range.1 hh
  have hw := way1 r (f := f) (h := h)
  rw [show cnt m = 3 from r.cnt] at hw
  rw [Bool.eq_iff_iff, decide_eq_true_eq, decide_eq_true_eq, hw]
  omega
theorem wayL10 (r : RowOf m R1) : wayL m 0 = [1, 2] := by rw [wayL1 r]; simp [List.range_succ]
theorem callsL10 (r : RowOf m R1) : gcalls m 0 = [1] := by
  unfold gcalls
  rw [if_pos ⟨by omega, by rw [r.cnt]; decide⟩, callsL1 r]
  rfl
theorem both1 (r : RowOf m R1) (f h : Nat) : both m f h = false := by
  rw [← Bool.not_eq_true, both_iff, way1 r, way1 r]
  omega
theorem both2 (r : RowOf m R2) (f h : Nat) : both m f h = decide ((f = 1 ∨ f = 2) ∧ (h = 1 ∨ h = 2)) := by
  rw [Bool.eq_iff_iff, both_iff, way2 r, way2 r, decide_eq_true_eq]
  omega
theorem good1 (r : RowOf m R1) (f : Nat) : Good m f := fun h _ w => by
  have := (way1 r).1 w
  omega
theorem good2 (r : RowOf m R2) : ¬ Good m 0 := fun g => g 1 (Or.inr ((way2 r).2 (by omega))) ((way2 r).2 (by omega))
theorem dep1 (r : RowOf m R1) : dep m 0 = 3 := by
  have h2 : dep m 2 = 1 := by rw [dep_eq (by rw [r.cnt]; decide) (good1 r _), r.fk, callsL1 r]; rfl
  have h1 : dep m 1 = 2 := by
    rw [dep_eq (by rw [r.cnt]; decide) (good1 r _), r.fk, callsL1 r]
    simp [List.range_succ, h2]
  rw [dep_eq (by rw [r.cnt]; decide) (good1 r _), r.fk, callsL1 r]
  simp [List.range_succ, h1]
theorem grps1 (r : RowOf m R1) : (grps m (cnt m)).length = 3 := by
  rw [show cnt m = 3 from r.cnt]
  unfold grps
  rw [List.length_map]
  have : (List.range 3).filter (fun f => !old m f f) = [0, 1, 2] := by
    have h0 : ∀ f, old m f f = false := fun f => by
      unfold old
      rw [List.any_eq_false]
      intro g _
      rw [both1 r]
      simp
    simp [List.range_succ, h0]
  rw [this]
  rfl
theorem grps2 (r : RowOf m R2) : ∃ a, grps m (cnt m) = [a, [1, 2]] := by
  rw [show cnt m = 3 from r.cnt]
  unfold grps
  have : (List.range 3).filter (fun f => !old m f f) = [0, 1] := by
    have h0 : ∀ f, old m f f = (List.range f).any fun g => decide ((g = 1 ∨ g = 2) ∧ (f = 1 ∨ f = 2)) := fun f => by
      unfold old
      rw [Nat.min_self]
      congr 1
      funext g
      exact both2 r g f
    rw [show (fun f => !old m f f) = fun f => !((List.range f).any fun g => decide ((g = 1 ∨ g = 2) ∧ (f = 1 ∨ f = 2))) from funext fun f => by rw [h0]]
    decide
  rw [this]
  refine ⟨grp m 0, ?_⟩
  simp only [List.map_cons, List.map_nil]
  congr 2
  unfold grp
  rw [show cnt m = 3 from r.cnt]
  congr 1
  rw [show (fun h => decide (1 < h) && both m 1 h) = fun h => decide (1 < h) && decide ((1 = 1 ∨ 1 = 2) ∧ (h = 1 ∨ h = 2)) from funext fun h => by rw [both2 r]]
  decide
theorem dead1 (r : RowOf m R1) {out : List Bool} (h : Marked (cnt m) out (Got (cnt m) (callsB m) (ints (rootsL m)))) : deadL m out = [] := by
  unfold deadL
  rw [show cnt m = 3 from r.cnt, r.fk, List.filter_eq_nil_iff]
  intro f hf
  have hf3 := List.mem_range.1 hf
  rw [r.root]
  by_cases h0 : f = 0
  · subst h0; simp
  · have hr : (0 : Nat) ∈ rootsL m := by
      unfold rootsL
      rw [List.mem_filter, List.mem_range, r.root, r.cnt]
      decide
    have := (h.2 f (by rw [r.cnt]; exact hf3)).2 ⟨0, by unfold ints; exact List.mem_map.2 ⟨0, hr, rfl⟩, (way1 r).2 (by omega)⟩
    rw [this]
    simp
end
end Go.Proofs.Ytjafmclladiblaa.Gr
