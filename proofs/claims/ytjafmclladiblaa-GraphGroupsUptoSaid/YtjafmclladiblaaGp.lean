/- Which functions call which, plain: ways, what is reached, how deep. No program in sight. -/
namespace Go.Proofs.Ytjafmclladiblaa.Gr

abbrev Cl := Nat → Nat → Bool
variable {n : Nat} {c : Cl}
/-- A way of one step or more, among n functions. -/
inductive Way (n : Nat) (c : Cl) : Nat → Nat → Prop where
  | one {f h : Nat} (hf : f < n) (hh : h < n) (e : c f h = true) : Way n c f h
  | more {f g h : Nat} (w : Way n c f g) (hh : h < n) (e : c g h = true) : Way n c f h
theorem Way.lt {f h : Nat} (w : Way n c f h) : f < n ∧ h < n := by
  induction w with
  | one hf hh _ => exact ⟨hf, hh⟩
  | more _ hh _ ih => exact ⟨ih.1, hh⟩
theorem Way.trans {f g h : Nat} (w : Way n c f g) (v : Way n c g h) : Way n c f h := by
  induction v with
  | one _ hh e => exact w.more hh e
  | more _ hh e ih => exact ih.more hh e
/-- The first step of a way. -/
theorem Way.first {f h : Nat} (w : Way n c f h) : ∃ g, g < n ∧ c f g = true ∧ (g = h ∨ Way n c g h) := by
  induction w with
  | one hf hh e => exact ⟨_, hh, e, Or.inl rfl⟩
  | more w hh e ih =>
    obtain ⟨g, hg, e1, h1⟩ := ih
    rcases h1 with rfl | h1
    · exact ⟨_, hg, e1, Or.inr (.one hg hh e)⟩
    · exact ⟨g, hg, e1, Or.inr (h1.more hh e)⟩
theorem Way.cons {f g h : Nat} (hf : f < n) (e : c f g = true) (w : Way n c g h) : Way n c f h := (Way.one hf w.lt.1 e).trans w
/-- What is reached from some of a list of numbers. -/
def Got (n : Nat) (c : Cl) (l : List Int) (h : Nat) : Prop := ∃ f : Nat, (f : Int) ∈ l ∧ Way n c f h
theorem Got.lt {l : List Int} {h : Nat} (g : Got n c l h) : h < n := by obtain ⟨f, _, w⟩ := g; exact w.lt.2
theorem Got.step {l : List Int} {f h : Nat} (g : Got n c l f) (hh : h < n) (e : c f h = true) : Got n c l h := by obtain ⟨x, hx, w⟩ := g; exact ⟨x, hx, w.more hh e⟩
theorem got_least {l : List Int} {S : Nat → Prop} (h0 : ∀ f : Nat, (f : Int) ∈ l → f < n → ∀ h, h < n → c f h = true → S h) (h1 : ∀ f h, S f → f < n → h < n → c f h = true → S h) {h : Nat} (g : Got n c l h) : S h := by
  obtain ⟨f, hf, w⟩ := g
  induction w with
  | one hf' hh e => exact h0 _ hf hf' _ hh e
  | more w hh e ih => exact h1 _ _ ih w.lt.2 hh e

/-! ### rows of marks -/
/-- Exactly those of S are marked. -/
def Marked (n : Nat) (out : List Bool) (S : Nat → Prop) : Prop := out.length = n ∧ ∀ h, h < n → (out[h]? = some true ↔ S h)
/-- The numbers of what is marked. -/
def places (out : List Bool) : List Nat := (List.range out.length).filter fun i => out[i]? == some true
theorem Marked.uniq {a b : List Bool} {S : Nat → Prop} (ha : Marked n a S) (hb : Marked n b S) : a = b := by
  refine List.ext_getElem? fun i => ?_
  by_cases hi : i < n
  · have h1 := ha.2 i hi
    have h2 := hb.2 i hi
    obtain ⟨x, hx⟩ : ∃ x, a[i]? = some x := ⟨_, List.getElem?_eq_getElem (by rw [ha.1]; exact hi)⟩
    obtain ⟨y, hy⟩ : ∃ y, b[i]? = some y := ⟨_, List.getElem?_eq_getElem (by rw [hb.1]; exact hi)⟩
    rw [hx] at h1 ⊢
    rw [hy] at h2 ⊢
    cases x <;> cases y <;> simp_all
  · rw [List.getElem?_eq_none (by rw [ha.1]; omega), List.getElem?_eq_none (by rw [hb.1]; omega)]
theorem mem_places {out : List Bool} {i : Nat} : i ∈ places out ↔ out[i]? = some true := by
  unfold places
  rw [List.mem_filter, List.mem_range, beq_iff_eq]
  constructor
  · exact fun h => h.2
  · exact fun h => ⟨(List.getElem?_eq_some_iff.1 h).1, h⟩
def marks (out : List Bool) : Nat := out.countP id
theorem marks_le (out : List Bool) : marks out ≤ out.length := List.countP_le_length
theorem marks_full {out : List Bool} (h : out.length ≤ marks out) : ∀ i, i < out.length → out[i]? = some true := fun i hi => by
  have he : marks out = out.length := Nat.le_antisymm (marks_le out) h
  unfold marks at he
  rw [List.countP_eq_length] at he
  rw [List.getElem?_eq_getElem hi]
  have := he _ (List.getElem_mem hi)
  simp only [id] at this
  rw [this]
theorem marks_set {out : List Bool} {h : Nat} (hh : out[h]? = some false) : marks (out.set h true) = marks out + 1 := by
  induction out generalizing h with
  | nil => simp at hh
  | cons x r ih =>
    cases h with
    | zero =>
      simp only [List.getElem?_cons_zero, Option.some.injEq] at hh
      subst hh
      simp [marks]
    | succ h =>
      simp only [List.getElem?_cons_succ] at hh
      have := ih hh
      unfold marks at this ⊢
      rw [List.set_cons_succ, List.countP_cons, List.countP_cons, this]
      omega
theorem getElem?_set_true {out : List Bool} {h i : Nat} : (out.set h true)[i]? = some true ↔ (i = h ∧ h < out.length) ∨ out[i]? = some true := by
  by_cases e : i = h
  · subst e
    by_cases hl : i < out.length
    · rw [List.getElem?_set_self hl]; simp [hl]
    · rw [List.set_eq_of_length_le (by omega)]; simp [hl]
  · rw [List.getElem?_set_ne (fun e' => e e'.symm)]
    simp [e]
/-- a is marked in b as well. -/
def Sbs (a b : List Bool) : Prop := a.length = b.length ∧ ∀ i : Nat, a[i]? = some true → b[i]? = some true
theorem Sbs.refl (a : List Bool) : Sbs a a := ⟨rfl, fun _ h => h⟩
theorem Sbs.trans {a b d : List Bool} (h : Sbs a b) (k : Sbs b d) : Sbs a d := ⟨h.1.trans k.1, fun i e => k.2 i (h.2 i e)⟩
theorem Sbs.set (a : List Bool) (h : Nat) : Sbs a (a.set h true) := ⟨by simp, fun i e => getElem?_set_true.2 (Or.inr e)⟩
theorem Sbs.marks {a b : List Bool} (h : Sbs a b) : marks a ≤ marks b := by
  induction a generalizing b with
  | nil => simp [Gr.marks]
  | cons x r ih =>
    cases b with
    | nil => have := h.1; simp at this
    | cons y s =>
      have hs : Sbs r s := ⟨by have := h.1; simpa using this, fun i e => by have := h.2 (i + 1) (by simpa using e); simpa using this⟩
      have h0 := h.2 0
      simp only [List.getElem?_cons_zero, Option.some.injEq] at h0
      have := ih hs
      unfold Gr.marks at this ⊢
      rw [List.countP_cons, List.countP_cons]
      cases x <;> cases y <;> simp_all
      omega

/-! ### the document's reaching: turn by turn -/
def Closed (n : Nat) (c : Cl) (out : List Bool) : Prop := ∀ f h, f < n → h < n → out[f]? = some true → c f h = true → out[h]? = some true
/-- What a turn has done when it has come to f, h; out0: as it was at its start. -/
structure Turn (n : Nat) (c : Cl) (l : List Int) (out0 : List Bool) (f h : Nat) (out : List Bool) : Prop where
  sub : Sbs out0 out
  len : out.length = n
  sound : ∀ i : Nat, out[i]? = some true → Got n c l i
  done : ∀ f' h', f' < n → h' < n → (f' < f ∨ f' = f ∧ h' < h) → out0[f']? = some true → c f' h' = true → out[h']? = some true
  still : Closed n c out0 → out = out0
theorem Turn.start {l : List Int} {out0 : List Bool} (hl : out0.length = n) (hs : ∀ i : Nat, out0[i]? = some true → Got n c l i) : Turn n c l out0 0 0 out0 :=
  ⟨Sbs.refl _, hl, hs, fun f' h' _ _ e => by omega, fun _ => rfl⟩
theorem Turn.next {l : List Int} {out0 out : List Bool} {f h : Nat} (t : Turn n c l out0 f h out) (hf : f < n) (hh : h < n) : Turn n c l out0 f (h + 1) (if out[f]? = some true ∧ c f h = true then out.set h true else out) := by
  by_cases e : out[f]? = some true ∧ c f h = true
  · rw [if_pos e]
    refine ⟨t.sub.trans (Sbs.set _ _), by rw [List.length_set]; exact t.len, fun i hi => ?_, fun f' h' h1 h2 h3 h4 h5 => ?_, fun hc => ?_⟩
    · rcases getElem?_set_true.1 hi with ⟨rfl, _⟩ | hi
      · exact (t.sound f e.1).step hh e.2
      · exact t.sound i hi
    · rw [getElem?_set_true]
      rcases h3 with h3 | ⟨rfl, h3⟩
      · exact Or.inr (t.done f' h' h1 h2 (Or.inl h3) h4 h5)
      · by_cases hx : h' = h
        · exact Or.inl ⟨hx, by rw [t.len]; exact hh⟩
        · exact Or.inr (t.done f' h' h1 h2 (Or.inr ⟨rfl, by omega⟩) h4 h5)
    · have ho := t.still hc
      have hq : out[h]? = some true := by
        rw [ho] at e ⊢
        exact hc f h hf hh e.1 e.2
      rw [← ho]
      refine List.ext_getElem? fun i => ?_
      by_cases hi : i = h
      · subst hi
        rw [List.getElem?_set_self (by rw [t.len]; exact hh), hq]
      · rw [List.getElem?_set_ne (fun e' => hi e'.symm)]
  · rw [if_neg e]
    refine ⟨t.sub, t.len, t.sound, fun f' h' h1 h2 h3 h4 h5 => ?_, t.still⟩
    rcases h3 with h3 | ⟨rfl, h3⟩
    · exact t.done f' h' h1 h2 (Or.inl h3) h4 h5
    · by_cases hx : h' = h
      · subst hx
        exact absurd ⟨t.sub.2 _ h4, h5⟩ e
      · exact t.done f' h' h1 h2 (Or.inr ⟨rfl, by omega⟩) h4 h5
theorem Turn.row {l : List Int} {out0 out : List Bool} {f : Nat} (t : Turn n c l out0 f n out) : Turn n c l out0 (f + 1) 0 out :=
  ⟨t.sub, t.len, t.sound, fun f' h' h1 h2 h3 => t.done f' h' h1 h2 (by omega), t.still⟩
/-- Where the turns have come to. -/
structure Turns (n : Nat) (c : Cl) (l : List Int) (t : Nat) (out : List Bool) : Prop where
  len : out.length = n
  sound : ∀ i : Nat, out[i]? = some true → Got n c l i
  base : ∀ f : Nat, (f : Int) ∈ l → f < n → ∀ h, h < n → c f h = true → out[h]? = some true
  far : Closed n c out ∨ t ≤ marks out
theorem Turns.next {l : List Int} {t : Nat} {out0 out : List Bool} (h : Turns n c l t out0) (k : Turn n c l out0 n 0 out) : Turns n c l (t + 1) out := by
  refine ⟨k.len, k.sound, fun f hf h1 h2 h3 h4 => k.sub.2 _ (h.base f hf h1 h2 h3 h4), ?_⟩
  by_cases hc : Closed n c out0
  · left
    rw [k.still hc]
    exact hc
  · right
    have ht : t ≤ marks out0 := h.far.resolve_left hc
    obtain ⟨f, hf⟩ := Classical.not_forall.1 hc
    obtain ⟨g, hg⟩ := Classical.not_forall.1 hf
    obtain ⟨h1, hg⟩ := Classical.not_imp.1 hg
    obtain ⟨h2, hg⟩ := Classical.not_imp.1 hg
    obtain ⟨h3, hg⟩ := Classical.not_imp.1 hg
    obtain ⟨h4, hg⟩ := Classical.not_imp.1 hg
    have h5 := k.done f g h1 h2 (Or.inl h1) h3 h4
    have h6 : out0[g]? = some false := by
      obtain ⟨x, hx⟩ : ∃ x, out0[g]? = some x := ⟨_, List.getElem?_eq_getElem (by rw [h.len]; exact h2)⟩
      rw [hx] at hg ⊢
      cases x
      · rfl
      · exact absurd rfl hg
    have h7 : Sbs (out0.set g true) out := ⟨by rw [List.length_set, h.len, k.len], fun i hi => by
      rcases getElem?_set_true.1 hi with ⟨rfl, _⟩ | hi
      · exact h5
      · exact k.sub.2 i hi⟩
    have h8 := h7.marks
    rw [marks_set h6] at h8
    omega
theorem Turns.end {l : List Int} {out : List Bool} (h : Turns n c l n out) : Marked n out (Got n c l) := by
  refine ⟨h.len, fun i hi => ⟨h.sound i, fun g => ?_⟩⟩
  have hc : Closed n c out := by
    rcases h.far with hc | hc
    · exact hc
    · exact fun f g _ hg _ _ => marks_full (by rw [h.len]; exact hc) g (by rw [h.len]; exact hg)
  exact got_least (S := fun h => out[h]? = some true) h.base (fun f g h1 h2 h3 h4 => hc f g h2 h3 h1 h4) g

/-! ### the program's reaching: what is still to do -/
structure Todo (n : Nat) (c : Cl) (l : List Int) (out : List Bool) (todo : List Nat) : Prop where
  len : out.length = n
  sound : ∀ i : Nat, out[i]? = some true → Got n c l i
  want : ∀ i ∈ todo, Got n c l i
  base : ∀ f : Nat, (f : Int) ∈ l → f < n → ∀ h, h < n → c f h = true → out[h]? = some true ∨ h ∈ todo
  step : ∀ f h, out[f]? = some true → h < n → c f h = true → out[h]? = some true ∨ h ∈ todo
theorem Todo.end {l : List Int} {out : List Bool} (h : Todo n c l out []) : Marked n out (Got n c l) := by
  refine ⟨h.len, fun i hi => ⟨h.sound i, fun g => ?_⟩⟩
  refine got_least (S := fun h => out[h]? = some true) (fun f h1 h2 h3 h4 h5 => ?_) (fun f g h1 h2 h3 h4 => ?_) g
  · rcases h.base f h1 h2 h3 h4 h5 with e | e
    · exact e
    · cases e
  · rcases h.step f g h1 h3 h4 with e | e
    · exact e
    · cases e
theorem Todo.skip {l : List Int} {out : List Bool} {todo : List Nat} {f : Nat} (h : Todo n c l out (todo ++ [f])) (hf : out[f]? = some true) : Todo n c l out todo := by
  refine ⟨h.len, h.sound, fun i hi => h.want i (List.mem_append_left _ hi), fun f' h1 h2 g h3 h4 => ?_, fun f' g h1 h2 h3 => ?_⟩
  · rcases h.base f' h1 h2 g h3 h4 with e | e
    · exact Or.inl e
    · rcases List.mem_append.1 e with e | e
      · exact Or.inr e
      · rw [List.mem_singleton.1 e]; exact Or.inl hf
  · rcases h.step f' g h1 h2 h3 with e | e
    · exact Or.inl e
    · rcases List.mem_append.1 e with e | e
      · exact Or.inr e
      · rw [List.mem_singleton.1 e]; exact Or.inl hf
theorem Todo.take {l : List Int} {out : List Bool} {todo : List Nat} {f : Nat} (h : Todo n c l out (todo ++ [f])) {k : List Nat} (hk : ∀ g, g ∈ k ↔ g < n ∧ c f g = true) : Todo n c l (out.set f true) (todo ++ k) := by
  have hf := h.want f (List.mem_append_right _ List.mem_cons_self)
  have hfn : f < out.length := by rw [h.len]; exact hf.lt
  refine ⟨by rw [List.length_set]; exact h.len, fun i hi => ?_, fun i hi => ?_, fun f' h1 h2 g h3 h4 => ?_, fun f' g h1 h2 h3 => ?_⟩
  · rcases getElem?_set_true.1 hi with ⟨rfl, _⟩ | hi
    · exact hf
    · exact h.sound i hi
  · rcases List.mem_append.1 hi with hi | hi
    · exact h.want i (List.mem_append_left _ hi)
    · exact hf.step ((hk i).1 hi).1 ((hk i).1 hi).2
  · rw [getElem?_set_true]
    rcases h.base f' h1 h2 g h3 h4 with e | e
    · exact Or.inl (Or.inr e)
    · rcases List.mem_append.1 e with e | e
      · exact Or.inr (List.mem_append_left _ e)
      · exact Or.inl (Or.inl ⟨List.mem_singleton.1 e, hfn⟩)
  · rw [getElem?_set_true]
    rcases getElem?_set_true.1 h1 with ⟨rfl, _⟩ | h1
    · exact Or.inr (List.mem_append_right _ ((hk g).2 ⟨h2, h3⟩))
    · rcases h.step f' g h1 h2 h3 with e | e
      · exact Or.inl (Or.inr e)
      · rcases List.mem_append.1 e with e | e
        · exact Or.inr (List.mem_append_left _ e)
        · exact Or.inl (Or.inl ⟨List.mem_singleton.1 e, hfn⟩)
end Go.Proofs.Ytjafmclladiblaa.Gr
