/- Operands and frames, plain: what the stack of the typing is, and what is done with it. No program in sight. -/
namespace Go.Proofs.YtmgjcaikldeioaaGreat.Ty

abbrev Bts := List UInt8
structure Frm where
 (lab : Bts) (ends : Bts) (ht : Nat) (dead : Bool)
/-- Operands, frames (the innermost stands last), and how many operands there were at most. -/
structure Stk where
 (l : Bts) (fs : List Frm) (most : Nat)
/-- How many operands are left if some are taken; the types come from behind. -/
def leftGo (l : Bts) (f : Frm) : List UInt8 → Nat → Option Nat
 | [], n => some n
 | t :: r, n =>
  if n = f.ht then (if f.dead then leftGo l f r n else none)
  else match l[n - 1]? with
   | some o => if o ≠ t ∧ o ≠ 0 ∧ t ≠ 0 then none else leftGo l f r (n - 1)
   | none => none
def left (s : Stk) (ts : Bts) : Option Nat :=
 match s.fs.getLast? with
 | none => none
 | some f => leftGo s.l f ts.reverse s.l.length
def want (s : Stk) (ts : Bts) : Option Stk := (left s ts).map fun n => { s with l := s.l.take n }
def push (s : Stk) (ts : Bts) : Stk := { s with l := s.l ++ ts, most := max s.most (s.l.length + ts.length) }
def opn (s : Stk) (lab ends : Bts) : Stk := { s with fs := s.fs ++ [⟨lab, ends, s.l.length, false⟩] }
def close (s : Stk) : Option (Bts × Stk) :=
 match s.fs.getLast? with
 | none => none
 | some f => if left s f.ends = some f.ht then some (f.ends, { s with l := s.l.take f.ht, fs := s.fs.dropLast }) else none
def kill (s : Stk) : Stk :=
 match s.fs.getLast? with
 | none => s
 | some f => { s with l := s.l.take f.ht, fs := s.fs.dropLast ++ [{ f with dead := true }] }
def label (s : Stk) (n : Nat) : Option Bts := if n < s.fs.length then (s.fs[s.fs.length - 1 - n]?).map (·.lab) else none
def pop (s : Stk) : Option (UInt8 × Stk) :=
 match s.fs.getLast? with
 | none => none
 | some f => if f.ht < s.l.length then (s.l.getLast?).map fun t => (t, { s with l := s.l.dropLast }) else if f.dead then some (0, s) else none
/-- Heights stand one above the other, and below what is there. -/
structure Inv (s : Stk) : Prop where
 top : ∀ f, s.fs.getLast? = some f → f.ht ≤ s.l.length
 rise : s.fs.Pairwise fun a b => a.ht ≤ b.ht
 most : s.l.length ≤ s.most
theorem leftGo_le (l : Bts) (f : Frm) : ∀ (ts : List UInt8) (n k : Nat), f.ht ≤ n → leftGo l f ts n = some k → f.ht ≤ k ∧ k ≤ n
 | [], n, k, h, e => by injection e with e; omega
 | t :: r, n, k, h, e => by
  rw [leftGo] at e
  split at e
  ·split at e
   ·exact leftGo_le l f r n k h e
   ·cases e
  ·split at e
   ·split at e
    ·cases e
    ·have := leftGo_le l f r (n - 1) k (by omega) e
     omega
   ·cases e
theorem left_le {s : Stk} {ts : Bts} {k : Nat} {f : Frm} (hf : s.fs.getLast? = some f) (h : Inv s) (e : left s ts = some k) : f.ht ≤ k ∧ k ≤ s.l.length := by
 unfold left at e
 rw [hf] at e
 exact leftGo_le _ _ _ _ _ (h.top f hf) e
theorem Inv.take {s : Stk} {k : Nat} (h : Inv s) (hk : ∀ f, s.fs.getLast? = some f → f.ht ≤ k) : Inv { s with l := s.l.take k } :=
 ⟨fun f hf => by
  have h1 := hk f hf
  have h2 := h.top f hf
  show f.ht ≤ (s.l.take k).length
  rw [List.length_take]; omega, h.rise, by
  have := h.most
  show (s.l.take k).length ≤ s.most
  rw [List.length_take]; omega⟩
theorem Inv.push {s : Stk} (h : Inv s) (ts : Bts) : Inv (push s ts) :=
 ⟨fun f hf => by have := h.top f hf; show f.ht ≤ (s.l ++ ts).length; rw [List.length_append]; omega, h.rise, by
  show (s.l ++ ts).length ≤ max s.most (s.l.length + ts.length)
  rw [List.length_append]
  exact Nat.le_max_right _ _⟩
theorem Inv.opn {s : Stk} (h : Inv s) (lab ends : Bts) : Inv (opn s lab ends) := by
 refine ⟨fun f hf => ?_, ?_, h.most⟩
 ·simp only [Ty.opn, List.getLast?_append, List.getLast?_singleton, Option.some_or, Option.some.injEq] at hf
  subst hf
  exact Nat.le_refl _
 ·refine List.pairwise_append.2 ⟨h.rise, by simp, fun a ha b hb => ?_⟩
  obtain rfl := List.mem_singleton.1 hb
  obtain ⟨g, hg⟩ : ∃ g, s.fs.getLast? = some g := by
   cases e : s.fs.getLast? with
   | none => rw [List.getLast?_eq_none_iff] at e; rw [e] at ha; cases ha
   | some g => exact ⟨g, rfl⟩
  have h1 := h.top g hg
  obtain ⟨ys, e⟩ := List.getLast?_eq_some_iff.1 hg
  have hr := h.rise
  rw [e] at hr ha
  rcases List.mem_append.1 ha with ha | ha
  ·have := (List.pairwise_append.1 hr).2.2 a ha g (List.mem_singleton.2 rfl)
   show a.ht ≤ s.l.length
   omega
  ·obtain rfl := List.mem_singleton.1 ha
   exact h1
theorem Inv.drop {s : Stk} {f : Frm} (h : Inv s) (hf : s.fs.getLast? = some f) : Inv { s with l := s.l.take f.ht, fs := s.fs.dropLast } := by
 obtain ⟨ys, e⟩ := List.getLast?_eq_some_iff.1 hf
 have hr := h.rise
 rw [e] at hr
 have hd : s.fs.dropLast = ys := by rw [e, List.dropLast_concat]
 have ht := h.top f hf
 refine ⟨fun g hg => ?_, by show (s.fs.dropLast).Pairwise _; rw [hd]; exact (List.pairwise_append.1 hr).1, ?_⟩
 ·show g.ht ≤ (s.l.take f.ht).length
  have hg' : ys.getLast? = some g := by rw [← hd]; exact hg
  have := (List.pairwise_append.1 hr).2.2 g (List.mem_of_getLast? hg') f (List.mem_singleton.2 rfl)
  rw [List.length_take]
  omega
 ·show (s.l.take f.ht).length ≤ s.most
  have := h.most
  rw [List.length_take]
  omega
theorem Inv.kill {s : Stk} (h : Inv s) : Inv (kill s) := by
 unfold Ty.kill
 cases hf : s.fs.getLast? with
 | none => exact h
 | some f =>
  have hd := h.drop hf
  obtain ⟨ys, e⟩ := List.getLast?_eq_some_iff.1 hf
  have hr := h.rise
  rw [e] at hr
  have hdl : s.fs.dropLast = ys := by rw [e, List.dropLast_concat]
  refine ⟨fun g hg => ?_, ?_, hd.most⟩
  ·simp only [List.getLast?_append, List.getLast?_singleton, Option.some_or, Option.some.injEq] at hg
   subst hg
   have := h.top f hf
   show f.ht ≤ (s.l.take f.ht).length
   rw [List.length_take]
   omega
  ·show (s.fs.dropLast ++ _).Pairwise _
   rw [hdl]
   exact List.pairwise_append.2 ⟨(List.pairwise_append.1 hr).1, by simp, fun a ha b hb => by
    obtain rfl := List.mem_singleton.1 hb
    exact (List.pairwise_append.1 hr).2.2 a ha f (List.mem_singleton.2 rfl)⟩
theorem Inv.want {s s' : Stk} {ts : Bts} (h : Inv s) (e : want s ts = some s') : Inv s' := by
 unfold Ty.want at e
 cases hl : left s ts with
 | none => rw [hl] at e; cases e
 | some n =>
  rw [hl] at e
  obtain rfl := Option.some.inj e
  exact h.take fun f hf => (left_le hf h hl).1
theorem Inv.close {s s' : Stk} {b : Bts} (h : Inv s) (e : close s = some (b, s')) : Inv s' := by
 unfold Ty.close at e
 cases hf : s.fs.getLast? with
 | none => rw [hf] at e; cases e
 | some f =>
  rw [hf] at e
  simp only at e
  split at e
  ·obtain ⟨_, rfl⟩ := Prod.mk.inj (Option.some.inj e)
   exact h.drop hf
  ·cases e
theorem Inv.pop {s s' : Stk} {t : UInt8} (h : Inv s) (e : pop s = some (t, s')) : Inv s' := by
 unfold Ty.pop at e
 cases hf : s.fs.getLast? with
 | none => rw [hf] at e; cases e
 | some f =>
  rw [hf] at e
  simp only at e
  split at e
  ·rename_i hlt
   cases hl : s.l.getLast? with
   | none => rw [hl] at e; cases e
   | some t' =>
    rw [hl] at e
    obtain ⟨_, rfl⟩ := Prod.mk.inj (Option.some.inj e)
    refine ⟨fun g hg => ?_, h.rise, ?_⟩
    ·have hg' : s.fs.getLast? = some g := hg
     rw [hf] at hg'
     obtain rfl := Option.some.inj hg'
     show f.ht ≤ s.l.dropLast.length
     rw [List.length_dropLast]
     omega
    ·show s.l.dropLast.length ≤ s.most
     have := h.most
     rw [List.length_dropLast]
     omega
  ·split at e
   ·obtain ⟨_, rfl⟩ := Prod.mk.inj (Option.some.inj e)
    exact h
   ·cases e
end Go.Proofs.YtmgjcaikldeioaaGreat.Ty
