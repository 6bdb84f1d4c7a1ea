/- A nop makes no difference; what stands behind an error is not looked at: plain. -/
import Derived.Test.YtmgjcaikldeioaaGreatXTq
namespace Go.Proofs.YtmgjcaikldeioaaGreat.Ty
open Gr

/-- Between two steps. -/
structure Fine (s : St) : Prop where
 inv : Inv s.t
 deep : s.t.fs.length = s.o.length + 1
theorem last_of {s : St} (h : Fine s) : ∃ f, s.t.fs.getLast? = some f := by
 cases e : s.t.fs.getLast? with
 | none => rw [List.getLast?_eq_none_iff] at e; have := h.deep; rw [e] at this; simp at this
 | some f => exact ⟨f, rfl⟩
theorem want_fs {s s' : Stk} {ts : Bts} (e : want s ts = some s') : s'.fs = s.fs := by
 unfold want at e
 cases hl : left s ts with
 | none => rw [hl] at e; cases e
 | some n => rw [hl] at e; obtain rfl := Option.some.inj e; rfl
theorem pop_fs {s s' : Stk} {t : UInt8} (e : pop s = some (t, s')) : s'.fs = s.fs := by
 unfold pop at e
 cases hf : s.fs.getLast? with
 | none => rw [hf] at e; cases e
 | some f =>
  rw [hf] at e
  simp only at e
  split at e
  ·cases hl : s.l.getLast? with
   | none => rw [hl] at e; cases e
   | some t' => rw [hl] at e; obtain ⟨_, rfl⟩ := Prod.mk.inj (Option.some.inj e); rfl
  ·split at e
   ·obtain ⟨_, rfl⟩ := Prod.mk.inj (Option.some.inj e); rfl
   ·cases e
theorem close_fs {s s' : Stk} {b : Bts} (e : close s = some (b, s')) : s'.fs = s.fs.dropLast ∧ s.fs ≠ [] := by
 unfold close at e
 cases hf : s.fs.getLast? with
 | none => rw [hf] at e; cases e
 | some f =>
  rw [hf] at e
  simp only at e
  split at e
  ·obtain ⟨_, rfl⟩ := Prod.mk.inj (Option.some.inj e)
   exact ⟨rfl, fun h => by rw [h] at hf; cases hf⟩
  ·cases e
theorem kill_fs (s : Stk) : (kill s).fs.length = s.fs.length := by
 unfold kill
 cases hf : s.fs.getLast? with
 | none => rfl
 | some f =>
  have : s.fs ≠ [] := fun h => by rw [h] at hf; cases hf
  have := List.length_pos_iff.2 this
  show (s.fs.dropLast ++ [_]).length = _
  rw [List.length_append, List.length_dropLast]
  simp
  omega
theorem takes_fine {s s' : St} {ps rs : Bts} (h : Fine s) (e : takes s ps rs = .ok s') : Fine s' ∧ s'.o = s.o := by
 unfold takes at e
 cases hw : want s.t ps with
 | none => rw [hw] at e; cases e
 | some t =>
  rw [hw] at e
  cases e
  exact ⟨⟨(h.inv.want hw).push rs, by show (push t rs).fs.length = _; rw [← h.deep, ← want_fs hw]; rfl⟩, rfl⟩
theorem killed_fine {s : St} {t : Stk} {ts : Bts} (h : Fine s) (hw : want s.t ts = some t) : Fine { s with t := kill t } :=
 ⟨(h.inv.want hw).kill, by show (kill t).fs.length = _; rw [kill_fs, want_fs hw]; exact h.deep⟩
theorem mark_same {o o' : Bts} {op : UInt8} (h : mark o op = some o') (h1 : ¬ (op = 2 ∨ op = 3 ∨ op = 4)) (h2 : op ≠ 5) (h3 : op ≠ 11) : o' = o := by
 unfold mark at h
 rw [if_neg h1, if_neg h2, if_neg h3] at h
 exact (Option.some.inj h).symm
/-- A step, by its opcode. -/
theorem step_ind {P : R → Prop} {cx : Cx} {s : St} {x : Ins} (h1 : (x.op = 2 ∨ x.op = 3 ∨ x.op = 4) → P (stepBlock s x)) (h2 : x.op = 5 → P (stepElse s)) (h3 : x.op = 11 → P (stepEnd s))
  (hr : ¬ (x.op = 2 ∨ x.op = 3 ∨ x.op = 4) → x.op ≠ 5 → x.op ≠ 11 → P (stepBr s x) ∧ P (stepTable s x) ∧ P (stepLeave cx s x) ∧ P (stepCall cx s x) ∧ P (stepInd cx s x) ∧ P (stepDrop s) ∧ P (stepSel s) ∧ P (stepLocal cx s x) ∧ P (stepGlobal cx s x) ∧ P (stepPlain cx s x)) : P (step cx s x) := by
 unfold step
 by_cases n1 : x.op = 2 ∨ x.op = 3 ∨ x.op = 4
 ·rw [if_pos n1]; exact h1 n1
 rw [if_neg n1]
 by_cases n5 : x.op = 5
 ·rw [if_pos n5]; exact h2 n5
 rw [if_neg n5]
 by_cases n11 : x.op = 11
 ·rw [if_pos n11]; exact h3 n11
 rw [if_neg n11]
 obtain ⟨a1, a2, a3, a4, a5, a6, a7, a8, a9, a10⟩ := hr n1 n5 n11
 by_cases m1 : x.op = 12 ∨ x.op = 13
 ·rw [if_pos m1]; exact a1
 rw [if_neg m1]
 by_cases m2 : x.op = 14
 ·rw [if_pos m2]; exact a2
 rw [if_neg m2]
 by_cases m3 : x.op = 15 ∨ x.op = 0
 ·rw [if_pos m3]; exact a3
 rw [if_neg m3]
 by_cases m4 : x.op = 16
 ·rw [if_pos m4]; exact a4
 rw [if_neg m4]
 by_cases m5 : x.op = 17
 ·rw [if_pos m5]; exact a5
 rw [if_neg m5]
 by_cases m6 : x.op = 26
 ·rw [if_pos m6]; exact a6
 rw [if_neg m6]
 by_cases m7 : x.op = 27
 ·rw [if_pos m7]; exact a7
 rw [if_neg m7]
 by_cases m8 : x.op = 32 ∨ x.op = 33 ∨ x.op = 34
 ·rw [if_pos m8]; exact a8
 rw [if_neg m8]
 by_cases m9 : x.op = 35 ∨ x.op = 36
 ·rw [if_pos m9]; exact a9
 rw [if_neg m9]
 exact a10
theorem step_fine {cx : Cx} {s s' : St} {x : Ins} {o' : Bts} (h : Fine s) (hm : mark s.o x.op = some o') (e : step cx s x = .ok s') : Fine s' ∧ s'.o = o' := by
 revert e
 refine step_ind (P := fun r => r = .ok s' → Fine s' ∧ s'.o = o') (fun hb e => ?_) (fun h5 e => ?_) (fun h11 e => ?_) (fun n1 n5 n11 => ?_)
 ·unfold stepBlock at e
  unfold mark at hm
  rw [if_pos hb] at hm
  have ho := Option.some.inj hm
  cases hw : (if x.op = 4 then want s.t [127] else some s.t) with
  | none => rw [hw] at e; cases e
  | some t =>
   rw [hw] at e
   cases e
   have ht : Inv t ∧ t.fs = s.t.fs := by
    split at hw
    ·exact ⟨h.inv.want hw, want_fs hw⟩
    ·cases hw; exact ⟨h.inv, rfl⟩
   refine ⟨⟨ht.1.opn _ _, ?_⟩, ho⟩
   show (t.fs ++ [_]).length = (s.o ++ [x.op]).length + 1
   rw [List.length_append, List.length_append, ht.2, h.deep]
   rfl
 ·unfold stepElse at e
  unfold mark at hm
  rw [h5] at hm
  rw [if_neg (by decide), if_pos rfl] at hm
  split at hm
  ·rename_i hl
   have ho := Option.some.inj hm
   cases hc : close s.t with
   | none => rw [hc] at e; cases e
   | some p =>
    obtain ⟨b, t⟩ := p
    rw [hc] at e
    cases e
    have hf := close_fs hc
    refine ⟨⟨(h.inv.close hc).opn _ _, ?_⟩, ho⟩
    show (t.fs ++ [_]).length = (s.o.dropLast ++ [5]).length + 1
    have hne : s.o ≠ [] := fun e => by rw [e] at hl; cases hl
    have := List.length_pos_iff.2 hne
    rw [List.length_append, List.length_append, hf.1, List.length_dropLast, List.length_dropLast, h.deep]
    simp
    omega
  ·cases hm
 ·unfold stepEnd at e
  unfold mark at hm
  rw [h11] at hm
  rw [if_neg (by decide), if_neg (by decide), if_pos rfl] at hm
  split at hm
  ·cases hm
  ·rename_i hne
   have ho := Option.some.inj hm
   cases hc : close s.t with
   | none => rw [hc] at e; cases e
   | some p =>
    obtain ⟨b, t⟩ := p
    rw [hc] at e
    simp only at e
    split at e
    ·cases e
    ·cases e
     have hf := close_fs hc
     have := List.length_pos_iff.2 hne
     refine ⟨⟨(h.inv.close hc).push _, ?_⟩, ho⟩
     show t.fs.length = s.o.dropLast.length + 1
     rw [hf.1, List.length_dropLast, List.length_dropLast, h.deep]
     omega
 have ho := mark_same hm n1 n5 n11
 rw [ho]
 have killed : ∀ {t : Stk} {ts : Bts}, want s.t ts = some t → ∀ {s' : St}, (Except.ok { s with t := kill t } : R) = .ok s' → Fine s' ∧ s'.o = s.o := fun hw _ e => by
  cases e; exact ⟨killed_fine h hw, rfl⟩
 refine ⟨fun e => ?_, fun e => ?_, fun e => ?_, fun e => ?_, fun e => ?_, fun e => ?_, fun e => ?_, fun e => ?_, fun e => ?_, fun e => ?_⟩
 ·unfold stepBr at e
  cases hl : label s.t x.a with
  | none => rw [hl] at e; cases e
  | some l =>
   rw [hl] at e
   simp only at e
   by_cases h13 : x.op = 13
   ·rw [if_pos h13] at e; exact takes_fine h e
   ·rw [if_neg h13] at e
    cases hw : want s.t l with
    | none => rw [hw] at e; cases e
    | some t => rw [hw] at e; exact killed hw e
 ·unfold stepTable at e
  cases hl : label s.t x.a with
  | none => rw [hl] at e; cases e
  | some l =>
   rw [hl] at e
   simp only at e
   split at e
   ·cases e
   ·split at e
    ·cases e
    ·cases hw : want s.t (l ++ [127]) with
     | none => rw [hw] at e; cases e
     | some t => rw [hw] at e; exact killed hw e
 ·unfold stepLeave at e
  split at e
  ·cases e
   exact ⟨⟨h.inv.kill, by show (kill s.t).fs.length = _; rw [kill_fs]; exact h.deep⟩, rfl⟩
  ·cases hw : want s.t cx.fn.r with
   | none => rw [hw] at e; cases e
   | some t => rw [hw] at e; exact killed hw e
 ·unfold stepCall at e
  cases hf : cx.s.func x.a with
  | none => rw [hf] at e; cases e
  | some f => rw [hf] at e; exact takes_fine h e
 ·unfold stepInd at e
  cases hf : cx.s.type x.a with
  | none => rw [hf] at e; cases e
  | some f =>
   rw [hf] at e
   simp only at e
   split at e
   ·exact takes_fine h e
   ·cases e
 ·unfold stepDrop at e
  cases hp : pop s.t with
  | none => rw [hp] at e; cases e
  | some p =>
   obtain ⟨t, s2⟩ := p
   rw [hp] at e
   cases e
   exact ⟨⟨h.inv.pop hp, by show s2.fs.length = _; rw [pop_fs hp]; exact h.deep⟩, rfl⟩
 ·unfold stepSel at e
  cases hw : want s.t [127] with
  | none => rw [hw] at e; cases e
  | some t =>
   rw [hw] at e
   simp only at e
   cases hp : pop t with
   | none => rw [hp] at e; cases e
   | some p =>
    obtain ⟨a, t1⟩ := p
    rw [hp] at e
    simp only at e
    cases hq : pop t1 with
    | none => rw [hq] at e; cases e
    | some p =>
     obtain ⟨b, t2⟩ := p
     rw [hq] at e
     simp only at e
     split at e
     ·cases e
     ·cases e
      refine ⟨⟨(((h.inv.want hw).pop hp).pop hq).push _, ?_⟩, rfl⟩
      show t2.fs.length = _
      rw [pop_fs hq, pop_fs hp, want_fs hw]
      exact h.deep
 ·unfold stepLocal at e
  cases hl : locT cx.fn cx.c x.a with
  | none => rw [hl] at e; cases e
  | some t =>
   rw [hl] at e
   simp only at e
   split at e
   ·exact takes_fine h e
   ·split at e
    ·exact takes_fine h e
    ·exact takes_fine h e
 ·unfold stepGlobal at e
  cases hg : cx.s.glob x.a with
  | none => rw [hg] at e; cases e
  | some g =>
   rw [hg] at e
   simp only at e
   split at e
   ·exact takes_fine h e
   ·split at e
    ·cases e
    ·exact takes_fine h e
 ·unfold stepPlain at e
  split at e
  ·cases e
  ·split at e
   ·cases e
   ·exact takes_fine h e
/-- An error's number is never 0. -/
theorem step_err (cx : Cx) (s : St) (x : Ins) : step cx s x ≠ .error 0 := by
 have takes_err : ∀ (ps rs : Bts), takes s ps rs ≠ .error 0 := fun ps rs e => by
  unfold takes at e
  cases hw : want s.t ps with
  | none => rw [hw] at e; injection e with e; cases e
  | some t => rw [hw] at e; cases e
 have bad : ∀ {n : Nat}, n ≠ 0 → (Except.error n : R) ≠ .error 0 := fun hn e => hn (by injection e)
 have good : ∀ {s' : St}, (Except.ok s' : R) ≠ .error 0 := fun e => by cases e
 refine step_ind (P := fun r => r ≠ .error 0) (fun _ => ?_) (fun _ => ?_) (fun _ => ?_) (fun _ _ _ => ⟨?_, ?_, ?_, ?_, ?_, ?_, ?_, ?_, ?_, ?_⟩)
 ·unfold stepBlock; split
  ·exact bad (by decide)
  ·exact good
 ·unfold stepElse; split
  ·exact bad (by decide)
  ·exact good
 ·unfold stepEnd; split
  ·exact bad (by decide)
  ·split
   ·exact bad (by decide)
   ·exact good
 ·unfold stepBr; split
  ·exact bad (by decide)
  ·split
   ·exact takes_err _ _
   ·split
    ·exact bad (by decide)
    ·exact good
 ·unfold stepTable; split
  ·exact bad (by decide)
  ·split
   ·exact bad (by decide)
   ·split
    ·exact bad (by decide)
    ·split
     ·exact bad (by decide)
     ·exact good
 ·unfold stepLeave; split
  ·exact good
  ·split
   ·exact bad (by decide)
   ·exact good
 ·unfold stepCall; split
  ·exact bad (by decide)
  ·exact takes_err _ _
 ·unfold stepInd; split
  ·exact bad (by decide)
  ·split
   ·exact takes_err _ _
   ·exact bad (by decide)
 ·unfold stepDrop; split
  ·exact bad (by decide)
  ·exact good
 ·unfold stepSel; split
  ·exact bad (by decide)
  ·split
   ·exact bad (by decide)
   ·split
    ·exact bad (by decide)
    ·split
     ·exact bad (by decide)
     ·exact good
 ·unfold stepLocal; split
  ·exact bad (by decide)
  ·split
   ·exact takes_err _ _
   ·split
    ·exact takes_err _ _
    ·exact takes_err _ _
 ·unfold stepGlobal; split
  ·exact bad (by decide)
  ·split
   ·exact takes_err _ _
   ·split
    ·exact bad (by decide)
    ·exact takes_err _ _
 ·unfold stepPlain; split
  ·exact bad (by decide)
  ·split
   ·exact bad (by decide)
   ·exact takes_err _ _
theorem run_err (cx : Cx) : ∀ (l : List Ins) (s : St), run cx s l ≠ .error 0
 | [], _, e => by cases e
 | y :: r, s, e => by
  rw [run] at e
  cases hy : step cx s y with
  | error k =>
   rw [hy] at e
   have e' : (Except.error k : R) = .error 0 := e
   injection e' with e'
   subst e'
   exact step_err cx s y hy
  | ok s' => rw [hy] at e; exact run_err cx r s' e
theorem fine0 (ends : Bts) : Fine ⟨stk0 ends, []⟩ := ⟨Inv.opn ⟨fun f h => (by cases h), List.Pairwise.nil, Nat.le_refl _⟩ _ _, rfl⟩
theorem run_fine {cx : Cx} : ∀ {l : List Ins} {s s' : St} {o' : Bts}, Fine s → marks s.o l = some o' → run cx s l = .ok s' → Fine s' ∧ s'.o = o'
 | [], s, s', o', h, hm, e => by cases e; exact ⟨h, Option.some.inj hm⟩
 | x :: r, s, s', o', h, hm, e => by
  rw [marks] at hm
  split at hm
  ·cases hk : mark s.o x.op with
   | none => rw [hk] at hm; cases hm
   | some o1 =>
    rw [hk] at hm
    rw [run] at e
    cases hs : step cx s x with
    | error k => rw [hs] at e; cases e
    | ok s1 =>
     rw [hs] at e
     obtain ⟨h1, h2⟩ := step_fine h hk hs
     exact run_fine h1 (by rw [h2]; exact hm) e
  ·cases hm
/-- A nop. -/
def IsNop (x : Ins) : Prop := x.op = 1 ∧ x.a = 0 ∧ x.b = 0 ∧ x.c = 0 ∧ x.ls = []
theorem may_nop {x : Ins} (h : IsNop x) : mayB x = true := by
 obtain ⟨h1, h2, h3, h4, h5⟩ := h
 unfold mayB
 rw [h1, h2, h3, h4, h5]
 decide
theorem step_nop {cx : Cx} {s : St} {x : Ins} (hx : IsNop x) (h : Fine s) : step cx s x = .ok s := by
 obtain ⟨f, hf⟩ := last_of h
 have h1 := hx.1
 unfold step
 rw [h1]
 simp only [show ¬ ((1 : UInt8) = 2 ∨ (1 : UInt8) = 3 ∨ (1 : UInt8) = 4) by decide, show ¬ (1 : UInt8) = 5 by decide, show ¬ (1 : UInt8) = 11 by decide, show ¬ ((1 : UInt8) = 12 ∨ (1 : UInt8) = 13) by decide, show ¬ (1 : UInt8) = 14 by decide, show ¬ ((1 : UInt8) = 15 ∨ (1 : UInt8) = 0) by decide, show ¬ (1 : UInt8) = 16 by decide, show ¬ (1 : UInt8) = 17 by decide, show ¬ (1 : UInt8) = 26 by decide, show ¬ (1 : UInt8) = 27 by decide, show ¬ ((1 : UInt8) = 32 ∨ (1 : UInt8) = 33 ∨ (1 : UInt8) = 34) by decide, show ¬ ((1 : UInt8) = 35 ∨ (1 : UInt8) = 36) by decide, if_false]
 unfold stepPlain
 rw [h1, if_neg (fun e => by rcases e.1 with e | e <;> revert e <;> decide), if_neg (fun e => by have := e.1; revert this; decide)]
 have hs : sigL 1 = ([], []) := by decide
 rw [hs]
 have hw : want s.t [] = some s.t := by
  unfold want left
  rw [hf]
  show some { s.t with l := s.t.l.take s.t.l.length } = _
  rw [List.take_length]
 unfold takes
 rw [hw]
 show Except.ok { s with t := push s.t [] } = _
 have : push s.t [] = s.t := by
  unfold push
  rw [List.append_nil, List.length_nil, Nat.add_zero, Nat.max_eq_left h.inv.most]
 rw [this]
theorem marks_nop {x : Ins} (hx : IsNop x) (a b : List Ins) (o : Bts) : marks o (a ++ x :: b) = marks o (a ++ b) := by
 rw [marks_append, marks_append]
 congr 1
 funext o'
 rw [marks, may_nop hx, if_pos rfl]
 have : mark o' x.op = some o' := by
  unfold mark
  rw [hx.1]
  rfl
 rw [this]
/-- A NOP ANYWHERE MAKES NO DIFFERENCE. -/
theorem chk_nop {cx cx' : Cx} {x : Ins} (hx : IsNop x) {a b : List Ins} (hb : cx.c.body = a ++ b) (hb' : cx'.c.body = a ++ x :: b) (hl : cx'.c.locs = cx.c.locs) (hf : cx'.fn = cx.fn) (hs : cx'.s = cx.s) : chk cx' = chk cx := by
 have hrun : ∀ (l : List Ins) (s : St), run cx' s l = run cx s l := by
  intro l
  induction l with
  | nil => intro s; rfl
  | cons y r ih =>
   intro s
   rw [run, run]
   have hst : step cx' s y = step cx s y := by
    unfold step stepLeave stepCall stepInd stepLocal stepGlobal stepPlain
    rw [hs, hf, show locT cx.fn cx'.c = locT cx.fn cx.c from funext fun i => by unfold locT; rw [hl]]
   rw [hst]
   cases step cx s y with
   | error e => rfl
   | ok s' => exact ih s'
 unfold chk
 rw [hl, hf, hb, hb']
 unfold exprOk
 rw [marks_nop hx a b []]
 by_cases hm : marks [] (a ++ b) = some []
 ·rw [hm]
  simp only [decide_true, Bool.true_eq_false, if_false, hrun]
  have : run cx ⟨stk0 cx.fn.r, []⟩ (a ++ x :: b) = run cx ⟨stk0 cx.fn.r, []⟩ (a ++ b) := by
   rw [run_append, run_append]
   cases hr : run cx ⟨stk0 cx.fn.r, []⟩ a with
   | error e => rfl
   | ok s =>
    rw [marks_append] at hm
    cases hma : marks [] a with
    | none => rw [hma] at hm; cases hm
    | some o1 =>
     have hfine := (run_fine (fine0 _) hma hr).1
     show run cx s (x :: b) = run cx s b
     rw [run, step_nop hx hfine]
  rw [this]
 ·rw [decide_eq_false hm]
  rfl
end Go.Proofs.YtmgjcaikldeioaaGreat.Ty
