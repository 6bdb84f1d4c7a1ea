/- A body in a block of the function's result; a branch of the outermost label as a return: plain. -/
import Derived.Test.YtmgjcaikldeioaaVc
namespace Go.Proofs.Ytmgjcaikldeioaa.Ty
open Gr

theorem notF {b : Bool} (h : ¬ b = false) : b = true := by cases b <;> simp_all
theorem step_ind2 {P : R → R → Prop} {cx cx2 : Cx} {s s2 : St} {x : Ins} (h1 : (x.op = 2 ∨ x.op = 3 ∨ x.op = 4) → P (stepBlock s x) (stepBlock s2 x)) (h2 : x.op = 5 → P (stepElse s) (stepElse s2)) (h3 : x.op = 11 → P (stepEnd s) (stepEnd s2))
    (hr : ¬ (x.op = 2 ∨ x.op = 3 ∨ x.op = 4) → x.op ≠ 5 → x.op ≠ 11 → P (stepBr s x) (stepBr s2 x) ∧ P (stepTable s x) (stepTable s2 x) ∧ P (stepLeave cx s x) (stepLeave cx2 s2 x) ∧ P (stepCall cx s x) (stepCall cx2 s2 x) ∧ P (stepInd cx s x) (stepInd cx2 s2 x) ∧ P (stepDrop s) (stepDrop s2) ∧ P (stepSel s) (stepSel s2) ∧ P (stepLocal cx s x) (stepLocal cx2 s2 x) ∧ P (stepGlobal cx s x) (stepGlobal cx2 s2 x) ∧ P (stepPlain cx s x) (stepPlain cx2 s2 x)) : P (step cx s x) (step cx2 s2 x) := by
  unfold step
  by_cases n1 : x.op = 2 ∨ x.op = 3 ∨ x.op = 4
  · rw [if_pos n1, if_pos n1]; exact h1 n1
  rw [if_neg n1, if_neg n1]
  by_cases n5 : x.op = 5
  · rw [if_pos n5, if_pos n5]; exact h2 n5
  rw [if_neg n5, if_neg n5]
  by_cases n11 : x.op = 11
  · rw [if_pos n11, if_pos n11]; exact h3 n11
  rw [if_neg n11, if_neg n11]
  obtain ⟨a1, a2, a3, a4, a5, a6, a7, a8, a9, a10⟩ := hr n1 n5 n11
  by_cases m1 : x.op = 12 ∨ x.op = 13
  · rw [if_pos m1, if_pos m1]; exact a1
  rw [if_neg m1, if_neg m1]
  by_cases m2 : x.op = 14
  · rw [if_pos m2, if_pos m2]; exact a2
  rw [if_neg m2, if_neg m2]
  by_cases m3 : x.op = 15 ∨ x.op = 0
  · rw [if_pos m3, if_pos m3]; exact a3
  rw [if_neg m3, if_neg m3]
  by_cases m4 : x.op = 16
  · rw [if_pos m4, if_pos m4]; exact a4
  rw [if_neg m4, if_neg m4]
  by_cases m5 : x.op = 17
  · rw [if_pos m5, if_pos m5]; exact a5
  rw [if_neg m5, if_neg m5]
  by_cases m6 : x.op = 26
  · rw [if_pos m6, if_pos m6]; exact a6
  rw [if_neg m6, if_neg m6]
  by_cases m7 : x.op = 27
  · rw [if_pos m7, if_pos m7]; exact a7
  rw [if_neg m7, if_neg m7]
  by_cases m8 : x.op = 32 ∨ x.op = 33 ∨ x.op = 34
  · rw [if_pos m8, if_pos m8]; exact a8
  rw [if_neg m8, if_neg m8]
  by_cases m9 : x.op = 35 ∨ x.op = 36
  · rw [if_pos m9, if_pos m9]; exact a9
  rw [if_neg m9, if_neg m9]
  exact a10
/-- A step does not look at the body. -/
theorem step_cx {cx cx' : Cx} (hl : cx'.c.locs = cx.c.locs) (hf : cx'.fn = cx.fn) (hs : cx'.s = cx.s) (s : St) (x : Ins) : step cx' s x = step cx s x := by
  unfold step stepLeave stepCall stepInd stepLocal stepGlobal stepPlain
  rw [hs, hf, show locT cx.fn cx'.c = locT cx.fn cx.c from funext fun i => by unfold locT; rw [hl]]
theorem run_cx {cx cx' : Cx} (hl : cx'.c.locs = cx.c.locs) (hf : cx'.fn = cx.fn) (hs : cx'.s = cx.s) : ∀ (l : List Ins) (s : St), run cx' s l = run cx s l
  | [], _ => rfl
  | y :: r, s => by
    rw [run, run, step_cx hl hf hs]
    cases step cx s y with
    | error e => rfl
    | ok s' => exact run_cx hl hf hs r s'

/-! ### one frame more beneath -/
def liftT (f0 : Frm) (t : Stk) : Stk := { t with fs := f0 :: t.fs }
def lift (f0 : Frm) (s : St) : St := ⟨liftT f0 s.t, 2 :: s.o⟩
section
variable {f0 : Frm} {t u : Stk}
theorem last_cons {α : Type} {a : α} {l : List α} (h : l ≠ []) : (a :: l).getLast? = l.getLast? := by
  cases l with
  | nil => exact absurd rfl h
  | cons b r => exact List.getLast?_cons_cons
theorem drop_cons {α : Type} {a : α} {l : List α} (h : l ≠ []) : (a :: l).dropLast = a :: l.dropLast := by
  cases l with
  | nil => exact absurd rfl h
  | cons b r => rfl
theorem left_lift (h : t.fs ≠ []) (ts : Bts) : left (liftT f0 t) ts = left t ts := by
  unfold left
  rw [show (liftT f0 t).fs.getLast? = t.fs.getLast? from last_cons h]
  rfl
theorem want_lift (h : t.fs ≠ []) {ts : Bts} (e : want t ts = some u) : want (liftT f0 t) ts = some (liftT f0 u) := by
  unfold want at e ⊢
  rw [left_lift h]
  cases hl : left t ts with
  | none => rw [hl] at e; cases e
  | some n => rw [hl] at e; obtain rfl := Option.some.inj e; rfl
theorem close_lift (h : t.fs ≠ []) {b : Bts} (e : close t = some (b, u)) : close (liftT f0 t) = some (b, liftT f0 u) := by
  unfold close at e ⊢
  rw [show (liftT f0 t).fs.getLast? = t.fs.getLast? from last_cons h]
  cases hf : t.fs.getLast? with
  | none => rw [hf] at e; cases e
  | some f =>
    rw [hf] at e
    simp only at e ⊢
    rw [left_lift h]
    split at e
    · rename_i hl
      obtain ⟨rfl, rfl⟩ := Prod.mk.inj (Option.some.inj e)
      rw [if_pos hl]
      show some (f.ends, (⟨t.l.take f.ht, (f0 :: t.fs).dropLast, t.most⟩ : Stk)) = _
      rw [drop_cons h]
      rfl
    · cases e
theorem kill_lift (h : t.fs ≠ []) : kill (liftT f0 t) = liftT f0 (kill t) := by
  unfold kill
  rw [show (liftT f0 t).fs.getLast? = t.fs.getLast? from last_cons h]
  cases hf : t.fs.getLast? with
  | none => rfl
  | some f =>
    show (⟨t.l.take f.ht, (f0 :: t.fs).dropLast ++ _, t.most⟩ : Stk) = _
    rw [drop_cons h]
    rfl
theorem pop_lift (h : t.fs ≠ []) {a : UInt8} (e : pop t = some (a, u)) : pop (liftT f0 t) = some (a, liftT f0 u) := by
  unfold pop at e ⊢
  rw [show (liftT f0 t).fs.getLast? = t.fs.getLast? from last_cons h]
  cases hf : t.fs.getLast? with
  | none => rw [hf] at e; cases e
  | some f =>
    rw [hf] at e
    simp only at e ⊢
    split at e
    · rename_i hlt
      rw [if_pos (show f.ht < (liftT f0 t).l.length from hlt)]
      cases hl : t.l.getLast? with
      | none => rw [hl] at e; cases e
      | some t' =>
        rw [hl] at e
        obtain ⟨rfl, rfl⟩ := Prod.mk.inj (Option.some.inj e)
        show (t.l.getLast?).map _ = _
        rw [hl]
        rfl
    · rename_i hlt
      rw [if_neg (show ¬ f.ht < (liftT f0 t).l.length from hlt)]
      split at e
      · rename_i hd
        obtain ⟨rfl, rfl⟩ := Prod.mk.inj (Option.some.inj e)
        rw [if_pos hd]
      · cases e
theorem label_lift {n : Nat} {l : Bts} (e : label t n = some l) : label (liftT f0 t) n = some l := by
  unfold label at e ⊢
  split at e
  · rename_i hn
    rw [if_pos (show n < (liftT f0 t).fs.length by show n < t.fs.length + 1; omega)]
    show ((f0 :: t.fs)[t.fs.length + 1 - 1 - n]?).map _ = _
    rw [show t.fs.length + 1 - 1 - n = (t.fs.length - 1 - n) + 1 by omega, List.getElem?_cons_succ]
    exact e
  · cases e
end
theorem Fine.ne {s : St} (h : Fine s) : s.t.fs ≠ [] := fun e => by have := h.deep; rw [e] at this; simp at this
theorem takes_lift {f0 : Frm} {s s' : St} (h : s.t.fs ≠ []) {ps rs : Bts} (e : takes s ps rs = .ok s') : takes (lift f0 s) ps rs = .ok (lift f0 s') := by
  unfold takes at e ⊢
  cases hw : want s.t ps with
  | none => rw [hw] at e; cases e
  | some t =>
    rw [hw] at e
    cases e
    rw [show want (lift f0 s).t ps = some (liftT f0 t) from want_lift h hw]
    rfl
theorem killed_lift {f0 : Frm} {s s' : St} {t : Stk} (ht : t.fs ≠ []) (e : (Except.ok { s with t := kill t } : R) = .ok s') : (Except.ok { lift f0 s with t := kill (liftT f0 t) } : R) = .ok (lift f0 s') := by
  cases e
  rw [kill_lift ht]
  rfl
theorem step_lift {cx cx2 : Cx} (hl : cx2.c.locs = cx.c.locs) (hfn : cx2.fn = cx.fn) (hsp : cx2.s = cx.s) {f0 : Frm} {s s' : St} {x : Ins} {o' : Bts} (h : Fine s) (hm : mark s.o x.op = some o') (e : step cx s x = .ok s') : step cx2 (lift f0 s) x = .ok (lift f0 s') := by
  rw [step_cx hl hfn hsp]
  have hne := h.ne
  revert e
  refine step_ind2 (P := fun r r2 => r = .ok s' → r2 = .ok (lift f0 s')) (fun hb e => ?_) (fun h5 e => ?_) (fun h11 e => ?_) (fun n1 n5 n11 => ?_)
  · unfold stepBlock at e ⊢
    by_cases h4 : x.op = 4
    · simp only [if_pos h4] at e ⊢
      cases hw : want s.t [127] with
      | none => rw [hw] at e; cases e
      | some t =>
        rw [hw] at e
        cases e
        rw [show want (lift f0 s).t [127] = some (liftT f0 t) from want_lift hne hw]
        rfl
    · simp only [if_neg h4] at e ⊢
      cases e
      rfl
  · unfold stepElse at e ⊢
    unfold mark at hm
    rw [h5, if_neg (by decide), if_pos rfl] at hm
    split at hm
    · rename_i ho
      have hon : s.o ≠ [] := fun e => by rw [e] at ho; cases ho
      cases hc : close s.t with
      | none => rw [hc] at e; cases e
      | some p =>
        obtain ⟨b, t⟩ := p
        rw [hc] at e
        cases e
        rw [show close (lift f0 s).t = some (b, liftT f0 t) from close_lift hne hc]
        show (Except.ok ⟨_, (2 :: s.o).dropLast ++ [5]⟩ : R) = _
        rw [drop_cons hon]
        rfl
    · cases hm
  · unfold stepEnd at e ⊢
    unfold mark at hm
    rw [h11, if_neg (by decide), if_neg (by decide), if_pos rfl] at hm
    split at hm
    · cases hm
    · rename_i hon
      cases hc : close s.t with
      | none => rw [hc] at e; cases e
      | some p =>
        obtain ⟨b, t⟩ := p
        rw [hc] at e
        simp only at e
        rw [show close (lift f0 s).t = some (b, liftT f0 t) from close_lift hne hc]
        show (if (2 :: s.o).getLast? = some 4 ∧ b ≠ [] then (Except.error 100 : R) else Except.ok ⟨push (liftT f0 t) b, (2 :: s.o).dropLast⟩) = _
        rw [last_cons hon, drop_cons hon]
        split at e
        · cases e
        · rename_i h4
          cases e
          rw [if_neg h4]
          rfl
  refine ⟨fun e => ?_, fun e => ?_, fun e => ?_, fun e => ?_, fun e => ?_, fun e => ?_, fun e => ?_, fun e => ?_, fun e => ?_, fun e => ?_⟩
  · unfold stepBr at e ⊢
    cases hl : label s.t x.a with
    | none => rw [hl] at e; cases e
    | some l =>
      rw [hl] at e
      simp only at e
      rw [show label (lift f0 s).t x.a = some l from label_lift hl]
      simp only
      by_cases h13 : x.op = 13
      · rw [if_pos h13] at e ⊢; exact takes_lift hne e
      · rw [if_neg h13] at e ⊢
        cases hw : want s.t l with
        | none => rw [hw] at e; cases e
        | some t =>
          rw [hw] at e
          rw [show want (lift f0 s).t l = some (liftT f0 t) from want_lift hne hw]
          exact killed_lift (by rw [want_fs hw]; exact hne) e
  · unfold stepTable at e ⊢
    cases hl : label s.t x.a with
    | none => rw [hl] at e; cases e
    | some l =>
      rw [hl] at e
      simp only at e
      rw [show label (lift f0 s).t x.a = some l from label_lift hl]
      simp only
      split at e
      · cases e
      · rename_i h1
        split at e
        · cases e
        · rename_i h2
          have h2' : ∀ n ∈ x.ls, label s.t n = some l := by
            have := notF h2
            rw [List.all_eq_true] at this
            exact fun n hn => of_decide_eq_true (this n hn)
          have h3 : ∀ n ∈ x.ls, label (lift f0 s).t n = some l := fun n hn => label_lift (h2' n hn)
          rw [if_neg (show ¬ (x.ls.any fun n => (label (lift f0 s).t n).isNone) = true from fun e => by
            rw [List.any_eq_true] at e
            obtain ⟨n, hn, he⟩ := e
            rw [h3 n hn] at he
            cases he), if_neg (show ¬ (x.ls.all fun n => decide (label (lift f0 s).t n = some l)) = false from fun e => by
            rw [List.all_eq_false] at e
            obtain ⟨n, hn, he⟩ := e
            exact he (decide_eq_true (h3 n hn)))]
          cases hw : want s.t (l ++ [127]) with
          | none => rw [hw] at e; cases e
          | some t =>
            rw [hw] at e
            rw [show want (lift f0 s).t (l ++ [127]) = some (liftT f0 t) from want_lift hne hw]
            exact killed_lift (by rw [want_fs hw]; exact hne) e
  · unfold stepLeave at e ⊢
    split at e
    · rename_i h0
      rw [if_pos h0]
      exact killed_lift hne e
    · rename_i h0
      rw [if_neg h0]
      cases hw : want s.t cx.fn.r with
      | none => rw [hw] at e; cases e
      | some t =>
        rw [hw] at e
        rw [show want (lift f0 s).t cx.fn.r = some (liftT f0 t) from want_lift hne hw]
        exact killed_lift (by rw [want_fs hw]; exact hne) e
  · unfold stepCall at e ⊢
    cases hf : cx.s.func x.a with
    | none => rw [hf] at e; cases e
    | some f => rw [hf] at e; exact takes_lift hne e
  · unfold stepInd at e ⊢
    cases hf : cx.s.type x.a with
    | none => rw [hf] at e; cases e
    | some f =>
      rw [hf] at e
      simp only at e ⊢
      split at e
      · rename_i h0
        rw [if_pos h0]
        exact takes_lift hne e
      · cases e
  · unfold stepDrop at e ⊢
    cases hp : pop s.t with
    | none => rw [hp] at e; cases e
    | some p =>
      obtain ⟨t, s2⟩ := p
      rw [hp] at e
      cases e
      rw [show pop (lift f0 s).t = some (t, liftT f0 s2) from pop_lift hne hp]
      rfl
  · unfold stepSel at e ⊢
    cases hw : want s.t [127] with
    | none => rw [hw] at e; cases e
    | some t =>
      rw [hw] at e
      simp only at e
      rw [show want (lift f0 s).t [127] = some (liftT f0 t) from want_lift hne hw]
      simp only
      have hn1 : t.fs ≠ [] := by rw [want_fs hw]; exact hne
      cases hp : pop t with
      | none => rw [hp] at e; cases e
      | some p =>
        obtain ⟨a, t1⟩ := p
        rw [hp] at e
        simp only at e
        rw [pop_lift hn1 hp]
        simp only
        have hn2 : t1.fs ≠ [] := by rw [pop_fs hp]; exact hn1
        cases hq : pop t1 with
        | none => rw [hq] at e; cases e
        | some p =>
          obtain ⟨b, t2⟩ := p
          rw [hq] at e
          simp only at e
          rw [pop_lift hn2 hq]
          simp only
          split at e
          · cases e
          · rename_i h0
            cases e
            rw [if_neg h0]
            rfl
  · unfold stepLocal at e ⊢
    cases hl : locT cx.fn cx.c x.a with
    | none => rw [hl] at e; cases e
    | some t =>
      rw [hl] at e
      simp only at e ⊢
      split at e
      · rename_i h0
        rw [if_pos h0]
        exact takes_lift hne e
      · rename_i h0
        rw [if_neg h0]
        split at e
        · rename_i h1
          rw [if_pos h1]
          exact takes_lift hne e
        · rename_i h1
          rw [if_neg h1]
          exact takes_lift hne e
  · unfold stepGlobal at e ⊢
    cases hg : cx.s.glob x.a with
    | none => rw [hg] at e; cases e
    | some g =>
      rw [hg] at e
      simp only at e ⊢
      split at e
      · rename_i h0
        rw [if_pos h0]
        exact takes_lift hne e
      · rename_i h0
        rw [if_neg h0]
        split at e
        · cases e
        · rename_i h1
          rw [if_neg h1]
          exact takes_lift hne e
  · unfold stepPlain at e ⊢
    split at e
    · cases e
    · rename_i h0
      rw [if_neg h0]
      split at e
      · cases e
      · rename_i h1
        rw [if_neg h1]
        exact takes_lift hne e
theorem run_lift {cx cx2 : Cx} (hl : cx2.c.locs = cx.c.locs) (hfn : cx2.fn = cx.fn) (hsp : cx2.s = cx.s) {f0 : Frm} : ∀ {l : List Ins} {s s' : St} {o' : Bts}, Fine s → marks s.o l = some o' → run cx s l = .ok s' → run cx2 (lift f0 s) l = .ok (lift f0 s')
  | [], s, s', o', h, hm, e => by cases e; rfl
  | x :: r, s, s', o', h, hm, e => by
    rw [marks] at hm
    split at hm
    · cases hk : mark s.o x.op with
      | none => rw [hk] at hm; cases hm
      | some o1 =>
        rw [hk] at hm
        rw [run] at e ⊢
        cases hs : step cx s x with
        | error k => rw [hs] at e; cases e
        | ok s1 =>
          rw [hs] at e
          rw [step_lift hl hfn hsp h hk hs]
          obtain ⟨h1, h2⟩ := step_fine h hk hs
          exact run_lift hl hfn hsp h1 (by rw [h2]; exact hm) e
    · cases hm
theorem marks_lift {p : UInt8} : ∀ {l : List Ins} {o o' : Bts}, marks o l = some o' → marks (p :: o) l = some (p :: o')
  | [], o, o', e => by cases e; rfl
  | x :: r, o, o', e => by
    rw [marks] at e ⊢
    split at e
    · rename_i hx
      rw [if_pos hx]
      cases hk : mark o x.op with
      | none => rw [hk] at e; cases e
      | some o1 =>
        rw [hk] at e
        have : mark (p :: o) x.op = some (p :: o1) := by
          unfold mark at hk ⊢
          split at hk
          · rename_i h1
            rw [if_pos h1]; cases hk; rfl
          · rename_i h1
            rw [if_neg h1]
            split at hk
            · rename_i h2
              rw [if_pos h2]
              split at hk
              · rename_i h3
                have hon : o ≠ [] := fun e => by rw [e] at h3; cases h3
                rw [last_cons hon, if_pos h3, drop_cons hon]
                cases hk; rfl
              · cases hk
            · rename_i h2
              rw [if_neg h2]
              split at hk
              · rename_i h3
                rw [if_pos h3]
                split at hk
                · cases hk
                · rename_i hon
                  rw [if_neg (by simp), drop_cons hon]
                  cases hk; rfl
              · rename_i h3
                rw [if_neg h3]
                cases hk; rfl
        rw [this]
        exact marks_lift e
    · cases e

/-! ### the outermost frame -/
def Hd (r : Bts) (s : St) : Prop := ∃ d, s.t.fs.head? = some ⟨r, r, 0, d⟩
theorem head_app {α : Type} {a : α} {l m : List α} (h : l.head? = some a) : (l ++ m).head? = some a := by
  cases l with
  | nil => cases h
  | cons b r => exact h
theorem head_drop {α : Type} {l : List α} (h : 2 ≤ l.length) : l.dropLast.head? = l.head? := by
  match l, h with
  | a :: b :: r, _ => rfl
theorem kill_hd {r : Bts} {t : Stk} (h : ∃ d, t.fs.head? = some ⟨r, r, 0, d⟩) : ∃ d, (kill t).fs.head? = some ⟨r, r, 0, d⟩ := by
  unfold kill
  cases hf : t.fs.getLast? with
  | none => exact h
  | some f =>
    simp only
    obtain ⟨d, hd⟩ := h
    by_cases h2 : 2 ≤ t.fs.length
    · exact ⟨d, head_app (by rw [head_drop h2]; exact hd)⟩
    · match hfs : t.fs with
      | [] => rw [hfs] at hd; cases hd
      | [a] =>
        rw [hfs] at hd hf
        obtain rfl := Option.some.inj hf
        obtain rfl := Option.some.inj hd
        exact ⟨true, rfl⟩
      | a :: b :: r => rw [hfs] at h2; exact absurd (by simp) h2
theorem takes_hd {r : Bts} {s s' : St} {ps rs : Bts} (h : Hd r s) (e : takes s ps rs = .ok s') : Hd r s' := by
  unfold takes at e
  cases hw : want s.t ps with
  | none => rw [hw] at e; cases e
  | some t => rw [hw] at e; cases e; obtain ⟨d, hd⟩ := h; exact ⟨d, by show t.fs.head? = _; rw [want_fs hw]; exact hd⟩
theorem step_hd {cx : Cx} {r : Bts} {s s' : St} {x : Ins} {o' : Bts} (h : Fine s) (hh : Hd r s) (hm : mark s.o x.op = some o') (e : step cx s x = .ok s') : Hd r s' := by
  have killed : ∀ {t : Stk} {ts : Bts}, want s.t ts = some t → ∀ {s' : St}, (Except.ok { s with t := kill t } : R) = .ok s' → Hd r s' := fun hw _ e => by
    cases e; exact kill_hd (by rw [want_fs hw]; exact hh)
  revert e
  refine step_ind (P := fun q => q = .ok s' → Hd r s') (fun hb e => ?_) (fun h5 e => ?_) (fun h11 e => ?_) (fun n1 n5 n11 => ?_)
  · unfold stepBlock at e
    cases hw : (if x.op = 4 then want s.t [127] else some s.t) with
    | none => rw [hw] at e; cases e
    | some t =>
      rw [hw] at e
      cases e
      have ht : t.fs = s.t.fs := by
        split at hw
        · exact want_fs hw
        · cases hw; rfl
      obtain ⟨d, hd⟩ := hh
      exact ⟨d, head_app (by rw [ht]; exact hd)⟩
  · unfold stepElse at e
    unfold mark at hm
    rw [h5, if_neg (by decide), if_pos rfl] at hm
    split at hm
    · rename_i ho
      have hon : s.o ≠ [] := fun e => by rw [e] at ho; cases ho
      have := List.length_pos_iff.2 hon
      have := h.deep
      cases hc : close s.t with
      | none => rw [hc] at e; cases e
      | some p =>
        obtain ⟨b, t⟩ := p
        rw [hc] at e
        cases e
        obtain ⟨d, hd⟩ := hh
        exact ⟨d, head_app (by rw [(close_fs hc).1, head_drop (by omega)]; exact hd)⟩
    · cases hm
  · unfold stepEnd at e
    unfold mark at hm
    rw [h11, if_neg (by decide), if_neg (by decide), if_pos rfl] at hm
    split at hm
    · cases hm
    · rename_i hon
      have := List.length_pos_iff.2 hon
      have := h.deep
      cases hc : close s.t with
      | none => rw [hc] at e; cases e
      | some p =>
        obtain ⟨b, t⟩ := p
        rw [hc] at e
        simp only at e
        split at e
        · cases e
        · cases e
          obtain ⟨d, hd⟩ := hh
          exact ⟨d, by show t.fs.head? = _; rw [(close_fs hc).1, head_drop (by omega)]; exact hd⟩
  refine ⟨fun e => ?_, fun e => ?_, fun e => ?_, fun e => ?_, fun e => ?_, fun e => ?_, fun e => ?_, fun e => ?_, fun e => ?_, fun e => ?_⟩
  · unfold stepBr at e
    cases hl : label s.t x.a with
    | none => rw [hl] at e; cases e
    | some l =>
      rw [hl] at e
      simp only at e
      by_cases h13 : x.op = 13
      · rw [if_pos h13] at e; exact takes_hd hh e
      · rw [if_neg h13] at e
        cases hw : want s.t l with
        | none => rw [hw] at e; cases e
        | some t => rw [hw] at e; exact killed hw e
  · unfold stepTable at e
    cases hl : label s.t x.a with
    | none => rw [hl] at e; cases e
    | some l =>
      rw [hl] at e
      simp only at e
      split at e
      · cases e
      · split at e
        · cases e
        · cases hw : want s.t (l ++ [127]) with
          | none => rw [hw] at e; cases e
          | some t => rw [hw] at e; exact killed hw e
  · unfold stepLeave at e
    split at e
    · cases e
      exact kill_hd hh
    · cases hw : want s.t cx.fn.r with
      | none => rw [hw] at e; cases e
      | some t => rw [hw] at e; exact killed hw e
  · unfold stepCall at e
    cases hf : cx.s.func x.a with
    | none => rw [hf] at e; cases e
    | some f => rw [hf] at e; exact takes_hd hh e
  · unfold stepInd at e
    cases hf : cx.s.type x.a with
    | none => rw [hf] at e; cases e
    | some f =>
      rw [hf] at e
      simp only at e
      split at e
      · exact takes_hd hh e
      · cases e
  · unfold stepDrop at e
    cases hp : pop s.t with
    | none => rw [hp] at e; cases e
    | some p =>
      obtain ⟨t, s2⟩ := p
      rw [hp] at e
      cases e
      obtain ⟨d, hd⟩ := hh
      exact ⟨d, by show s2.fs.head? = _; rw [pop_fs hp]; exact hd⟩
  · unfold stepSel at e
    cases hw : want s.t [127] with
    | none => rw [hw] at e; cases e
    | some t =>
      rw [hw] at e
      simp only at e
      cases hp : pop t with
      | none => rw [hp] at e; cases e
      | some p =>
        obtain ⟨a, t1⟩ := p
        rw [hp] at e
        simp only at e
        cases hq : pop t1 with
        | none => rw [hq] at e; cases e
        | some p =>
          obtain ⟨b, t2⟩ := p
          rw [hq] at e
          simp only at e
          split at e
          · cases e
          · cases e
            obtain ⟨d, hd⟩ := hh
            exact ⟨d, by show t2.fs.head? = _; rw [pop_fs hq, pop_fs hp, want_fs hw]; exact hd⟩
  · unfold stepLocal at e
    cases hl : locT cx.fn cx.c x.a with
    | none => rw [hl] at e; cases e
    | some t =>
      rw [hl] at e
      simp only at e
      split at e
      · exact takes_hd hh e
      · split at e
        · exact takes_hd hh e
        · exact takes_hd hh e
  · unfold stepGlobal at e
    cases hg : cx.s.glob x.a with
    | none => rw [hg] at e; cases e
    | some g =>
      rw [hg] at e
      simp only at e
      split at e
      · exact takes_hd hh e
      · split at e
        · cases e
        · exact takes_hd hh e
  · unfold stepPlain at e
    split at e
    · cases e
    · split at e
      · cases e
      · exact takes_hd hh e
theorem run_hd {cx : Cx} {r : Bts} : ∀ {l : List Ins} {s s' : St} {o' : Bts}, Fine s → Hd r s → marks s.o l = some o' → run cx s l = .ok s' → Hd r s'
  | [], s, s', o', h, hh, hm, e => by cases e; exact hh
  | x :: l, s, s', o', h, hh, hm, e => by
    rw [marks] at hm
    split at hm
    · cases hk : mark s.o x.op with
      | none => rw [hk] at hm; cases hm
      | some o1 =>
        rw [hk] at hm
        rw [run] at e
        cases hs : step cx s x with
        | error k => rw [hs] at e; cases e
        | ok s1 =>
          rw [hs] at e
          obtain ⟨h1, h2⟩ := step_fine h hk hs
          exact run_hd h1 (step_hd h hh hk hs) (by rw [h2]; exact hm) e
    · cases hm
theorem hd0 (r : Bts) : Hd r ⟨stk0 r, []⟩ := ⟨false, rfl⟩

/-! ### in a block -/
/-- A body in a block. -/
def inL (t : Nat) (l : List Ins) : List Ins := ins 2 t 0 :: l ++ [ins 11 0 0]
theorem chk_in {cx cx' : Cx} {t : Nat} (hb' : cx'.c.body = inL t cx.c.body) (hl : cx'.c.locs = cx.c.locs) (hf : cx'.fn = cx.fn) (hs : cx'.s = cx.s) (ht : t = 64 ∧ cx.fn.r = [] ∨ (t = 127 ∨ t = 126) ∧ cx.fn.r = [UInt8.ofNat t]) (hok : (chk cx).2 = 0) : chk cx' = (max (chk cx).1 cx.fn.r.length, 0) := by
  have htr : resT t = cx.fn.r := by
    rcases ht with ⟨rfl, e⟩ | ⟨rfl | rfl, e⟩ <;> rw [e] <;> rfl
  have htm : mayB (ins 2 t 0) = true := by
    rcases ht with ⟨rfl, e⟩ | ⟨rfl | rfl, e⟩ <;> rfl
  unfold chk at hok ⊢
  rw [hl, hf, hb']
  by_cases he : exprOk cx.c.body = false
  · rw [if_pos he] at hok; cases hok
  have he' : marks [] cx.c.body = some [] := of_decide_eq_true (notF he)
  rw [if_neg he] at hok ⊢
  by_cases hlo : (cx.c.locs.any fun l => l.t != 127 && l.t != 126) = true
  · rw [if_pos hlo] at hok; cases hok
  rw [if_neg hlo] at hok ⊢
  have hm : marks [] (inL t cx.c.body) = some [] := by
    unfold inL
    rw [List.cons_append, marks, if_pos htm]
    show marks [2] _ = _
    rw [marks_append, marks_lift he']
    show marks [2] [ins 11 0 0] = some []
    decide
  rw [if_neg (show ¬ exprOk (inL t cx.c.body) = false by unfold exprOk; rw [hm]; simp)]
  rw [if_neg hlo]
  cases hr : run cx ⟨stk0 cx.fn.r, []⟩ cx.c.body with
  | error e =>
    rw [hr] at hok
    simp only at hok
    subst hok
    exact absurd hr (run_err cx _ _)
  | ok s =>
    rw [hr] at hok
    simp only at hok ⊢
    obtain ⟨hfine, hso⟩ := run_fine (fine0 _) he' hr
    obtain ⟨d, hhd⟩ := run_hd (fine0 _) (hd0 _) he' hr
    cases hc : close s.t with
    | none => rw [hc] at hok; cases hok
    | some p =>
      obtain ⟨b, u⟩ := p
      have hrun : run cx' ⟨stk0 cx.fn.r, []⟩ (inL t cx.c.body) = .ok ⟨push (liftT ⟨cx.fn.r, cx.fn.r, 0, false⟩ u) b, []⟩ := by
        unfold inL
        rw [List.cons_append, run]
        have h1 : step cx' ⟨stk0 cx.fn.r, []⟩ (ins 2 t 0) = .ok (lift ⟨cx.fn.r, cx.fn.r, 0, false⟩ ⟨stk0 cx.fn.r, []⟩) := by
          show stepBlock _ (ins 2 t 0) = _
          unfold stepBlock
          show Except.ok (⟨opn (stk0 cx.fn.r) (resT t) (resT t), [2]⟩ : St) = _
          rw [htr]
          rfl
        rw [h1]
        show run cx' _ _ = _
        rw [run_append, run_lift hl hf hs (fine0 _) he' hr]
        show run cx' (lift _ s) [ins 11 0 0] = _
        rw [run]
        have h2 : step cx' (lift ⟨cx.fn.r, cx.fn.r, 0, false⟩ s) (ins 11 0 0) = .ok ⟨push (liftT ⟨cx.fn.r, cx.fn.r, 0, false⟩ u) b, []⟩ := by
          show stepEnd _ = _
          unfold stepEnd
          rw [show close (lift ⟨cx.fn.r, cx.fn.r, 0, false⟩ s).t = _ from close_lift hfine.ne hc]
          show (if (2 :: s.o).getLast? = some 4 ∧ b ≠ [] then (Except.error 100 : R) else Except.ok ⟨push (liftT _ u) b, (2 :: s.o).dropLast⟩) = _
          rw [hso, if_neg (fun e => by have := e.1; revert this; decide)]
          rfl
        rw [h2]
        rfl
      rw [hrun]
      simp only
      have hlen := hfine.deep
      rw [hso] at hlen
      have hfs : s.t.fs = [⟨cx.fn.r, cx.fn.r, 0, d⟩] := by
        match hfs : s.t.fs with
        | [] => rw [hfs] at hhd; cases hhd
        | [a] => rw [hfs] at hhd; obtain rfl := Option.some.inj hhd; rfl
        | a :: b :: r => rw [hfs] at hlen; simp at hlen
      have hbu : b = cx.fn.r ∧ u = ⟨[], [], s.t.most⟩ := by
        unfold close at hc
        rw [hfs] at hc
        simp only [List.getLast?_singleton] at hc
        split at hc
        · obtain ⟨rfl, rfl⟩ := Prod.mk.inj (Option.some.inj hc)
          exact ⟨rfl, by rw [List.take_zero]; rfl⟩
        · cases hc
      obtain ⟨rfl, rfl⟩ := hbu
      have hcl : ∃ p, close (push (liftT ⟨cx.fn.r, cx.fn.r, 0, false⟩ ⟨[], [], s.t.most⟩) cx.fn.r) = some p := by
        rcases ht with ⟨_, e⟩ | ⟨_, e⟩
        · rw [e]
          exact ⟨_, rfl⟩
        · rw [e]
          unfold close
          simp only [push, liftT, List.getLast?_singleton, left, List.reverse_singleton, List.nil_append, List.length_singleton, leftGo]
          simp
      obtain ⟨p, hp⟩ := hcl
      rw [hp]
      simp only [push, liftT, List.length_nil, Nat.zero_add]

/-! ### a branch of the outermost label -/
def dp (d : Int) (op : UInt8) : Int := if op = 2 ∨ op = 3 ∨ op = 4 then IntKind.u32.wrap (d + 1) else if op = 11 then IntKind.u32.wrap (d - 1) else d
def outX (d : Int) (x : Ins) : Ins := if x.op = 12 ∧ (x.a : Int) = d then ins 15 0 0 else x
def outL : Int → List Ins → List Ins
  | _, [] => []
  | d, x :: r => outX d x :: outL (dp d x.op) r
theorem outL_len : ∀ (l : List Ins) (d : Int), (outL d l).length = l.length
  | [], _ => rfl
  | x :: r, d => by rw [outL, List.length_cons, List.length_cons, outL_len r]
theorem wrap_nat {n : Nat} (h : n < 4294967296) : IntKind.u32.wrap (n : Int) = n := by
  have : (n : Int) < 4294967296 := by omega
  show (n : Int) % 4294967296 = n
  omega
theorem dp_mark {o o' : Bts} {op : UInt8} (h : mark o op = some o') (hn : o.length + 1 < 4294967296) : dp (o.length : Int) op = (o'.length : Int) ∧ o'.length ≤ o.length + 1 := by
  unfold mark at h
  unfold dp
  split at h
  · rename_i h1
    rw [if_pos h1]
    cases h
    rw [List.length_append]
    exact ⟨(wrap_nat (n := o.length + 1) hn), by simp⟩
  · rename_i h1
    rw [if_neg h1]
    split at h
    · rename_i h2
      rw [h2, if_neg (by decide)]
      split at h
      · rename_i h3
        have hon : o ≠ [] := fun e => by rw [e] at h3; cases h3
        have := List.length_pos_iff.2 hon
        cases h
        rw [List.length_append, List.length_dropLast]
        simp only [List.length_singleton]
        omega
      · cases h
    · split at h
      · rename_i h3
        rw [if_pos h3]
        split at h
        · cases h
        · rename_i hon
          have := List.length_pos_iff.2 hon
          cases h
          rw [List.length_dropLast, show (o.length : Int) - 1 = ((o.length - 1 : Nat) : Int) by omega]
          exact ⟨wrap_nat (by omega), by omega⟩
      · rename_i h3
        rw [if_neg h3]
        cases h
        exact ⟨rfl, by omega⟩
theorem marks_out : ∀ {l : List Ins} {o o' : Bts}, o.length + l.length + 1 < 4294967296 → marks o l = some o' → marks o (outL (o.length : Int) l) = some o'
  | [], o, o', _, e => e
  | x :: r, o, o', hn, e => by
    rw [List.length_cons] at hn
    rw [outL, marks]
    rw [marks] at e
    split at e
    · rename_i hx
      cases hk : mark o x.op with
      | none => rw [hk] at e; cases e
      | some o1 =>
        rw [hk] at e
        have h1 := dp_mark hk (by omega)
        have h2 : mayB (outX (o.length : Int) x) = true ∧ mark o (outX (o.length : Int) x).op = some o1 := by
          unfold outX
          split
          · rename_i h12
            refine ⟨by decide, ?_⟩
            rw [h12.1] at hk
            exact hk
          · exact ⟨hx, hk⟩
        rw [if_pos h2.1, h2.2]
        show marks o1 (outL (dp (o.length : Int) x.op) r) = _
        rw [h1.1]
        exact marks_out (by omega) e
    · cases e
theorem step_out {cx : Cx} {s : St} {x : Ins} (h : Fine s) (hh : Hd cx.fn.r s) : step cx s (outX (s.o.length : Int) x) = step cx s x := by
  unfold outX
  split
  · rename_i h12
    obtain ⟨d, hd⟩ := hh
    have ha : x.a = s.o.length := by have := h12.2; omega
    have e1 : step cx s (ins 15 0 0) = stepLeave cx s (ins 15 0 0) := rfl
    have e2 : step cx s x = stepBr s x := by
      unfold step
      rw [h12.1]
      rfl
    rw [e1, e2]
    have hlab : label s.t x.a = some cx.fn.r := by
      unfold label
      have := h.deep
      rw [if_pos (by omega), show s.t.fs.length - 1 - x.a = 0 by omega]
      cases hfs : s.t.fs with
      | nil => rw [hfs] at hd; cases hd
      | cons a b => rw [hfs] at hd; obtain rfl := Option.some.inj hd; rfl
    unfold stepBr stepLeave
    rw [hlab, h12.1]
    rfl
  · rfl
theorem run_out {cx : Cx} : ∀ {l : List Ins} {s : St} {o' : Bts}, s.o.length + l.length + 1 < 4294967296 → Fine s → Hd cx.fn.r s → marks s.o l = some o' → run cx s (outL (s.o.length : Int) l) = run cx s l
  | [], s, o', _, h, hh, hm => rfl
  | x :: r, s, o', hn, h, hh, hm => by
    rw [List.length_cons] at hn
    rw [outL, run, run, step_out h hh]
    rw [marks] at hm
    split at hm
    · cases hk : mark s.o x.op with
      | none => rw [hk] at hm; cases hm
      | some o1 =>
        rw [hk] at hm
        cases hs : step cx s x with
        | error k => rfl
        | ok s1 =>
          obtain ⟨h1, h2⟩ := step_fine h hk hs
          have h3 := dp_mark hk (by omega)
          show run cx s1 (outL (dp (s.o.length : Int) x.op) r) = run cx s1 r
          rw [h3.1, ← h2]
          exact run_out (by rw [h2]; omega) h1 (step_hd h hh hk hs) (by rw [h2]; exact hm)
    · cases hm
theorem chk_out {cx cx' : Cx} (hb' : cx'.c.body = outL 0 cx.c.body) (hl : cx'.c.locs = cx.c.locs) (hf : cx'.fn = cx.fn) (hs : cx'.s = cx.s) (hn : cx.c.body.length ≤ 100000) (hok : (chk cx).2 ≠ 2) : chk cx' = chk cx := by
  unfold chk at hok ⊢
  rw [hl, hf, hb']
  by_cases he : exprOk cx.c.body = false
  · rw [if_pos he] at hok; exact absurd rfl hok
  have he' : marks [] cx.c.body = some [] := of_decide_eq_true (notF he)
  have hm : marks [] (outL 0 cx.c.body) = some [] := marks_out (o := []) (by simp; omega) he'
  rw [if_neg he, if_neg (show ¬ exprOk (outL 0 cx.c.body) = false by unfold exprOk; rw [hm]; simp)]
  have h2 := run_out (cx := cx) (l := cx.c.body) (s := ⟨stk0 cx.fn.r, []⟩) (by simp; omega) (fine0 _) (hd0 _) he'
  rw [run_cx hl hf hs, show run cx ⟨stk0 cx.fn.r, []⟩ (outL 0 cx.c.body) = run cx ⟨stk0 cx.fn.r, []⟩ cx.c.body from h2]
end Go.Proofs.Ytmgjcaikldeioaa.Ty
