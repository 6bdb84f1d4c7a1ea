/- How much a body's stack can hold behind so many steps: plain. -/
import Derived.Test.YtmgjcaikldeioaaGreatXTr
namespace Go.Proofs.YtmgjcaikldeioaaGreat.Ty
open Gr

/-- Behind n steps. -/
structure Bnd (K n : Nat) (t : Stk) : Prop where
 most : t.most ≤ K * n
 fs : t.fs.length ≤ n + 1
 lab : ∀ f ∈ t.fs, f.lab.length ≤ K ∧ f.ends.length ≤ K
/-- Types are not long. -/
structure CxB (K : Nat) (cx : Cx) : Prop where
 func : ∀ i f, cx.s.func i = some f → f.r.length ≤ K
 type : ∀ i f, cx.s.type i = some f → f.r.length ≤ K
 fn : cx.fn.r.length ≤ K
section
variable {K n : Nat} {t t' : Stk}
theorem Bnd.more (h : Bnd K n t) : Bnd K (n + 1) t := ⟨by have := h.most; rw [Nat.mul_succ]; omega, by have := h.fs; omega, h.lab⟩
theorem Bnd.want {ts : Bts} (h : Bnd K n t) (e : want t ts = some t') : Bnd K n t' := by
 unfold Ty.want at e
 cases hl : left t ts with
 | none => rw [hl] at e; cases e
 | some k => rw [hl] at e; obtain rfl := Option.some.inj e; exact ⟨h.most, h.fs, h.lab⟩
theorem Bnd.push {ts : Bts} (h : Bnd K n t) (hi : Inv t) (hl : ts.length ≤ K) : Bnd K (n + 1) (push t ts) :=
 ⟨by show max t.most (t.l.length + ts.length) ≤ _; have := hi.most; have := h.most; rw [Nat.mul_succ]; omega, by show t.fs.length ≤ _; have := h.fs; omega, h.lab⟩
theorem Bnd.opn {a b : Bts} (h : Bnd K n t) (ha : a.length ≤ K) (hb : b.length ≤ K) : Bnd K (n + 1) (opn t a b) :=
 ⟨by show t.most ≤ _; have := h.most; rw [Nat.mul_succ]; omega, by show (t.fs ++ [_]).length ≤ _; rw [List.length_append]; have := h.fs; simp; omega, fun f hf => by
  rcases List.mem_append.1 hf with hf | hf
  ·exact h.lab f hf
  ·obtain rfl := List.mem_singleton.1 hf
   exact ⟨ha, hb⟩⟩
theorem Bnd.close {b : Bts} (h : Bnd K n t) (e : close t = some (b, t')) : Bnd K n t' ∧ t'.fs.length + 1 ≤ n + 1 ∧ b.length ≤ K := by
 unfold Ty.close at e
 cases hf : t.fs.getLast? with
 | none => rw [hf] at e; cases e
 | some f =>
  rw [hf] at e
  simp only at e
  split at e
  ·obtain ⟨rfl, rfl⟩ := Prod.mk.inj (Option.some.inj e)
   have hm := List.mem_of_getLast? hf
   have hp := List.length_pos_of_mem hm
   have := h.fs
   refine ⟨⟨h.most, ?_, fun g hg => h.lab g (List.dropLast_subset _ hg)⟩, ?_, (h.lab f hm).2⟩
   ·show t.fs.dropLast.length ≤ _
    rw [List.length_dropLast]; omega
   ·show t.fs.dropLast.length + 1 ≤ _
    rw [List.length_dropLast]; omega
  ·cases e
theorem Bnd.kill (h : Bnd K n t) : Bnd K n (kill t) := by
 refine ⟨?_, by rw [kill_fs]; exact h.fs, ?_⟩
 ·unfold Ty.kill
  cases t.fs.getLast? <;> exact h.most
 ·unfold Ty.kill
  cases hf : t.fs.getLast? with
  | none => exact h.lab
  | some f =>
   intro g hg
   rcases List.mem_append.1 hg with hg | hg
   ·exact h.lab g (List.dropLast_subset _ hg)
   ·obtain rfl := List.mem_singleton.1 hg
    exact h.lab f (List.mem_of_getLast? hf)
theorem Bnd.pop {a : UInt8} (h : Bnd K n t) (e : pop t = some (a, t')) : Bnd K n t' := by
 unfold Ty.pop at e
 cases hf : t.fs.getLast? with
 | none => rw [hf] at e; cases e
 | some f =>
  rw [hf] at e
  simp only at e
  split at e
  ·cases hl : t.l.getLast? with
   | none => rw [hl] at e; cases e
   | some t' => rw [hl] at e; obtain ⟨_, rfl⟩ := Prod.mk.inj (Option.some.inj e); exact ⟨h.most, h.fs, h.lab⟩
  ·split at e
   ·obtain ⟨_, rfl⟩ := Prod.mk.inj (Option.some.inj e); exact h
   ·cases e
theorem label_bnd {a : Nat} {l : Bts} (h : Bnd K n t) (e : label t a = some l) : l.length ≤ K := by
 unfold label at e
 split at e
 ·cases hg : t.fs[t.fs.length - 1 - a]? with
  | none => rw [hg] at e; cases e
  | some f =>
   rw [hg] at e
   obtain rfl := Option.some.inj e
   exact (h.lab f (List.mem_of_getElem? hg)).1
 ·cases e
theorem takes_bnd {s s' : St} {ps rs : Bts} (h : Bnd K n s.t) (hi : Inv s.t) (hr : rs.length ≤ K) (e : takes s ps rs = .ok s') : Bnd K (n + 1) s'.t := by
 unfold takes at e
 cases hw : want s.t ps with
 | none => rw [hw] at e; cases e
 | some t =>
  rw [hw] at e
  cases e
  exact (h.want hw).push (hi.want hw) hr
end
theorem resT_len (a : Nat) : (resT a).length ≤ 1 := by
 unfold resT
 split <;> simp
theorem sigL_len (op : UInt8) : (sigL op).1.length ≤ 4000 ∧ (sigL op).2.length ≤ 1 := by
 unfold sigL
 repeat' split
 all_goals simp
theorem step_bnd {K : Nat} (hK : 1 ≤ K) {cx : Cx} (hc : CxB K cx) {n : Nat} {s s' : St} {x : Ins} (h : Bnd K n s.t) (hi : Inv s.t) (e : step cx s x = .ok s') : Bnd K (n + 1) s'.t := by
 revert e
 refine step_ind (P := fun r => r = .ok s' → Bnd K (n + 1) s'.t) (fun hb e => ?_) (fun h5 e => ?_) (fun h11 e => ?_) (fun n1 n5 n11 => ?_)
 ·unfold stepBlock at e
  cases hw : (if x.op = 4 then want s.t [127] else some s.t) with
  | none => rw [hw] at e; cases e
  | some t =>
   rw [hw] at e
   cases e
   have ht : Bnd K n t := by
    split at hw
    ·exact h.want hw
    ·cases hw; exact h
   refine ht.opn ?_ (Nat.le_trans (resT_len _) hK)
   split
   ·simp
   ·exact Nat.le_trans (resT_len _) hK
 ·unfold stepElse at e
  cases hc : close s.t with
  | none => rw [hc] at e; cases e
  | some p =>
   obtain ⟨b, t⟩ := p
   rw [hc] at e
   cases e
   obtain ⟨h1, _, h3⟩ := h.close hc
   exact h1.opn h3 h3
 ·unfold stepEnd at e
  cases hc : close s.t with
  | none => rw [hc] at e; cases e
  | some p =>
   obtain ⟨b, t⟩ := p
   rw [hc] at e
   simp only at e
   split at e
   ·cases e
   ·cases e
    obtain ⟨h1, _, h3⟩ := h.close hc
    exact h1.push (hi.close hc) h3
 have killed : ∀ {t : Stk} {ts : Bts}, want s.t ts = some t → ∀ {s' : St}, (Except.ok { s with t := kill t } : R) = .ok s' → Bnd K (n + 1) s'.t := fun hw _ e => by
  cases e; exact (h.want hw).kill.more
 refine ⟨fun e => ?_, fun e => ?_, fun e => ?_, fun e => ?_, fun e => ?_, fun e => ?_, fun e => ?_, fun e => ?_, fun e => ?_, fun e => ?_⟩
 ·unfold stepBr at e
  cases hl : label s.t x.a with
  | none => rw [hl] at e; cases e
  | some l =>
   rw [hl] at e
   simp only at e
   by_cases h13 : x.op = 13
   ·rw [if_pos h13] at e; exact takes_bnd h hi (label_bnd h hl) e
   ·rw [if_neg h13] at e
    cases hw : want s.t l with
    | none => rw [hw] at e; cases e
    | some t => rw [hw] at e; exact killed hw e
 ·unfold stepTable at e
  cases hl : label s.t x.a with
  | none => rw [hl] at e; cases e
  | some l =>
   rw [hl] at e
   simp only at e
   split at e
   ·cases e
   ·split at e
    ·cases e
    ·cases hw : want s.t (l ++ [127]) with
     | none => rw [hw] at e; cases e
     | some t => rw [hw] at e; exact killed hw e
 ·unfold stepLeave at e
  split at e
  ·cases e
   exact h.kill.more
  ·cases hw : want s.t cx.fn.r with
   | none => rw [hw] at e; cases e
   | some t => rw [hw] at e; exact killed hw e
 ·unfold stepCall at e
  cases hf : cx.s.func x.a with
  | none => rw [hf] at e; cases e
  | some f => rw [hf] at e; exact takes_bnd h hi (hc.func _ _ hf) e
 ·unfold stepInd at e
  cases hf : cx.s.type x.a with
  | none => rw [hf] at e; cases e
  | some f =>
   rw [hf] at e
   simp only at e
   split at e
   ·exact takes_bnd h hi (hc.type _ _ hf) e
   ·cases e
 ·unfold stepDrop at e
  cases hp : pop s.t with
  | none => rw [hp] at e; cases e
  | some p =>
   obtain ⟨t, s2⟩ := p
   rw [hp] at e
   cases e
   exact (h.pop hp).more
 ·unfold stepSel at e
  cases hw : want s.t [127] with
  | none => rw [hw] at e; cases e
  | some t =>
   rw [hw] at e
   simp only at e
   cases hp : pop t with
   | none => rw [hp] at e; cases e
   | some p =>
    obtain ⟨a, t1⟩ := p
    rw [hp] at e
    simp only at e
    cases hq : pop t1 with
    | none => rw [hq] at e; cases e
    | some p =>
     obtain ⟨b, t2⟩ := p
     rw [hq] at e
     simp only at e
     split at e
     ·cases e
     ·cases e
      exact (((h.want hw).pop hp).pop hq).push (((hi.want hw).pop hp).pop hq) (by simpa using hK)
 ·unfold stepLocal at e
  cases hl : locT cx.fn cx.c x.a with
  | none => rw [hl] at e; cases e
  | some t =>
   rw [hl] at e
   simp only at e
   split at e
   ·exact takes_bnd h hi (by simpa using hK) e
   ·split at e
    ·exact takes_bnd h hi (by simp) e
    ·exact takes_bnd h hi (by simpa using hK) e
 ·unfold stepGlobal at e
  cases hg : cx.s.glob x.a with
  | none => rw [hg] at e; cases e
  | some g =>
   rw [hg] at e
   simp only at e
   split at e
   ·exact takes_bnd h hi (by simpa using hK) e
   ·split at e
    ·cases e
    ·exact takes_bnd h hi (by simp) e
 ·unfold stepPlain at e
  split at e
  ·cases e
  ·split at e
   ·cases e
   ·exact takes_bnd h hi (Nat.le_trans (sigL_len _).2 hK) e
end Go.Proofs.YtmgjcaikldeioaaGreat.Ty
