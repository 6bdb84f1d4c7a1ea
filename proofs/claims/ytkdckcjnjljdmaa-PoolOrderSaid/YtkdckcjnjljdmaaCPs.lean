/- A region that draws its order, walked along a plan, where what is read is written at the end: facts that hold as long as an operation is still to come. Over any program. -/
import Derived.Test.YtkdckcjnjljdmaaCPlan
namespace Go.Proofs.Ytkdckcjnjljdmaa.Kt
open Go Go.RowKit

section
variable {P : Program} {ops : Array Oper} {Q : Exit → Act → World → Prop}
/-- What holds as long as the operation of that number is to come. -/
def Still (X : List (Nat × (World → Prop))) (l : Array Bool) (w : World) : Prop := ∀ p ∈ X, l.getD p.1 true = false → p.2 w
def Closed (ops : Array Oper) (l : Array Bool) : Prop := ∀ k o, ops[k]? = some o → l.getD k true = true → ∀ e ∈ o.after, Region.binds .any e = true → l.getD e.on false = true
/-- Does k wait for i? -/
def waits (ops : Array Oper) : Nat → Nat → Nat → Bool
  | 0, _, _ => false
  | n + 1, k, i => match ops[k]? with
    | some o => o.after.any fun e => Region.binds .any e && (e.on == i || waits ops n e.on i)
    | none => false
theorem getD_not {l : Array Bool} {i : Nat} (h : l.getD i true = false) : l.getD i false = false := by
  rcases Nat.lt_or_ge i l.size with h' | h'
  · simpa [h'] using h
  · simp [Array.getElem?_eq_none h'] at h
theorem waits_spec {l : Array Bool} {i : Nat} (hc : Closed ops l) (hi : l.getD i true = false) : ∀ n k, waits ops n k i = true → l.getD k true = false
  | 0, _, h => by simp [waits] at h
  | n + 1, k, h => by
    unfold waits at h
    split at h
    · rename_i o ho
      obtain ⟨e, he, hb⟩ := Array.any_eq_true'.1 h
      simp only [Bool.and_eq_true, Bool.or_eq_true, beq_iff_eq] at hb
      cases hk : l.getD k true with
      | false => rfl
      | true =>
        have h1 := hc k o ho hk e he hb.1
        rcases hb.2 with h2 | h2
        · rw [h2, getD_not hi] at h1; cases h1
        · rw [getD_not (waits_spec hc hi n e.on h2)] at h1; cases h1
    · cases h
theorem Closed.set {l : Array Bool} {j : Nat} (hc : Closed ops l) (hj : j ∈ Region.ready .any ops l) : Closed ops (l.setIfInBounds j true) := by
  intro k o ho hk e he hb
  by_cases hjk : j = k
  · subst hjk
    obtain ⟨_, o', ho', hall⟩ := mem_ready.1 hj
    rw [ho] at ho'
    cases ho'
    exact getD_set_true (hall e he hb)
  · rw [getD_set_ne true hjk] at hk
    exact getD_set_true (hc k o ho hk e he hb)
theorem Closed.start (ops : Array Oper) : Closed ops (Array.replicate ops.size false) := by
  intro k o ho hk
  have := (Array.getElem?_eq_some_iff.1 ho).1
  simp [this] at hk

def wpAnyT (P : Program) (ops : Array Oper) (Q : Exit → Act → World → Prop) (S : World → Prop) (X : List (Nat × (World → Prop))) : Nat → Array Bool → Act → World → Prop
  | 0, l, a, w => Region.ready .any ops l = [] ∧ Q .normal a w
  | n + 1, l, a, w => (Region.ready .any ops l = [] → Q .normal a w) ∧
    ∀ i ∈ Region.ready .any ops l, wpOp P ops Q i (fun a' w' => (S w' ∧ Still X (l.setIfInBounds i true) w') ∧ wpAnyT P ops Q S X n (l.setIfInBounds i true) a' w') a w
variable {S : World → Prop} {X : List (Nat × (World → Prop))}
theorem wpAny_of_T : ∀ (n : Nat) (l : Array Bool) (a : Act) (w : World), wpAnyT P ops Q S X n l a w → wpAny P .any ops Q n l a w
  | 0, _, _, _, h => h
  | n + 1, _, _, _, h => ⟨h.1, fun i hi => wpOp_mono (fun a' w' h' => wpAny_of_T n _ a' w' h'.2) (h.2 i hi)⟩
theorem Still.unset {l : Array Bool} {i : Nat} {w : World} (hX : ∀ p ∈ X, p.1 ≠ i) (h : Still X (l.setIfInBounds i true) w) : Still X l w := fun p hp hl => h p hp (by rw [getD_set_ne true (fun e => hX p hp e.symm)]; exact hl)
theorem Still.reset {l : Array Bool} {i : Nat} {w : World} (hX : ∀ p ∈ X, p.1 ≠ i) (h : Still X l w) : Still X (l.setIfInBounds i true) w := fun p hp hl => h p hp (by rw [getD_set_ne true (fun e => hX p hp e.symm)] at hl; exact hl)
/-- What may come up may be taken first, if it yields its value in all worlds of which what it needs holds. -/
theorem wpAnyT_first {i : Nat} {oi : Oper} {v : Value} (hi : ops[i]? = some oi) (hsel : Region.noSelect ops = true) (hX : ∀ p ∈ X, p.1 ≠ i)
    (hQ : ∀ c a w, Q (.panic c) (a.put oi.dst v) w → Q (.panic c) a w) :
    ∀ (fuel : Nat) (l : Array Bool) (a : Act) (w : World), Closed ops l →
      (∀ j oj, ops[j]? = some oj → j ≠ i → l.getD j true = false → (∀ e ∈ oj.after, Region.binds .any e = true → e.on ≠ i) → oi.apart ops oj = true) →
      i ∈ Region.ready .any ops l → YieldsIf P ops (fun w => S w ∧ ∀ p ∈ X, waits ops ops.size p.1 i = true → p.2 w) oi v a → S w ∧ Still X l w →
      wpAnyT P ops Q S X fuel (l.setIfInBounds i true) (a.put oi.dst v) w → wpAnyT P ops Q S X (fuel + 1) l a w := by
  intro fuel
  induction fuel with
  | zero =>
    intro l a w hc _ hr hy hS H
    refine ⟨fun h => (by rw [h] at hr; cases hr), fun j hj => ?_⟩
    by_cases hji : j = i
    · subst hji
      exact hy.wpOp hi ⟨hS.1, fun p hp hw => hS.2 p hp (waits_spec hc (mem_ready.1 hr).1 _ _ hw)⟩ ⟨⟨hS.1, hS.2.reset hX⟩, H⟩
    · have := ready_mono hj hji
      rw [H.1] at this
      cases this
  | succ fuel ih =>
    intro l a w hc hfree hr hy hS H
    refine ⟨fun h => (by rw [h] at hr; cases hr), fun j hj => ?_⟩
    by_cases hji : j = i
    · subst hji
      exact hy.wpOp hi ⟨hS.1, fun p hp hw => hS.2 p hp (waits_spec hc (mem_ready.1 hr).1 _ _ hw)⟩ ⟨⟨hS.1, hS.2.reset hX⟩, H⟩
    · have h1 := H.2 j (ready_mono hj hji)
      obtain ⟨hjun, oj, hoj, hall⟩ := mem_ready.1 hj
      have hnot : ∀ e ∈ oj.after, Region.binds .any e = true → e.on ≠ i := fun e he hb heq => by
        have h1 := hall e he hb
        rw [heq, getD_not (mem_ready.1 hr).1] at h1
        cases h1
      have h2 := wpOp_putIf hoj (hfree j oj hoj hji hjun hnot) (fun cs b => Region.noSelect_spec hsel i oi cs b hi) (fun cs b => Region.noSelect_spec hsel j oj cs b hoj) hQ hy h1
      refine wpOp_mono (fun a' w' h3 => ?_) h2
      have hs : S w' ∧ Still X (l.setIfInBounds j true) w' := ⟨h3.2.1.1, Still.unset hX (by rw [Array.setIfInBounds_comm _ _ hji]; exact h3.2.1.2)⟩
      refine ⟨hs, ih (l.setIfInBounds j true) a' w' (hc.set hj) (fun k ok hk hki hun hno => hfree k ok hk hki ?_ hno) (ready_mono hr (Ne.symm hji)) h3.1 hs ?_⟩
      · by_cases hjk : j = k
        · subst hjk; exact hjun
        · rw [getD_set_ne true hjk] at hun; exact hun
      · rw [Array.setIfInBounds_comm _ _ hji]
        exact h3.2.2

/-- Along the plan: 0: run; 1: taken, for S alone; 2: taken, for what still holds as well. -/
def tStep (P : Program) (ops : Array Oper) (Q : Exit → Act → World → Prop) (S : World → Prop) (X : List (Nat × (World → Prop))) : Array Bool → List (Nat × Nat) → Act → World → Prop
  | _, [], a, w => Q .normal a w
  | l, (i, 0) :: rest, a, w => wpOp P ops Q i (fun a' w' => (S w' ∧ Still X (l.setIfInBounds i true) w') ∧ (S w' ∧ Still X (l.setIfInBounds i true) w' → tStep P ops Q S X (l.setIfInBounds i true) rest a' w')) a w
  | l, (i, 1) :: rest, a, w => ∃ o, ops[i]? = some o ∧ ∃ v, YieldsIf P ops S o v a ∧ tStep P ops Q S X (l.setIfInBounds i true) rest (a.put o.dst v) w
  | l, (i, _) :: rest, a, w => ∃ o, ops[i]? = some o ∧ ∃ v, YieldsIf P ops (fun w => S w ∧ Still X l w) o v a ∧ tStep P ops Q S X (l.setIfInBounds i true) rest (a.put o.dst v) w
def tOk (ops : Array Oper) (ks : List Nat) : List (Nat × Nat) → Array Bool → Bool
  | [], l => (Region.ready .any ops l).isEmpty
  | (i, 0) :: rest, l => Region.ready .any ops l == [i] && tOk ops ks rest (l.setIfInBounds i true)
  | (i, 1) :: rest, l => Region.free .any ops l i && (Region.ready .any ops l).contains i && ks.all (fun k => k != i) && tOk ops ks rest (l.setIfInBounds i true)
  | (i, _) :: rest, l => Region.free .any ops l i && (Region.ready .any ops l).contains i && ks.all (fun k => k != i && (l.getD k true || waits ops ops.size k i)) && tOk ops ks rest (l.setIfInBounds i true)
theorem yields_less {S S' : World → Prop} {o : Oper} {v : Value} {a : Act} (h : YieldsIf P ops S o v a) (hS : ∀ w, S' w → S w) : YieldsIf P ops S' o v a :=
  h.imp (fun ⟨hw, hv⟩ => ⟨hw, fun w hw' => hv w (hS w hw')⟩) id
theorem T_of_plan (hsel : Region.noSelect ops = true) (hQ : ∀ (c : List PanicEntry) (a : Act) (d : Option Tmp) (v : Value) (w : World), Q (.panic c) (a.put d v) w → Q (.panic c) a w) {ks : List Nat} (hks : X.map (·.1) = ks) :
    ∀ (plan : List (Nat × Nat)) (l : Array Bool) (a : Act) (w : World), tOk ops ks plan l = true → Closed ops l → S w ∧ Still X l w → tStep P ops Q S X l plan a w → wpAnyT P ops Q S X plan.length l a w
  | [], l, a, w, hp, _, _, h => ⟨by simpa [tOk] using hp, by simpa [tStep] using h⟩
  | (i, 0) :: rest, l, a, w, hp, hc, hS, h => by
    simp only [tOk, Bool.and_eq_true, beq_iff_eq] at hp
    rw [tStep] at h
    show wpAnyT P ops Q S X (rest.length + 1) l a w
    have hne : Region.ready .any ops l ≠ [] := by rw [hp.1]; simp
    refine ⟨fun h0 => absurd h0 hne, fun j hj => ?_⟩
    have hi : i ∈ Region.ready .any ops l := by rw [hp.1]; exact List.mem_singleton.2 rfl
    rw [hp.1] at hj
    obtain rfl : j = i := by simpa using hj
    exact wpOp_mono (fun a' w' h' => ⟨h'.1, T_of_plan hsel hQ hks rest _ a' w' hp.2 (hc.set hi) h'.1 (h'.2 h'.1)⟩) h
  | (i, 1) :: rest, l, a, w, hp, hc, hS, h => by
    simp only [tOk, Bool.and_eq_true, List.all_eq_true, bne_iff_ne] at hp
    obtain ⟨⟨⟨h1, h2⟩, h3⟩, h4⟩ := hp
    rw [tStep] at h
    obtain ⟨o, hi, v, hy, h⟩ := h
    have hX : ∀ p ∈ X, p.1 ≠ i := fun p hm => h3 p.1 (by rw [← hks]; exact List.mem_map.2 ⟨p, hm, rfl⟩)
    have hr : i ∈ Region.ready .any ops l := by simpa using h2
    exact wpAnyT_first hi hsel hX (fun c a w => hQ c a _ _ w) _ l a w hc (Region.free_spec hi h1) hr (yields_less hy (fun _ h => h.1)) hS (T_of_plan hsel hQ hks rest _ _ w h4 (hc.set hr) ⟨hS.1, hS.2.reset hX⟩ h)
  | (i, k + 2) :: rest, l, a, w, hp, hc, hS, h => by
    simp only [tOk, Bool.and_eq_true, List.all_eq_true, bne_iff_ne, Bool.or_eq_true] at hp
    obtain ⟨⟨⟨h1, h2⟩, h3⟩, h4⟩ := hp
    rw [tStep] at h
    · obtain ⟨o, hi, v, hy, h⟩ := h
      have hX : ∀ p ∈ X, p.1 ≠ i := fun p hm => (h3 p.1 (by rw [← hks]; exact List.mem_map.2 ⟨p, hm, rfl⟩)).1
      have hr : i ∈ Region.ready .any ops l := by simpa using h2
      refine wpAnyT_first hi hsel hX (fun c a w => hQ c a _ _ w) _ l a w hc (Region.free_spec hi h1) hr (yields_less hy (fun w h => ⟨h.1, fun p hm hl => ?_⟩)) hS (T_of_plan hsel hQ hks rest _ _ w h4 (hc.set hr) ⟨hS.1, hS.2.reset hX⟩ h)
      rcases (h3 p.1 (by rw [← hks]; exact List.mem_map.2 ⟨p, hm, rfl⟩)).2 with h5 | h5
      · rw [hl] at h5; cases h5
      · exact h.2 p hm h5
    · exact fun e => by omega
    · exact fun e => by omega
/-- THE REGION. -/
theorem wp_region_t {id : Nat} {a : Act} {w : World} (plan : List (Nat × Nat)) (S : World → Prop) (X : List (Nat × (World → Prop))) (ks : List Nat) (hks : X.map (·.1) = ks) (hm : P.follows .mixedOrders = true)
    (hok : (Region.noSelect ops && (tOk ops ks plan (Array.replicate ops.size false) && plan.length == ops.size)) = true)
    (hQ : ∀ (c : List PanicEntry) (a : Act) (d : Option Tmp) (v : Value) (w : World), Q (.panic c) (a.put d v) w → Q (.panic c) a w)
    (hS : S w.drew) (hX : ∀ p ∈ X, p.2 w.drew) (h : tStep P ops Q S X (Array.replicate ops.size false) plan a w.drew) : (Code.region id ops true).wp P Q a w := by
  simp only [Bool.and_eq_true, beq_iff_eq] at hok
  have hT := T_of_plan (P := P) (S := S) hok.1 hQ hks plan _ a w.drew hok.2.1 (Closed.start ops) ⟨hS, fun p hp _ => hX p hp⟩ h
  rw [hok.2.2] at hT
  exact wp_region_any hm (wpAny_of_T _ _ _ _ hT)

variable {i : Nat} {rest : List (Nat × Nat)} {l : Array Bool} {a : Act} {w : World} {o : Oper}
theorem ts_take (hi' : ops.toList[i]? = some o) {v : Value} (hw : Region.wanted o (yielded ops a.tmps) = true) (hv : ∀ w', S w' → (execOp a.eval o).run P w' = .ok (.value v) w')
    (h : tStep P ops Q S X (l.setIfInBounds i true) rest (a.put o.dst v) w) : tStep P ops Q S X l ((i, 1) :: rest) a w := by rw [tStep]; exact ⟨o, by simpa using hi', v, .inl ⟨hw, hv⟩, h⟩
theorem ts_skip (hi' : ops.toList[i]? = some o) (hw : Region.wanted o (yielded ops a.tmps) = false)
    (h : tStep P ops Q S X (l.setIfInBounds i true) rest (a.put o.dst undef) w) : tStep P ops Q S X l ((i, 1) :: rest) a w := by rw [tStep]; exact ⟨o, by simpa using hi', undef, .inr ⟨hw, rfl⟩, h⟩
theorem ts_take2 (hi' : ops.toList[i]? = some o) {v : Value} (hw : Region.wanted o (yielded ops a.tmps) = true) (hv : ∀ w', S w' → Still X l w' → (execOp a.eval o).run P w' = .ok (.value v) w')
    (h : tStep P ops Q S X (l.setIfInBounds i true) rest (a.put o.dst v) w) : tStep P ops Q S X l ((i, 2) :: rest) a w := by
  rw [tStep]
  · exact ⟨o, by simpa using hi', v, .inl ⟨hw, fun w' h' => hv w' h'.1 h'.2⟩, h⟩
  · exact fun e => by omega
  · exact fun e => by omega
theorem ts_run (hi' : ops.toList[i]? = some o) (h : ∀ K : Act → World → Prop, Shut (∀ a w, S w → Still X (l.setIfInBounds i true) w → tStep P ops Q S X (l.setIfInBounds i true) rest a w → K a w) → if Region.wanted o (yielded ops a.tmps) = true then Oper.wp P o a w K Q else K (a.put o.dst undef) w) :
    tStep P ops Q S X l ((i, 0) :: rest) a w := by
  have hi : ops[i]? = some o := by simpa using hi'
  rw [tStep]
  exact wpOp_step hi (fun K' hK => h K' (fun a w hS hX hW => hK a w ⟨⟨hS, hX⟩, fun _ => hW⟩))
theorem ts_run1 (hi' : ops.toList[i]? = some o) (hw : Region.wanted o (yielded ops a.tmps) = true) (h : ∀ K : Act → World → Prop, Shut (∀ a w, S w → Still X (l.setIfInBounds i true) w → tStep P ops Q S X (l.setIfInBounds i true) rest a w → K a w) → Oper.wp P o a w K Q) :
    tStep P ops Q S X l ((i, 0) :: rest) a w := ts_run hi' (fun K hK => by rw [if_pos hw]; exact h K hK)
theorem ts_done (h : Q .normal a w) : tStep P ops Q S X l [] a w := by rw [tStep]; exact h
theorem still_none (l : Array Bool) (w : World) : Still [] l w := fun p hp => by cases hp
theorem still_one {k : Nat} {F : World → Prop} {l : Array Bool} {w : World} (h : l.getD k true = true ∨ F w) : Still [(k, F)] l w := fun p hp hl => by
  obtain rfl : p = (k, F) := by simpa using hp
  rcases h with h | h
  · rw [hl] at h; cases h
  · exact h
theorem still_two {k k' : Nat} {F F' : World → Prop} {l : Array Bool} {w : World} (h : l.getD k true = true ∨ F w) (h' : l.getD k' true = true ∨ F' w) : Still [(k, F), (k', F')] l w := fun p hp hl => by
  rcases List.mem_cons.1 hp with rfl | hp
  · rcases h with h | h
    · rw [hl] at h; cases h
    · exact h
  · exact still_one h' p hp hl
theorem Still.fst {k : Nat} {F : World → Prop} {X : List (Nat × (World → Prop))} {l : Array Bool} {w : World} (h : Still ((k, F) :: X) l w) (hl : l.getD k true = false) : F w := h _ (List.mem_cons_self ..) hl
theorem Still.tail {k : Nat} {F : World → Prop} {X : List (Nat × (World → Prop))} {l : Array Bool} {w : World} (h : Still ((k, F) :: X) l w) : Still X l w := fun p hp hl => h p (List.mem_cons_of_mem _ hp) hl
theorem Still.one {k : Nat} {F : World → Prop} {l : Array Bool} {w : World} (h : Still [(k, F)] l w) (hl : l.getD k true = false) : F w := h _ (List.mem_singleton.2 rfl) hl
end
end Go.Proofs.Ytkdckcjnjljdmaa.Kt
