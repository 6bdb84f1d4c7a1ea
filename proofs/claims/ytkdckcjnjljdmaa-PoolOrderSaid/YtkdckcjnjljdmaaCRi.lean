/- A region that draws its order, along an invariant that tells of each operation whether it has come up: whatever order is drawn, each operation is shown once. Over any program. -/
import Derived.Test.YtkdckcjnjljdmaaCRt
namespace Go.Proofs.Ytkdckcjnjljdmaa.Kt
open Go Go.RowKit

/-- Each operation waits for earlier ones only. -/
def backs (ops : Array Oper) : Bool := (List.range ops.size).all fun i => ((ops[i]?).map (·.after.all fun e => decide (e.on < i))).getD true
theorem all_listed {ops : Array Oper} (hb : backs ops = true) {l : Array Bool} (hl : l.size = ops.size) (hr : Region.ready .any ops l = []) : ∀ i, i < ops.size → l.getD i false = true := by
  intro i
  induction i using Nat.strongRecOn with
  | _ i ih =>
    intro hi
    obtain ⟨o, ho⟩ : ∃ o, ops[i]? = some o := ⟨_, Array.getElem?_eq_getElem hi⟩
    have hb' : (o.after.all fun e => decide (e.on < i)) = true := by
      have := (List.all_eq_true.1 hb) i (List.mem_range.2 hi)
      simpa [ho] using this
    cases hc : l.getD i false with
    | true => rfl
    | false =>
      exfalso
      have hm : i ∈ Region.ready .any ops l := by
        unfold Region.ready
        rw [List.mem_filter]
        refine ⟨List.mem_range.2 hi, ?_⟩
        rw [ho]
        have h1 : l.getD i true = false := by
          have hil : i < l.size := by omega
          simp [Array.getD, hil] at hc ⊢
          exact hc
        rw [h1]
        simp only [Bool.not_false, Bool.true_and, Option.map_some, Option.getD_some]
        rw [Array.all_eq_true_iff_forall_mem]
        intro e he
        have hlt : e.on < i := by
          have := Array.all_eq_true_iff_forall_mem.1 hb' e he
          simpa using this
        rw [ih e.on hlt (by omega)]
        simp
      rw [hr] at hm
      cases hm
theorem getD_put {l : Array Bool} {i : Nat} (hi : i < l.size) (j : Nat) : (l.setIfInBounds i true).getD j false = (j == i || l.getD j false) := by
  by_cases hji : j = i
  · subst hji
    simp [Array.getD, hi]
  · have hb : (j == i) = false := by simpa using hji
    rw [hb, Bool.false_or]
    simp only [Array.getD_eq_getD_getElem?, Array.getElem?_setIfInBounds_ne (fun e => hji e.symm)]

theorem countP_less {α : Type} {p q : α → Bool} (h : ∀ x, p x = true → q x = true) : ∀ {l : List α} {x0 : α}, x0 ∈ l → q x0 = true → p x0 = false → l.countP p < l.countP q
  | [], _, h0, _, _ => by cases h0
  | y :: l, x0, h0, hq, hp => by
    have hm : l.countP p ≤ l.countP q := List.countP_mono_left (fun x _ => h x)
    rcases List.mem_cons.1 h0 with rfl | h1
    · rw [List.countP_cons_of_pos hq, List.countP_cons_of_neg (by simp [hp])]
      omega
    · have := countP_less h h1 hq hp
      rw [List.countP_cons, List.countP_cons]
      have hy : (if p y = true then 1 else 0) ≤ (if q y = true then 1 else 0 : Nat) := by
        by_cases e : p y = true
        · simp [e, h y e]
        · simp [e]
      omega
variable {P : Program} {ops : Array Oper} {Q : Exit → Act → World → Prop}
theorem region_inv_go (Inv : (Nat → Bool) → Act → World → Prop) (hb : backs ops = true)
    (hstep : ∀ (f : Nat → Bool) (a : Act) (w : World) (i : Nat) (o : Oper), ops.toList[i]? = some o → f i = false → (∀ e ∈ o.after, Region.binds .any e = true → f e.on = true) → Inv f a w →
      ∀ K : Act → World → Prop, (∀ a' w', Inv (fun j => j == i || f j) a' w' → K a' w') → if Region.wanted o (yielded ops a.tmps) = true then Oper.wp P o a w K Q else K (a.put o.dst undef) w)
    (hend : ∀ f a w, (∀ i, i < ops.size → f i = true) → Inv f a w → Q .normal a w) :
    ∀ (n : Nat) (l : Array Bool) (a : Act) (w : World), l.size = ops.size → (List.range ops.size).countP (fun i => !l.getD i false) ≤ n → Inv (fun i => l.getD i false) a w → wpAny P .any ops Q n l a w := by
  intro n
  induction n with
  | zero =>
    intro l a w hl hn hI
    have hall : ∀ i, i < ops.size → l.getD i false = true := fun i hi => by
      have h0 := List.countP_eq_zero.1 (Nat.le_zero.1 hn) i (List.mem_range.2 hi)
      simpa using h0
    refine ⟨?_, hend _ a w hall hI⟩
    unfold Region.ready
    rw [List.filter_eq_nil_iff]
    intro i hi
    have hi' := List.mem_range.1 hi
    have h1 : l.getD i true = true := by
      have := hall i hi'
      have hil : i < l.size := by omega
      simp [Array.getD, hil] at this ⊢
      exact this
    rw [h1]
    simp
  | succ n ih =>
    intro l a w hl hn hI
    refine ⟨fun hr => hend _ a w (all_listed hb hl hr) hI, fun i hi => ?_⟩
    obtain ⟨hun, o, ho, hall⟩ := mem_ready.1 hi
    have hi' : i < ops.size := (Array.getElem?_eq_some_iff.1 ho).1
    have hil : i < l.size := by omega
    have hf : l.getD i false = false := by
      simp [Array.getD, hil] at hun ⊢
      exact hun
    refine wpOp_step ho (fun K hK => hstep _ a w i o (by simpa using ho) hf hall hI K (fun a' w' hI' => hK a' w' ?_))
    refine ih _ a' w' (by simpa using hl) ?_ (by
      have : (fun j => (l.setIfInBounds i true).getD j false) = fun j => j == i || l.getD j false := funext fun j => getD_put hil j
      rw [this]
      exact hI')
    have hlt : (List.range ops.size).countP (fun j => !(l.setIfInBounds i true).getD j false) < (List.range ops.size).countP (fun j => !l.getD j false) := by
      refine countP_less (fun j hj => ?_) (List.mem_range.2 hi') (by simp only [hf, Bool.not_false]) (by simp only [getD_put hil]; simp)
      simp only [getD_put hil, Bool.not_or, Bool.and_eq_true] at hj
      exact hj.2
    omega
/-- THE REGION, ALONG AN INVARIANT. -/
theorem region_inv {id : Nat} {a : Act} {w : World} (Inv : (Nat → Bool) → Act → World → Prop) (hm : P.follows .mixedOrders = true) (hb : backs ops = true) (h0 : Inv (fun _ => false) a w.drew)
    (hstep : ∀ (f : Nat → Bool) (a : Act) (w : World) (i : Nat) (o : Oper), ops.toList[i]? = some o → f i = false → (∀ e ∈ o.after, Region.binds .any e = true → f e.on = true) → Inv f a w →
      ∀ K : Act → World → Prop, (∀ a' w', Inv (fun j => j == i || f j) a' w' → K a' w') → if Region.wanted o (yielded ops a.tmps) = true then Oper.wp P o a w K Q else K (a.put o.dst undef) w)
    (hend : ∀ f a w, (∀ i, i < ops.size → f i = true) → Inv f a w → Q .normal a w) : (Code.region id ops true).wp P Q a w := by
  refine wp_region_any hm (region_inv_go Inv hb hstep hend _ _ _ _ (by simp) ?_ ?_)
  · exact Nat.le_trans List.countP_le_length (by simp)
  · have : (fun i => (Array.replicate ops.size false).getD i false) = fun _ => false := funext fun i => by
      by_cases h : i < ops.size <;> simp [Array.getD, h]
    rw [this]
    exact h0
def upd (tv : Nat → Value) (i : Nat) (v : Value) : Nat → Value := fun j => if j == i then v else tv j
def on (f : Nat → Bool) (i : Nat) : Nat → Bool := fun j => j == i || f j
theorem upd_ne {tv : Nat → Value} {i k : Nat} {v : Value} (h : k ≠ i) : upd tv i v k = tv k := by simp [upd, h]
theorem upd_eq {tv : Nat → Value} {i : Nat} {v : Value} : upd tv i v i = v := by simp [upd]
theorem on_ne {f : Nat → Bool} {i k : Nat} (h : k ≠ i) : on f i k = f k := by simp [on, h]
theorem on_eq {f : Nat → Bool} {i : Nat} : on f i i = true := by simp [on]
theorem wp_exec {o : Oper} {a : Act} {w w' : World} {v : Value} {K : Act → World → Prop} (h : (execOp a.eval o).run P w = .ok (.value v) w') (hk : K (a.put o.dst v) w') : Oper.wp P o a w K Q := by
  unfold Oper.wp
  rw [h]
  exact hk
end Go.Proofs.Ytkdckcjnjljdmaa.Kt
