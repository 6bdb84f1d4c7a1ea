/- A region that draws its order, walked once along a plan: what only reads is taken as soon as it may come up, what runs (a call, a store) alone. Over any program. -/
import Derived.Deep.RegionHeld
import Derived.OrdersHeld
import Derived.Test.YtkdckcjnjljdmaaCKit
namespace Go.Proofs.Ytkdckcjnjljdmaa.Kt
open Go Go.RowKit

section
variable {P : Program} {ops : Array Oper} {Q : Exit → Act → World → Prop} {S : World → Prop}

/-- Along the plan: true: taken (it yields in every world that meets S); false: run. -/
def hStep (P : Program) (ops : Array Oper) (Q : Exit → Act → World → Prop) (S : World → Prop) : List (Nat × Bool) → Act → World → Prop
  | [], a, w => Q .normal a w
  | (i, b) :: rest, a, w =>
    match b with
    | true => ∃ o, ops[i]? = some o ∧ ∃ v, YieldsIf P ops S o v a ∧ hStep P ops Q S rest (a.put o.dst v) w
    | false => wpOp P ops Q i (fun a' w' => S w' ∧ (S w' → hStep P ops Q S rest a' w')) a w

theorem hStep_take (i : Nat) (rest : List (Nat × Bool)) (a : Act) (w : World) : hStep P ops Q S ((i, true) :: rest) a w = ∃ o, ops[i]? = some o ∧ ∃ v, YieldsIf P ops S o v a ∧ hStep P ops Q S rest (a.put o.dst v) w := by
  rw [hStep]
theorem hStep_run (i : Nat) (rest : List (Nat × Bool)) (a : Act) (w : World) : hStep P ops Q S ((i, false) :: rest) a w = wpOp P ops Q i (fun a' w' => S w' ∧ (S w' → hStep P ops Q S rest a' w')) a w := by
  rw [hStep]

def planOk (ops : Array Oper) : List (Nat × Bool) → Array Bool → Bool
  | [], l => (Region.ready .any ops l).isEmpty
  | (i, b) :: rest, l => (match b with | true => Region.free .any ops l i && (Region.ready .any ops l).contains i | false => Region.ready .any ops l == [i]) && planOk ops rest (l.setIfInBounds i true)

theorem held_of_plan (hsel : Region.noSelect ops = true) (hQ : ∀ (c : List PanicEntry) (a : Act) (d : Option Tmp) (v : Value) (w : World), Q (.panic c) (a.put d v) w → Q (.panic c) a w) :
    ∀ (plan : List (Nat × Bool)) (l : Array Bool) (a : Act) (w : World), planOk ops plan l = true → S w → hStep P ops Q S plan a w → wpAnyH P .any ops Q S plan.length l a w
  | [], l, a, w, hp, _, h => wpAnyH_done (by simpa [planOk] using hp) h 0
  | (i, true) :: rest, l, a, w, hp, hS, h => by
    rw [hStep_take] at h
    obtain ⟨o, hi, v, hy, h⟩ := h
    simp only [planOk, Bool.and_eq_true] at hp
    exact wpAnyH_take hi hsel hp.1.1 hp.1.2 (fun c a w => hQ c a _ _ w) hy hS (held_of_plan hsel hQ rest _ _ w hp.2 hS h)
  | (i, false) :: rest, l, a, w, hp, _, h => by
    rw [hStep_run] at h
    simp only [planOk, Bool.and_eq_true, beq_iff_eq] at hp
    refine wpAnyH_all hp.1 (by simp) (fun j hj => ?_)
    obtain rfl : j = i := by simpa using hj
    exact wpOp_mono (fun a' w' h' => ⟨h'.1, held_of_plan hsel hQ rest _ _ _ hp.2 h'.1 (h'.2 h'.1)⟩) h

theorem wp_region_plan {id : Nat} {a : Act} {w : World} (plan : List (Nat × Bool)) (S : World → Prop) (hm : P.follows .mixedOrders = true)
    (hok : (Region.noSelect ops && (planOk ops plan (Array.replicate ops.size false) && plan.length == ops.size)) = true)
    (hQ : ∀ (c : List PanicEntry) (a : Act) (d : Option Tmp) (v : Value) (w : World), Q (.panic c) (a.put d v) w → Q (.panic c) a w)
    (hS : S w.drew) (h : hStep P ops Q S plan a w.drew) : (Code.region id ops true).wp P Q a w := by
  simp only [Bool.and_eq_true, beq_iff_eq] at hok
  refine wp_region_held_drew (S := S) hm hS (fun hS' => ?_)
  have := held_of_plan hok.1 hQ plan _ _ _ hok.2.1 hS' h
  rw [hok.2.2] at this
  exact this

/-- .. where all that runs leaves the memory that is there as it was. -/
theorem wp_region_below {id : Nat} {a : Act} {w : World} (plan : List (Nat × Bool)) (hm : P.follows .mixedOrders = true)
    (hok : (Region.noSelect ops && (planOk ops plan (Array.replicate ops.size false) && plan.length == ops.size)) = true)
    (hQ : ∀ (c : List PanicEntry) (a : Act) (d : Option Tmp) (v : Value) (w : World), Q (.panic c) (a.put d v) w → Q (.panic c) a w)
    (h : ∀ V : World, V = w.drew → hStep P ops Q (fun w' => Below V.heap.size V w') plan a V) : (Code.region id ops true).wp P Q a w :=
  wp_region_plan plan (fun w' => Below w.drew.heap.size w.drew w') hm hok hQ (Below.refl _ _) (h _ rfl)

variable {i : Nat} {rest : List (Nat × Bool)} {a : Act} {w : World} {o : Oper}
theorem hs_take (hi' : ops.toList[i]? = some o) {v : Value} (hw : Region.wanted o (yielded ops a.tmps) = true) (hv : ∀ w', S w' → (execOp a.eval o).run P w' = .ok (.value v) w')
    (h : hStep P ops Q S rest (a.put o.dst v) w) : hStep P ops Q S ((i, true) :: rest) a w := by rw [hStep_take]; exact ⟨o, by simpa using hi', v, .inl ⟨hw, hv⟩, h⟩
theorem hs_skip (hi' : ops.toList[i]? = some o) (hw : Region.wanted o (yielded ops a.tmps) = false)
    (h : hStep P ops Q S rest (a.put o.dst undef) w) : hStep P ops Q S ((i, true) :: rest) a w := by rw [hStep_take]; exact ⟨o, by simpa using hi', undef, .inr ⟨hw, rfl⟩, h⟩
theorem hs_pass (hi' : ops.toList[i]? = some o) (hw : Region.wanted o (yielded ops a.tmps) = false) (hS : S w)
    (h : hStep P ops Q S rest (a.put o.dst undef) w) : hStep P ops Q S ((i, false) :: rest) a w := by
  have hi : ops[i]? = some o := by simpa using hi'
  rw [hStep_run]
  unfold wpOp
  rw [hi]
  simp only [hw, Bool.false_eq_true, if_false]
  exact ⟨hS, fun _ => h⟩
theorem hs_run (hi' : ops.toList[i]? = some o) (h : ∀ K : Act → World → Prop, Shut (∀ a w, S w → hStep P ops Q S rest a w → K a w) → if Region.wanted o (yielded ops a.tmps) = true then Oper.wp P o a w K Q else K (a.put o.dst undef) w) :
    hStep P ops Q S ((i, false) :: rest) a w := by
  have hi : ops[i]? = some o := by simpa using hi'
  rw [hStep_run]
  exact wpOp_step hi (fun K' hK => h K' (fun a w hS hW => hK a w ⟨hS, fun _ => hW⟩))
theorem hs_done (h : Q .normal a w) : hStep P ops Q S [] a w := by rw [hStep]; exact h
end
end Go.Proofs.Ytkdckcjnjljdmaa.Kt
