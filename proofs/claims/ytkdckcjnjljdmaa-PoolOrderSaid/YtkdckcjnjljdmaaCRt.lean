/- A region that draws its order whose first operations only read: those in the text's order, in one world under a name of its own; then the rest as a list. Addresses' cells as facts. Over any program. -/
import Derived.StillTail
import Derived.StillTailTactics
import Derived.StillTactics
import Derived.Test.YtkdckcjnjljdmaaCBx
import Derived.Test.YtkdckcjnjljdmaaCPlan
namespace Go.Proofs.Ytkdckcjnjljdmaa.Kt
open Go Go.RowKit

theorem wp_region_tail {P : Program} {id : Nat} {Q : Exit → Act → World → Prop} {a : Act} {w : World} {l : List Oper} (n : Nat) (hm : P.follows .mixedOrders = true) (hB : Region.lexTailB .any l.toArray n = true)
    (h : ∀ V : World, V = w.drew → wpStill P l.toArray V (fun a' => wpList P l.toArray Q (l.drop n) a' V) (l.take n) a) : (Code.region id l.toArray true).wp P Q a w :=
  wp_region_still_tail n hm hB (h _ rfl)

/-- A plan for a region that draws its order: take: what yields wherever S holds, as soon as it may come up; run: what alone may come up; fork: two may come up. -/
inductive RP where
  | done
  | take (i : Nat) (p : RP)
  | run (i : Nat) (p : RP)
  | fork (i j : Nat) (p q : RP)

namespace RP
variable {P : Program} {ops : Array Oper} {Q : Exit → Act → World → Prop} {S : World → Prop}
/-- how many operations are still to come -/
def size : RP → Nat
  | done => 0
  | take _ p => p.size + 1
  | run _ p => p.size + 1
  | fork _ _ p q => max p.size q.size + 1
def ok (ops : Array Oper) : RP → Array Bool → Bool
  | done, l => (Region.ready .any ops l).isEmpty
  | take i p, l => Region.free .any ops l i && (Region.ready .any ops l).contains i && p.ok ops (l.setIfInBounds i true)
  | run i p, l => Region.ready .any ops l == [i] && p.ok ops (l.setIfInBounds i true)
  | fork i j p q, l => Region.ready .any ops l == [i, j] && p.ok ops (l.setIfInBounds i true) && q.ok ops (l.setIfInBounds j true)
def go (P : Program) (ops : Array Oper) (Q : Exit → Act → World → Prop) (S : World → Prop) : RP → Act → World → Prop
  | done, a, w => Q .normal a w
  | take i p, a, w => ∃ o, ops[i]? = some o ∧ ∃ v, YieldsIf P ops S o v a ∧ go P ops Q S p (a.put o.dst v) w
  | run i p, a, w => wpOp P ops Q i (fun a' w' => S w' ∧ (S w' → go P ops Q S p a' w')) a w
  | fork i j p q, a, w => wpOp P ops Q i (fun a' w' => S w' ∧ (S w' → go P ops Q S p a' w')) a w ∧ wpOp P ops Q j (fun a' w' => S w' ∧ (S w' → go P ops Q S q a' w')) a w
theorem held (hsel : Region.noSelect ops = true) (hQ : ∀ (c : List PanicEntry) (a : Act) (d : Option Tmp) (v : Value) (w : World), Q (.panic c) (a.put d v) w → Q (.panic c) a w) :
    ∀ (p : RP) (n : Nat) (l : Array Bool) (a : Act) (w : World), p.size ≤ n → p.ok ops l = true → S w → p.go P ops Q S a w → wpAnyH P .any ops Q S n l a w
  | done, n, l, a, w, _, hp, _, h => wpAnyH_done (by simpa [ok] using hp) h n
  | take i p, n, l, a, w, hn, hp, hS, h => by
    obtain ⟨m, rfl⟩ : ∃ m, n = m + 1 := ⟨n - 1, by simp only [size] at hn; omega⟩
    obtain ⟨o, hi, v, hy, h⟩ := h
    simp only [ok, Bool.and_eq_true] at hp
    exact wpAnyH_take hi hsel hp.1.1 hp.1.2 (fun c a w => hQ c a _ _ w) hy hS (held hsel hQ p m _ _ w (by simp only [size] at hn; omega) hp.2 hS h)
  | run i p, n, l, a, w, hn, hp, _, h => by
    obtain ⟨m, rfl⟩ : ∃ m, n = m + 1 := ⟨n - 1, by simp only [size] at hn; omega⟩
    simp only [ok, Bool.and_eq_true, beq_iff_eq] at hp
    refine wpAnyH_all hp.1 (by simp) (fun j hj => ?_)
    obtain rfl : j = i := by simpa using hj
    exact wpOp_mono (fun a' w' h' => ⟨h'.1, held hsel hQ p m _ _ _ (by simp only [size] at hn; omega) hp.2 h'.1 (h'.2 h'.1)⟩) h
  | fork i j p q, n, l, a, w, hn, hp, _, h => by
    obtain ⟨m, rfl⟩ : ∃ m, n = m + 1 := ⟨n - 1, by simp only [size] at hn; omega⟩
    simp only [ok, Bool.and_eq_true, beq_iff_eq] at hp
    refine wpAnyH_all hp.1.1 (by simp) (fun k hk => ?_)
    rcases List.mem_cons.1 hk with rfl | hk
    · exact wpOp_mono (fun a' w' h' => ⟨h'.1, held hsel hQ p m _ _ _ (by simp only [size] at hn; omega) hp.1.2 h'.1 (h'.2 h'.1)⟩) h.1
    · obtain rfl : k = j := by simpa using hk
      exact wpOp_mono (fun a' w' h' => ⟨h'.1, held hsel hQ q m _ _ _ (by simp only [size] at hn; omega) hp.2 h'.1 (h'.2 h'.1)⟩) h.2

/-- THE REGION, ALONG A PLAN. -/
theorem region {id : Nat} {a : Act} {w : World} (p : RP) (S : World → Prop) (hm : P.follows .mixedOrders = true)
    (hok : (Region.noSelect ops && (p.ok ops (Array.replicate ops.size false) && decide (p.size ≤ ops.size))) = true)
    (hQ : ∀ (c : List PanicEntry) (a : Act) (d : Option Tmp) (v : Value) (w : World), Q (.panic c) (a.put d v) w → Q (.panic c) a w)
    (hS : S w.drew) (h : S w.drew → p.go P ops Q S a w.drew) : (Code.region id ops true).wp P Q a w := by
  simp only [Bool.and_eq_true, decide_eq_true_eq] at hok
  refine wp_region_held_drew (S := S) hm hS (fun hS' => ?_)
  exact held hok.1 hQ p _ _ _ _ hok.2.2 hok.2.1 hS' (h hS')

variable {i j : Nat} {p q : RP} {a : Act} {w : World} {o o' : Oper}
theorem t_take (hi' : ops.toList[i]? = some o) {v : Value} (hw : Region.wanted o (yielded ops a.tmps) = true) (hv : ∀ w', S w' → (execOp a.eval o).run P w' = .ok (.value v) w')
    (h : p.go P ops Q S (a.put o.dst v) w) : (take i p).go P ops Q S a w := ⟨o, by simpa using hi', v, .inl ⟨hw, hv⟩, h⟩
theorem t_skip (hi' : ops.toList[i]? = some o) (hw : Region.wanted o (yielded ops a.tmps) = false)
    (h : p.go P ops Q S (a.put o.dst undef) w) : (take i p).go P ops Q S a w := ⟨o, by simpa using hi', undef, .inr ⟨hw, rfl⟩, h⟩
theorem t_run (hi' : ops.toList[i]? = some o) (h : ∀ K : Act → World → Prop, Shut (∀ a w, S w → p.go P ops Q S a w → K a w) → if Region.wanted o (yielded ops a.tmps) = true then Oper.wp P o a w K Q else K (a.put o.dst undef) w) :
    (run i p).go P ops Q S a w := by
  have hi : ops[i]? = some o := by simpa using hi'
  exact wpOp_step hi (fun K' hK => h K' (fun a w hS hW => hK a w ⟨hS, fun _ => hW⟩))
theorem t_fork (hi' : ops.toList[i]? = some o) (hj' : ops.toList[j]? = some o')
    (h : ∀ K : Act → World → Prop, Shut (∀ a w, S w → p.go P ops Q S a w → K a w) → if Region.wanted o (yielded ops a.tmps) = true then Oper.wp P o a w K Q else K (a.put o.dst undef) w)
    (h' : ∀ K : Act → World → Prop, Shut (∀ a w, S w → q.go P ops Q S a w → K a w) → if Region.wanted o' (yielded ops a.tmps) = true then Oper.wp P o' a w K Q else K (a.put o'.dst undef) w) :
    (fork i j p q).go P ops Q S a w := by
  have hi : ops[i]? = some o := by simpa using hi'
  have hj : ops[j]? = some o' := by simpa using hj'
  exact ⟨wpOp_step hi (fun K' hK => h K' (fun a w hS hW => hK a w ⟨hS, fun _ => hW⟩)), wpOp_step hj (fun K' hK => h' K' (fun a w hS hW => hK a w ⟨hS, fun _ => hW⟩))⟩
theorem t_done (h : Q .normal a w) : done.go P ops Q S a w := h
end RP
end Go.Proofs.Ytkdckcjnjljdmaa.Kt
