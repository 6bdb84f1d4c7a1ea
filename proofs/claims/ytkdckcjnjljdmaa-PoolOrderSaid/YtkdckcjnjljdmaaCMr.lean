/- Ranging over a map as it lies: an iterator over it, the entries that are still to come; the laws at range, next, entry; the same laws inside a fence. Over any program. -/
import Derived.Test.YtkdckcjnjljdmaaCMp
import Derived.Maps.OwnIn
import Derived.RangeFuncSeq
namespace Go.Proofs.Ytkdckcjnjljdmaa.Kt
open Go Go.RowKit Go.MapKept Go.ChangeMaps
open Go.Maps (Keyed)

section
variable {α : Type}
/-- UNDER WAY: block b is a map of L, block r an iterator over it; 'left' is still to come. -/
structure Ranging (ek : α → Value) (W : World) (b r : Nat) (L left : List (α × Value)) : Prop where
  map : IsMap ek W b L
  sub : ∀ p ∈ left, p ∈ L
  it : ∃ es clock since seen c0, W.heap[b]? = some (.map es clock) ∧ W.heap[r]? = some (.mapIter (some b) since seen c0) ∧ (∀ x ∈ es.toList, x.born < since) ∧ since ≤ c0 ∧ since ≤ clock ∧
    ((leftOf es seen).toList.map fun e => (e.key, e.val)).Perm (left.map fun p => (ek p.1, p.2))

variable {ek : α → Value} {W : World} {b r : Nat} {L left : List (α × Value)} {P : Program} {k t e : TypeId}

theorem Ranging.ne (h : Ranging ek W b r L left) : r ≠ b := by
  obtain ⟨es, clock, since, seen, c0, h1, h2, _⟩ := h.it
  intro e
  rw [e, h1] at h2
  cases h2
theorem Ranging.lt (h : Ranging ek W b r L left) : r < W.heap.size := by
  obtain ⟨es, clock, since, seen, c0, h1, h2, _⟩ := h.it
  exact (Array.getElem?_eq_some_iff.1 h2).1
theorem Ranging.of_blocks (h : Ranging ek W b r L left) {W' : World} (h1 : W'.heap[b]? = W.heap[b]?) (h2 : W'.heap[r]? = W.heap[r]?) : Ranging ek W' b r L left := by
  obtain ⟨es, clock, since, seen, c0, a1, a2, a3⟩ := h.it
  exact ⟨h.map.of_block h1, h.sub, es, clock, since, seen, c0, h1.trans a1, h2.trans a2, a3⟩
theorem Ranging.kept (h : Ranging ek W b r L left) {W' : World} {row : Option Nat} (hg : W.grownBy W' row) (hb : some b ≠ row) (hr : some r ≠ row) : Ranging ek W' b r L left :=
  h.of_blocks (hg.block b h.map.lt hb) (hg.block r h.lt hr)
theorem Ranging.drew (h : Ranging ek W b r L left) : Ranging ek W.drew b r L left := h.of_blocks rfl rfl
theorem Ranging.of_walks (h : Ranging ek W b r L left) {W' : World} (hk : KeepsWalks W W') : Ranging ek W' b r L left := by
  obtain ⟨es, clock, since, seen, c0, a1, a2, a3⟩ := h.it
  exact h.of_blocks ((hk.same b _ a1 rfl).trans a1.symm) ((hk.same r _ a2 rfl).trans a2.symm)
theorem Ranging.iter_walk (h : Ranging ek W b r L left) : ∃ o : Obj, W.heap[r]? = some o ∧ o.isWalk = true := by
  obtain ⟨es, clock, since, seen, c0, a1, a2, a3⟩ := h.it
  exact ⟨_, a2, rfl⟩

theorem IsMap.range (h : IsMap ek W b L) (ht : P.underlying t = some (.map k e)) :
    (Instr.range t (.map (some b))).run P W = .ok (.pointer (some ⟨W.heap.size, 0, none⟩)) (W.alloc (.mapIter (some b) (((W.heap[b]?).elim 0 fun o => match o with | .map _ c => c | _ => 0)) #[] (((W.heap[b]?).elim 0 fun o => match o with | .map _ c => c | _ => 0)))) ∧
    Ranging ek (W.alloc (.mapIter (some b) (((W.heap[b]?).elim 0 fun o => match o with | .map _ c => c | _ => 0)) #[] (((W.heap[b]?).elim 0 fun o => match o with | .map _ c => c | _ => 0)))) b W.heap.size L L := by
  have hlt := h.lt
  have h' := h
  obtain ⟨es, clock, h1, h2, h3⟩ := h.block
  have e0 : ((W.heap[b]?).elim 0 fun o => match o with | .map _ c => c | _ => 0) = clock := by rw [h1]; rfl
  rw [e0]
  refine ⟨run_range_map W t k e b es clock ht h1, h'.of_block ((heap_alloc W _).2 b hlt), fun _ hp => hp, es, clock, clock, #[], clock, ((heap_alloc W _).2 b hlt).trans h1, (heap_alloc W _).1, ((stamped_iff es clock).1 h2).1, Nat.le_refl _, Nat.le_refl _, ?_⟩
  have : leftOf es #[] = es := by simp [leftOf]
  rw [this]
  exact h3

theorem left_perm {es : Array MapEntry} {seen : Array Nat} (hn : (es.toList.map (·.born)).Nodup) {x : MapEntry} (hx : x ∈ (leftOf es seen).toList) :
    (leftOf es seen).toList.Perm (x :: (leftOf es (seen.push x.born)).toList) := by
  classical
  have hl : (leftOf es seen).toList = es.toList.filter fun e => !seen.contains e.born := by simp [leftOf]
  have hl2 : (leftOf es (seen.push x.born)).toList = (leftOf es seen).toList.filter fun e => decide (e.born ≠ x.born) := by
    rw [hl, List.filter_filter]
    simp only [leftOf, Array.toList_filter]
    refine List.filter_congr (fun y _ => ?_)
    rw [contains_push]
    cases seen.contains y.born <;> by_cases hy : y.born = x.born <;> simp [hy]
  rw [hl2]
  have hnl : ((leftOf es seen).toList.map (·.born)).Nodup := by
    rw [hl]
    exact (List.Sublist.map _ List.filter_sublist).nodup hn
  generalize (leftOf es seen).toList = l at hx hnl
  clear hl hl2 hn
  induction l with
  | nil => simp at hx
  | cons y r ih =>
    simp only [List.map_cons, List.nodup_cons] at hnl
    rcases List.mem_cons.1 hx with rfl | hx'
    · have : (x :: r).filter (fun e => decide (e.born ≠ x.born)) = r := by
        rw [List.filter_cons_of_neg (by simp)]
        refine List.filter_eq_self.2 (fun z hz => ?_)
        simp only [ne_eq, decide_eq_true_eq]
        exact fun e => hnl.1 (List.mem_map.2 ⟨z, hz, e⟩)
      rw [this]
    · have hyx : y.born ≠ x.born := fun e => hnl.1 (e ▸ List.mem_map.2 ⟨x, hx', rfl⟩)
      rw [List.filter_cons_of_pos (by simpa using hyx)]
      exact ((ih hx' hnl.2).cons y).trans (List.Perm.swap x y _)

/-- THE STEP. -/
theorem Ranging.next (h : Ranging ek W b r L left) (ty : TypeId) :
    (left = [] ∧ (Instr.next (.pointer (some ⟨r, 0, none⟩)) false ty).run P W = .ok (.tuple #[.bool false]) W) ∨
    ∃ x v left' W', left.Perm ((x, v) :: left') ∧ (Instr.next (.pointer (some ⟨r, 0, none⟩)) false ty).run P W = .ok (.tuple #[.bool true, ek x, v]) W' ∧
      Ranging ek W' b r L left' ∧ W.grownBy W' (some r) ∧ W'.heap.size = W.heap.size ∧ (Instr.entry (.pointer (some ⟨r, 0, none⟩))).run P W' = .ok (.tuple #[ek x, v]) W' := by
  have hne := h.ne
  have hm := h.map
  obtain ⟨es, clock, since, seen, c0, h1, h2, h3, h4, h5, h6⟩ := h.it
  obtain ⟨es', clock', h1', hst, hpm⟩ := h.map.block
  rw [h1] at h1'
  cases h1'
  have hst' := (stamped_iff es clock).1 hst
  rcases run_next_at (P := P) W ty r b since c0 seen es clock h2 h1 h3 h4 with ⟨h0, hrun⟩ | ⟨x, hx, w1, hal, hrun⟩
  · refine Or.inl ⟨?_, hrun⟩
    have e1 : (leftOf es seen).toList = [] := List.eq_nil_of_length_eq_zero (by simpa using h0)
    rw [e1] at h6
    simpa using h6
  · obtain ⟨hem, hes⟩ := mem_left hx
    have hp := left_perm hst'.2.1 hx
    have hmem : (x.key, x.val) ∈ left.map fun p => (ek p.1, p.2) := h6.mem_iff.1 (List.mem_map.2 ⟨x, hx, rfl⟩)
    obtain ⟨p, hpl, e1⟩ := List.mem_map.1 hmem
    simp only [Prod.mk.injEq] at e1
    obtain ⟨l1, l2, rfl⟩ := List.append_of_mem hpl
    have pp : (l1 ++ p :: l2).Perm (p :: (l1 ++ l2)) := List.perm_middle
    have h2' : w1.heap[r]? = some (.mapIter (some b) since seen c0) := by rcases hal with rfl | rfl <;> exact h2
    have h1' : w1.heap[b]? = some (.map es clock) := by rcases hal with rfl | rfl <;> exact h1
    have hset := heap_set (o' := .mapIter (some b) since (seen.push x.born) clock) h2'
    have hb' : (setBlock w1 r (.mapIter (some b) since (seen.push x.born) clock)).heap[b]? = some (.map es clock) := (hset.2 b (fun e1 => hne e1.symm)).trans h1'
    refine Or.inr ⟨p.1, p.2, l1 ++ l2, _, pp, by rw [e1.1, e1.2]; exact hrun, ⟨hm.of_block (hb'.trans h1.symm), fun q hq => h.sub q (pp.mem_iff.2 (List.mem_cons_of_mem _ hq)), es, clock, since, seen.push x.born, clock, hb', hset.1, h3, h5, h5, ?_⟩, ?_, ?_, ?_⟩
    · have q1 := ((hp.map fun e => (e.key, e.val)).symm.trans h6).trans (pp.map fun p => (ek p.1, p.2))
      simp only [List.map_cons, e1.1, e1.2] at q1
      exact (List.perm_cons _).1 q1
    · rcases hal with rfl | rfl <;> exact ⟨rfl, rfl, rfl, by simp [setBlock], fun i _ hi => hset.2 i (fun e1 => hi (by rw [e1]))⟩
    · rcases hal with rfl | rfl <;> simp [setBlock]
    · rw [e1.1, e1.2]
      exact run_entry_at _ r b since seen es clock x hset.1 hb' hem hst'.2.1

/-- HOW MANY ENTRIES ARE STILL TO COME: for a loop's measure. -/
theorem Ranging.left_eq (h : Ranging ek W b r L left) : W.rangeLeft b r = left.length := by
  obtain ⟨es, clock, since, seen, c0, h1, h2, _, _, _, h6⟩ := h.it
  simp only [World.rangeLeft, h1, h2]
  simpa using h6.length_eq
end

section
variable {α : Type} {ek : α → Value} {b r : Nat} {L left : List (α × Value)} {P : Program} {k t e : TypeId}
  {w : World} {ops : Array Oper} {rest : List Oper} {o : Oper} {a : Act} {Q : Exit → Act → World → Prop}

theorem wpl_range (ht : P.underlying t = some (.map k e)) (h : IsMap ek w b L) (m : Operand) (hop : o.op = Op.range t m) (hg : o.guard = none)
    (hm : a.eval m = .map (some b))
    (hK : ∀ w', Ranging ek w' b w.heap.size L L → w.grownBy w' none → w'.heap.size = w.heap.size + 1 → wpList P ops Q rest (a.put o.dst (.pointer (some ⟨w.heap.size, 0, none⟩))) w') :
    wpList P ops Q (o :: rest) a w := by
  refine wpList_plain hg fun K' hK' => ?_
  obtain ⟨hrun, r1⟩ := h.range (P := P) ht
  unfold Oper.wp
  simp only [execOp, hop, hm, hrun, Sem.run_bind, Result.andThen]
  exact hK' _ _ (hK _ r1 (World.grownBy_alloc w _ none) (by simp))

theorem wpl_next (h : Ranging ek w b r L left) (it : Operand) (hop : o.op = Op.next it false) (hg : o.guard = none) (hit : a.eval it = .pointer (some ⟨r, 0, none⟩))
    (hDone : left = [] → wpList P ops Q rest (a.put o.dst (.tuple #[.bool false])) w)
    (hMore : ∀ x v left' w', left.Perm ((x, v) :: left') → Ranging ek w' b r L left' → w.grownBy w' (some r) → w'.heap.size = w.heap.size →
      (Instr.entry (.pointer (some ⟨r, 0, none⟩))).run P w' = .ok (.tuple #[ek x, v]) w' → wpList P ops Q rest (a.put o.dst (.tuple #[.bool true, ek x, v])) w') :
    wpList P ops Q (o :: rest) a w := by
  refine wpList_plain hg fun K' hK' => ?_
  unfold Oper.wp
  rcases h.next (P := P) o.type with ⟨h0, hrun⟩ | ⟨x, v, left', w', hp, hrun, hr, hgr, hsz, hen⟩
  · simp [execOp, hop, hit, hrun, Result.andThen]
    exact hK' _ _ (hDone h0)
  · simp [execOp, hop, hit, hrun, Result.andThen]
    exact hK' _ _ (hMore x v left' w' hp hr hgr hsz hen)

variable {F : Fence} {n : Nat}
theorem wpi_range (ht : P.underlying t = some (.map k e)) (h : IsMap ek w b L) (m : Operand) (hop : o.op = Op.range t m) (hg : o.guard = none)
    (hm : a.eval m = .map (some b))
    (hK : ∀ w', Ranging ek w' b w.heap.size L L → w.grownBy w' none → w'.heap.size = w.heap.size + 1 → wpListIn F n P ops Q rest (a.put o.dst (.pointer (some ⟨w.heap.size, 0, none⟩))) w') :
    wpListIn F n P ops Q (o :: rest) a w := by
  refine wpListIn_plain hg fun K' hK' => ?_
  obtain ⟨hrun, r1⟩ := h.range (P := P) ht
  unfold Oper.wpIn
  refine ⟨by simp [Oper.about, hop], ?_⟩
  rw [Oper.semAt_plain F _ _ (by rw [hop]; intro c hc'; cases hc')]
  simp only [execOp, hop, hm, hrun, Sem.run_bind, Result.andThen]
  exact hK' _ _ (hK _ r1 (World.grownBy_alloc w _ none) (by simp))

theorem wpi_next (h : Ranging ek w b r L left) (it : Operand) (hop : o.op = Op.next it false) (hg : o.guard = none) (hit : a.eval it = .pointer (some ⟨r, 0, none⟩))
    (hDone : left = [] → wpListIn F n P ops Q rest (a.put o.dst (.tuple #[.bool false])) w)
    (hMore : ∀ x v left' w', left.Perm ((x, v) :: left') → Ranging ek w' b r L left' → w.grownBy w' (some r) → w'.heap.size = w.heap.size →
      (Instr.entry (.pointer (some ⟨r, 0, none⟩))).run P w' = .ok (.tuple #[ek x, v]) w' → wpListIn F n P ops Q rest (a.put o.dst (.tuple #[.bool true, ek x, v])) w') :
    wpListIn F n P ops Q (o :: rest) a w := by
  refine wpListIn_plain hg fun K' hK' => ?_
  unfold Oper.wpIn
  refine ⟨by simp [Oper.about, hop], ?_⟩
  rw [Oper.semAt_plain F _ _ (by rw [hop]; intro c hc'; cases hc')]
  rcases h.next (P := P) o.type with ⟨h0, hrun⟩ | ⟨x, v, left', w', hp, hrun, hr, hgr, hsz, hen⟩
  · simp [execOp, hop, hit, hrun, Result.andThen]
    exact hK' _ _ (hDone h0)
  · simp [execOp, hop, hit, hrun, Result.andThen]
    exact hK' _ _ (hMore x v left' w' hp hr hgr hsz hen)
end
end Go.Proofs.Ytkdckcjnjljdmaa.Kt
