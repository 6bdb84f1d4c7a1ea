/- Graph: the rows of calls while they are made: what the loops of Of hold; which function an instruction puts there. -/
import Derived.Test.YtjafmclladiblaaGn
namespace Go.Proofs.Ytjafmclladiblaa.Gr
open Go Go.RowKit Go.Lib Kt Fm

def callsL (m : Mod) (f : Nat) : List Nat := (List.range (cnt m)).filter (callsB m f)
def rootsL (m : Mod) : List Nat := (List.range (cnt m)).filter (rootB m)
def vc (v : Value) : List Value := [v]
theorem flat_vc (L : List Value) : L.flatMap vc = L := by
  induction L with
  | nil => rfl
  | cons x r ih => rw [List.flatMap_cons, ih]; rfl
/-- One element of one cell of a row of one's own is written over. -/
theorem wp_rowset1 {P : Program} {op : Oper} {a : Act} {w : World} {K : Act → World → Prop} {Q : Exit → Act → World → Prop} {base n g cap : Nat} {e ty : TypeId} {xs : List Value} (h : w.ownsRow base e 1 (.slice (some ⟨g, 0, none⟩) n cap) n xs) {i : Nat} (hi : i < n) (p q : Operand) (ho : op.op = .store ty p q) (hp : a.eval p = .pointer (some ⟨g, i, none⟩)) {v : Value} (hq : a.eval q = v) (hv : v.cells = [v].toArray)
    (hs : (P.info? ty).map (·.size) = some 1) (h1 : v.oneCell' = true) (hK : ∀ w', w'.ownsRow base e 1 (.slice (some ⟨g, 0, none⟩) n cap) n (xs.set i v) → w.grownBy w' (some g) → K (a.put op.dst undef) w') : op.wp P a w K Q := by
  have hx : xs.length = n := by rw [h.1, Nat.mul_one]
  have hr := row_over h i [v] (by simp; omega)
  have he : xs.take i ++ [v] ++ xs.drop (i + [v].length) = xs.set i v := by
    rw [List.set_eq_take_append_cons_drop, if_pos (by omega), List.append_assoc]
    rfl
  rw [he] at hr
  have hc : (w.cell? ⟨g, i, none⟩).isSome = true := by rw [h.cellAt _ (by omega), List.getElem?_eq_getElem (by omega)]; rfl
  have hst := run_storeCells_cells (P := P) g i [v] 0 w (fun j hj => by
    have h0 : j = 0 := by simpa using hj
    subst h0
    exact hc) (fun j _ => h.frozenAt _) (by simpa using h1)
  simp only [Nat.add_zero] at hst
  cases hq' : P.info? ty with
  | none => simp [hq'] at hs
  | some i' =>
    have hs' : i'.size = 1 := by simpa [hq'] using hs
    have hrun : (storeVar ty ⟨g, i, none⟩ v).run P w = .ok () (w.setCells g i [v]) := by
      simp [storeVar, sizeOf, typeInfo, hq', hv, hs', hst]
    unfold Oper.wp execOp
    simp only [ho, hp, hq, Instr.storeAt, Instr.sureAddr, Sem.run_bind, Sem.run_pure, Result.andThen_ok, hrun]
    exact hK _ hr.1 hr.2

/-! ### while the calls are made -/
/-- The program's rows, behind k codes. -/
structure Go1 (w4 wr : World) (R0 G CB : Nat) (m : Mod) (tv : Value) (k : Nat) (CV : List Value) : Prop where
  len : CV.length = cnt m
  bel : Below R0 w4 wr
  g : Lies wr G 70 #[.int .i64 (fk m 0).length, .slice (some ⟨CB, 0, none⟩) (cnt m) (cnt m), .slice none 0 0]
  row : wr.ownsRow R0 40 1 (.slice (some ⟨CB, 0, none⟩) (cnt m) (cnt m)) (cnt m) CV
  tab : wr.ownsRow R0 3 1 tv (elemsL m (cnt m)).length ((elemsL m (cnt m)).flatMap ic)
  lists : ∀ (j : Nat) (v : Value), j < (fk m 0).length + k → CV[j]? = some v → WRow wr (fun _ => True) 3 1 v (callsL m j).length ((callsL m j).flatMap ic)
  rest : ∀ j : Nat, (fk m 0).length + k ≤ j → j < cnt m → CV[j]? = some (.slice none 0 0)
/-- .. while one function's calls are gathered, from w0 on. -/
structure In (w0 wr : World) (R0 CB c : Nat) (n : Nat) (CV : List Value) (v : Value) (M : List Nat) : Prop where
  fr : Fr w0 wr (fun k => k = CB)
  row : wr.ownsRow R0 40 1 (.slice (some ⟨CB, 0, none⟩) n n) n (CV.set c v)
  cur : wr.ownsRow w0.heap.size 3 1 v M.length (M.flatMap ic)
section
variable {w4 w0 wr w1 w2 : World} {R0 G CB c n k : Nat} {m : Mod} {tv v : Value} {CV : List Value} {M : List Nat}
theorem In.start (h : w0.ownsRow R0 40 1 (.slice (some ⟨CB, 0, none⟩) n n) n CV) (hc : CV[c]? = some (.slice none 0 0)) : In w0 w0 R0 CB c n CV (.slice none 0 0) [] := by
  refine ⟨Fr.refl _ _, ?_, World.ownsRow_nil _ _ _ _⟩
  have : CV.set c (.slice none 0 0) = CV := by
    refine List.ext_getElem? fun j => ?_
    rw [List.getElem?_set]
    split
    · rename_i e
      subst e
      rw [hc, if_pos (List.getElem?_eq_some_iff.1 hc).1]
    · rfl
  rw [this]
  exact h
theorem In.later (h : In w0 wr R0 CB c n CV v M) (hb : Below wr.heap.size wr w1) : In w0 w1 R0 CB c n CV v M :=
  ⟨h.fr.trans (Fr.of_below hb _), ownsRow_keep h.row hb, ownsRow_keep h.cur hb⟩
theorem In.cell (h : In w0 wr R0 CB c n CV v M) (hc : c < CV.length) : wr.cell? ⟨CB, c, none⟩ = some v := by
  have := h.row.1
  rw [Nat.mul_one, List.length_set] at this
  rw [h.row.cellAt _ (by omega), List.getElem?_set_self hc]
/-- The current row turns, or grows; then its value is written. -/
theorem In.turn {v' : Value} {M' : List Nat} (h : In w0 wr R0 CB c n CV v M) (hr : w1.ownsRow w0.heap.size 3 1 v' M'.length (M'.flatMap ic)) (hg : wr.grownBy w1 v.ownBlock) (hs : w2.ownsRow R0 40 1 (.slice (some ⟨CB, 0, none⟩) n n) n ((CV.set c v).set c v')) (hg2 : w1.grownBy w2 (some CB)) : In w0 w2 R0 CB c n CV v' M' := by
  have f1 : Fr w0 w1 (fun k => k = CB) := by
    refine ⟨hg.os.trans h.fr.os, hg.tape.trans h.fr.tape, hg.output.trans h.fr.output, Nat.le_trans h.fr.size hg.size, fun i hi hn => ?_⟩
    exact (hg.block i (Nat.lt_of_lt_of_le hi h.fr.size) (fun e => by have := (row_block h.cur e.symm).1; omega)).trans (h.fr.block i hi hn)
  have f2 : Fr w1 w2 (fun k => k = CB) := (Fr.of_grown hg2).mono (fun k _ e => by injection e)
  refine ⟨f1.trans f2, by rwa [List.set_set] at hs, ?_⟩
  refine row_fr hr f2 (fun k hk e => ?_)
  subst e
  obtain ⟨_, _, cur, hc1⟩ := row_block hr hk
  have f3 : FrT [3] wr w1 := FrT.grown h.cur hg
  obtain ⟨_, _, cur2, hc2⟩ := row_block (row_frT h.row f3 (by decide)) (k := k) rfl
  rw [hc2] at hc1
  injection hc1 with hc1
  injection hc1 with _ h2 _
  exact absurd h2 (by decide)
/-- The row of calls, where the current one has turned. -/
theorem In.mid {v' : Value} {M' : List Nat} (h : In w0 wr R0 CB c n CV v M) (_hr : w1.ownsRow w0.heap.size 3 1 v' M'.length (M'.flatMap ic)) (hg : wr.grownBy w1 v.ownBlock) : w1.ownsRow R0 40 1 (.slice (some ⟨CB, 0, none⟩) n n) n (CV.set c v) :=
  row_frT h.row (FrT.grown h.cur hg) (by decide)
/-- What is known at the round's start, while the calls are gathered. -/
theorem Go1.cb (h : Go1 w4 w0 R0 G CB m tv k CV) : R0 ≤ CB := (row_block h.row rfl).1
theorem Go1.ne (h : Go1 w4 w0 R0 G CB m tv k CV) : ¬ G = CB := fun e => row_ne_lies h.row h.g (by decide) (by rw [e]; rfl)
theorem Go1.gIn (h : Go1 w4 w0 R0 G CB m tv k CV) (hi : Fr w0 wr (fun k => k = CB)) : Lies wr G 70 #[.int .i64 (fk m 0).length, .slice (some ⟨CB, 0, none⟩) (cnt m) (cnt m), .slice none 0 0] := lies_fr h.g hi h.ne
theorem Go1.belIn (h : Go1 w4 w0 R0 G CB m tv k CV) (hR : R0 ≤ w0.heap.size) (hi : Fr w0 wr (fun k => k = CB)) : Below R0 w4 wr := h.bel.trans (hi.below hR (fun k hk => by subst hk; exact h.cb))
theorem row_not {W : World} {base base' : Nat} {e e' : TypeId} {sz sz' n n' : Nat} {v v' : Value} {xs xs' : List Value} (h : W.ownsRow base e sz v n xs) (h' : W.ownsRow base' e' sz' v' n' xs') (hne : e ≠ e') {k : Nat} (hk : v.ownBlock = some k) : v'.ownBlock ≠ some k := fun hk' => by
  obtain ⟨_, _, cur, hc⟩ := row_block h hk
  obtain ⟨_, _, cur', hc'⟩ := row_block h' hk'
  rw [hc'] at hc
  injection hc with hc
  injection hc with _ h2 _
  exact hne h2.symm
theorem Go1.tabIn (h : Go1 w4 w0 R0 G CB m tv k CV) (hi : Fr w0 wr (fun k => k = CB)) : wr.ownsRow R0 3 1 tv (elemsL m (cnt m)).length ((elemsL m (cnt m)).flatMap ic) :=
  row_fr h.tab hi (fun j hj e => row_not h.tab h.row (by decide) hj (by rw [e]; rfl))
theorem Go1.next (h : Go1 w4 w0 R0 G CB m tv k CV) (hR : R0 ≤ w0.heap.size) (hi : In w0 wr R0 CB ((fk m 0).length + k) (cnt m) CV v (callsL m ((fk m 0).length + k))) (hc : (fk m 0).length + k < cnt m) : Go1 w4 wr R0 G CB m tv (k + 1) (CV.set ((fk m 0).length + k) v) := by
  refine ⟨by rw [List.length_set]; exact h.len, h.belIn hR hi.fr, h.gIn hi.fr, hi.row, h.tabIn hi.fr, fun j u hj hu => ?_, fun j hj hjn => ?_⟩
  · by_cases e : j = (fk m 0).length + k
    · subst e
      rw [List.getElem?_set_self (by rw [h.len]; exact hc)] at hu
      injection hu with hu
      subst hu
      exact WRow.of_own hi.cur (fun _ _ => trivial)
    · rw [List.getElem?_set_ne (fun e' => e e'.symm)] at hu
      refine (h.lists j u (by omega) hu).kept hi.fr (fun b _ hb e2 => ?_)
      subst e2
      obtain ⟨_, _, cur, hcu⟩ := wrow_lt (h.lists j u (by omega) hu) hb.symm
      obtain ⟨_, _, cur2, hc2⟩ := row_block h.row (k := b) rfl
      rw [hc2] at hcu
      injection hcu with hcu
      injection hcu with _ h2 _
      exact absurd h2 (by decide)
  · rw [List.getElem?_set_ne (by omega)]
    exact h.rest j (by omega) hjn
end

/-! ### what an instruction puts there -/
def typB (m : Mod) (f : Nat) (x : Ins) : Bool := match ftype m f, m.types[x.a]? with | some t, some u => same t u | _, _ => false
def pushL (m : Mod) (n : Nat) (x : Ins) : List Nat := if x.op == 16 then (if x.a < n then [x.a] else []) else if x.op == 17 then (elemsL m n).filter (fun f => typB m f x) else []
theorem pushL_le (m : Mod) (n : Nat) (x : Ins) : (pushL m n x).length ≤ n + 1 := by
  unfold pushL
  split
  · split <;> simp
  · split
    · refine Nat.le_trans (List.length_filter_le _ _) (Nat.le_trans (List.length_filter_le _ _) (by simp))
    · simp
theorem pushL_lt {m : Mod} {n : Nat} {x : Ins} {h : Nat} (hh : h ∈ pushL m n x) : h < n := by
  unfold pushL at hh
  split at hh
  · split at hh
    · rename_i ha
      obtain rfl := List.mem_singleton.1 hh
      exact ha
    · cases hh
  · split at hh
    · exact List.mem_range.1 (List.mem_filter.1 (List.mem_filter.1 hh).1).1
    · cases hh
theorem mem_pushL {m : Mod} {n : Nat} {x : Ins} {h : Nat} (hn : h < n) : h ∈ pushL m n x ↔ hit m h x = true := by
  unfold pushL hit
  by_cases h16 : x.op = 16
  · have e16 : (x.op == 16) = true := by rw [h16]; rfl
    have e17 : (x.op == 17) = false := by rw [h16]; rfl
    rw [e16, e17, if_pos rfl, Bool.true_and, Bool.false_and, Bool.or_false, beq_iff_eq]
    by_cases ha : x.a < n
    · rw [if_pos ha, List.mem_singleton]
      exact ⟨fun e => e.symm, fun e => e.symm⟩
    · rw [if_neg ha]
      constructor
      · intro e; cases e
      · intro e; omega
  · have e16 : (x.op == 16) = false := beq_eq_false_iff_ne.2 h16
    rw [e16, if_neg (by simp), Bool.false_and, Bool.false_or]
    by_cases h17 : x.op = 17
    · have e17 : (x.op == 17) = true := by rw [h17]; rfl
      rw [e17, if_pos rfl, Bool.true_and, List.mem_filter, elemsL, List.mem_filter, List.mem_range, Bool.and_eq_true, Bool.and_eq_true, decide_eq_true_eq]
      unfold typB
      constructor
      · rintro ⟨⟨_, h1⟩, h2⟩
        refine ⟨?_, h1, h2⟩
        cases hu : m.types[x.a]? with
        | none =>
          rw [hu] at h2
          cases ht : ftype m h <;> rw [ht] at h2 <;> cases h2
        | some u => exact (List.getElem?_eq_some_iff.1 hu).1
      · rintro ⟨_, h1, h2⟩
        exact ⟨⟨hn, h1⟩, h2⟩
    · have e17 : (x.op == 17) = false := beq_eq_false_iff_ne.2 h17
      rw [e17, if_neg (by simp), Bool.false_and]
      simp
/-- Of an own function: what its body puts there is what it calls. -/
theorem srt_calls {m : Mod} {f : Nat} {c : Cod} (hc : codeOf m f = some c) : srt (cnt m) (c.body.flatMap (pushL m (cnt m))) = callsL m f := by
  unfold srt callsL
  refine List.filter_congr fun h hh => ?_
  have hn := List.mem_range.1 hh
  rw [callsB_some hc hn, Bool.eq_iff_iff, List.contains_iff_mem, List.mem_flatMap, List.any_eq_true]
  exact ⟨fun ⟨x, hx, hm⟩ => ⟨x, hx, (mem_pushL hn).1 hm⟩, fun ⟨x, hx, hm⟩ => ⟨x, hx, (mem_pushL hn).2 hm⟩⟩
theorem calls_none {m : Mod} {f : Nat} (hc : codeOf m f = none) : callsL m f = [] := by
  unfold callsL
  rw [List.filter_eq_nil_iff]
  intro h _
  unfold callsB
  rw [hc, Bool.and_false]
  simp
section
variable {w4 wr w1 : World} {R0 G CB k : Nat} {m : Mod} {tv : Value} {CV : List Value}
theorem Go1.later (h : Go1 w4 wr R0 G CB m tv k CV) (hR : R0 ≤ wr.heap.size) (hb : Below wr.heap.size wr w1) : Go1 w4 w1 R0 G CB m tv k CV :=
  ⟨h.len, h.bel.trans (hb.mono hR), h.g.below hb h.g.lt, ownsRow_keep h.row hb, ownsRow_keep h.tab hb, fun j v hj hv => (h.lists j v hj hv).kept (m := fun _ => False) (Fr.of_below hb _) (fun _ _ _ h => h), h.rest⟩
/-- All rows are made. -/
structure GoD (w4 wr : World) (R0 G CB : Nat) (m : Mod) (CV : List Value) : Prop where
  len : CV.length = cnt m
  bel : Below R0 w4 wr
  g : Lies wr G 70 #[.int .i64 (fk m 0).length, .slice (some ⟨CB, 0, none⟩) (cnt m) (cnt m), .slice none 0 0]
  row : wr.ownsRow R0 40 1 (.slice (some ⟨CB, 0, none⟩) (cnt m) (cnt m)) (cnt m) CV
  lists : ∀ (j : Nat) (v : Value), CV[j]? = some v → WRow wr (fun _ => True) 3 1 v (callsL m j).length ((callsL m j).flatMap ic)
theorem Go1.done (h : Go1 w4 wr R0 G CB m tv k CV) (hk : cnt m ≤ (fk m 0).length + k ∨ m.codes.length ≤ k) : GoD w4 wr R0 G CB m CV := by
  refine ⟨h.len, h.bel, h.g, h.row, fun j v hv => ?_⟩
  have hj : j < cnt m := by rw [← h.len]; exact (List.getElem?_eq_some_iff.1 hv).1
  by_cases e : j < (fk m 0).length + k
  · exact h.lists j v e hv
  · rw [h.rest j (by omega) hj] at hv
    injection hv with hv
    subst hv
    have hcn : codeOf m j = none := by
      unfold codeOf
      rw [if_pos ⟨by show (fk m 0).length ≤ j; omega, hj⟩]
      refine List.getElem?_eq_none ?_
      show m.codes.length ≤ j - (fk m 0).length
      omega
    rw [calls_none hcn]
    exact WRow.nil _ _ _ _
end
theorem filter_ext {α : Type} {l : List α} {j : Nat} {x : α} (p : α → Bool) (h : l[j]? = some x) : (l.take (j + 1)).filter p = (l.take j).filter p ++ if p x then [x] else [] := filter_succ p h
end Go.Proofs.Ytjafmclladiblaa.Gr
