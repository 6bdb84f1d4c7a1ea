/- copy of elements of many cells into a row of one's own. Over any program. -/
import Derived.Test.YtkdckcjnjljdmaaCZo
import Derived.Laws.IdiomCopy
import Derived.Test.YtkdckcjnjljdmaaCFt
namespace Go.Proofs.Ytkdckcjnjljdmaa.Fm
open Go Go.RowKit Go.Lib Kt
section
variable {P : Program}
theorem run_copy_sz (w : World) (dT sT ty elem : TypeId) (b o dLen dCap : Nat) (a : Go.Addr) (sLen sCap sz : Nat) (cs : List Value)
    (hu : P.underlying dT = some (.slice elem)) (hs : (P.info? elem).map (·.size) = some sz) (hn : cs.length = Nat.min sLen dLen * sz)
    (hsrc : ∀ j v, cs[j]? = some v → w.cell? (a.add j) = some v) (hc : ∀ j, j < cs.length → (w.cell? ⟨b, o + j, none⟩).isSome = true) (hf : ∀ j, j < cs.length → w.frozen? ⟨b, o + j, none⟩ = false) (h1 : ∀ v ∈ cs, v.oneCell' = true) :
    (Builtin.copy_ #[dT, sT] ty #[.slice (some ⟨b, o, none⟩) dLen dCap, .slice (some a) sLen sCap]).run P w = .ok (goInt (Nat.min sLen dLen)) (w.setCells b o cs) := by
  have hl := run_loadCells_list (P := P) w a cs hsrc
  have hst := run_storeCells_cells (P := P) b o cs 0 w (by simpa using hc) (by simpa using hf) h1
  cases hq : P.info? elem with
  | none => simp [hq] at hs
  | some i =>
    have hi : i.size = sz := by simpa [hq] using hs
    simp [Builtin.copy_, run_underlying hu, Builtin.lenOf, Builtin.firstCells, sizeOf, typeInfo, hq, hi, ← hn, hl, hst]
end
end Go.Proofs.Ytkdckcjnjljdmaa.Fm
namespace Go.Proofs.Ytkdckcjnjljdmaa.Po
open Go Go.RowKit Go.Lib Kt Fm Ad Kv
theorem wl_copyE {ops : Array Oper} {rest : List Oper} {op : Oper} {a : Act} {w : World} {Q : Exit → Act → World → Prop} (p q : Operand) (hgd : op.guard = none) (ho : op.op = .call { callee := .builtin .copy, args := #[p, q], argTypes := #[77, 77] }) {base g n cap o dLen c1 sLen c2 : Nat} {ad : Go.Addr} {xs cs : List Value}
    (h : w.ownsRow base 81 22 (.slice (some ⟨g, 0, none⟩) n cap) n xs) (hp : a.eval p = .slice (some ⟨g, o * 22, none⟩) dLen c1) (hq : a.eval q = .slice (some ad) sLen c2) (hl : cs.length = Nat.min sLen dLen * 22) (hn : ∀ j u, cs[j]? = some u → w.cell? (ad.add j) = some u) (h1 : ∀ u ∈ cs, u.oneCell' = true) (hfit : o * 22 + cs.length ≤ xs.length)
    (hK : ∀ w', w'.ownsRow base 81 22 (.slice (some ⟨g, 0, none⟩) n cap) n (xs.take (o * 22) ++ cs ++ xs.drop (o * 22 + cs.length)) → w.grownBy w' (some g) → wpList Try.prog ops Q rest (a.put op.dst (goInt (Nat.min sLen dLen))) w') : wpList Try.prog ops Q (op :: rest) a w := by
  obtain ⟨cur, hlie, hs, hnc, _⟩ := row_room h
  have hx : xs.length = n * 22 := h.1
  have hle : n * 22 ≤ cap * 22 := Nat.mul_le_mul_right _ hnc
  have hr := run_copy_sz (P := Try.prog) w 77 77 op.type 81 g (o * 22) dLen c1 ad sLen c2 22 cs Try.underlying77 sizeEn hl hn (fun j hj => by rw [hlie.cell, Array.getElem?_eq_getElem (by rw [hs]; omega)]; rfl) (fun j hj => hlie.frozen _) h1
  obtain ⟨k1, k2⟩ := row_over h (o * 22) cs hfit
  refine wpList_plain hgd fun _ hK' => ?_
  unfold Oper.wp execOp
  simp only [ho, resolve, invoke, builtin, Sem.run_bind, Sem.run_pure, Result.andThen_ok, List.map_toArray, List.map_cons, List.map_nil, hp, hq, hr]
  exact hK' _ _ (hK _ k1 k2)
end Go.Proofs.Ytkdckcjnjljdmaa.Po
namespace Go.Proofs.Ytkdckcjnjljdmaa.Fm
open Go Go.RowKit Go.Lib Kt

section
variable {P : Program} {w : World}
theorem asInt_run (k : IntKind) (n : Int) : (asInt (.int k n)).run P w = .ok n w := by simp [asInt, asIntOf]
theorem run_append_zeros {base : Nat} {t ti ty e : TypeId} {i : TypeInfo} {z : Value} {ik : IntKind} (ht : P.underlying t = some (.slice e)) (hti : P.underlying ti = some (.int ik)) (hi : P.info? e = some i) (hz : i.zero = some z) (hzs : z.cells.size = i.size) (hsz : 0 < i.size)
    (v : Value) (n : Nat) (xs : List Value) (hown : w.ownsRow base e i.size v n xs) (m : Nat) (hm0 : 0 < m) (h1 : ∀ u ∈ (Builtin.zeroCells z.cells m).toList, u.oneCell' = true)
    (h63 : n + m ≤ maxLen) (hbytes : (n + m) * i.bytes ≤ 140737488355328) (hbase : base ≤ w.heap.size) :
    ∃ v' w', (Builtin.append_ #[t, ti] ty #[v, .int .i64 m]).run P w = .ok v' w' ∧ w'.ownsRow base e i.size v' (n + m) (xs ++ (Builtin.zeroCells z.cells m).toList) ∧ w.grownBy w' v.ownBlock := by
  have hl : (Builtin.zeroCells z.cells m).toList.length = m * i.size := by rw [Array.length_toList, size_zeroCells, hzs]
  have hsmall : n + m ≤ 9223372036854775807 := by simp only [maxLen] at h63; omega
  have hlen : (xs ++ (Builtin.zeroCells z.cells m).toList).length = (n + m) * i.size := by rw [List.length_append, hown.1, hl, Nat.add_mul]
  have hwr : IntKind.i64.wrap (m : Int) = m := IntWalk.i64_in _ (by omega)
  have hmb : m * i.bytes ≤ 140737488355328 := Nat.le_trans (Nat.mul_le_mul_right _ (Nat.le_add_left m n)) hbytes
  have hmb2 : ¬ (281474976710656 : Int) < (m : Int) * (i.bytes : Int) := by
    have h := Int.ofNat_le.2 hmb
    rw [Int.natCast_mul] at h
    omega
  have hm1 : ¬ (m : Int) < 0 := by omega
  have hms : ¬ m * i.size = 0 := by
    intro e
    rcases Nat.mul_eq_zero.1 e with e | e <;> omega
  have hge : ∀ old, n + m ≤ grownCap w (n + m) old e := fun old => grownCap_ge w (n + m) old e
  have grown : ∀ (old : Nat) (row : Option Nat),
      (w.drew.alloc (.cells (xs.toArray ++ Builtin.zeroCells z.cells m ++ Builtin.zeroCells z.cells (grownCap w (n + m) old e - (n + m))) e)).ownsRow base e i.size
        (.slice (some ⟨w.heap.size, 0, none⟩) (n + m) (grownCap w (n + m) old e)) (n + m) (xs ++ (Builtin.zeroCells z.cells m).toList) ∧
      w.grownBy (w.drew.alloc (.cells (xs.toArray ++ Builtin.zeroCells z.cells m ++ Builtin.zeroCells z.cells (grownCap w (n + m) old e - (n + m))) e)) row := by
    intro old row
    have hcm : grownCap w (n + m) old e ≤ maxLen := grownCap_le_maxLen w (n + m) old e h63
    refine ⟨⟨hlen, .inr ⟨w.heap.size, _, _, rfl, hbase, heap_alloc_new w.drew _, hge old, hcm, ?_, ?_⟩⟩, ⟨rfl, rfl, rfl, by simp, fun k hk _ => by show (w.heap.push _)[k]? = w.heap[k]?; rw [Array.getElem?_push, if_neg (Nat.ne_of_lt hk)]⟩⟩
    · have := hge old
      simp only [Array.size_append, List.size_toArray, size_zeroCells, hzs, hown.1, ← Nat.add_mul]
      congr 1
      omega
    · simp only [Array.toList_append, List.append_assoc]
      rw [← List.append_assoc, ← hlen]
      exact List.take_left
  have h63a : ∀ k : Nat, k ≤ n + m → ¬ (9223372036854775807 : Int) < (k : Int) := fun k hk => by omega
  rcases hown.2 with ⟨rfl, rfl⟩ | ⟨g, cap, cur, rfl, hbg, hg, hnc, hcm, hcs, htake⟩
  · have hx : xs = [] := List.eq_nil_of_length_eq_zero (by simpa using hown.1)
    subst hx
    have hm : ¬ m = 0 := by omega
    have hsz0 : Builtin.nextslicecap m 0 = m := nextslicecap_zero hm0
    have h48 : ¬ 281474976710656 < Builtin.nextslicecap m 0 * i.bytes := by rw [hsz0]; omega
    have h63' : ¬ (9223372036854775807 : Int) < (m : Int) := h63a m (by omega)
    have hgr := grown 0 (Value.ownBlock (.slice none 0 0))
    simp only [Nat.zero_add, List.nil_append, Array.empty_append] at hgr ⊢
    refine ⟨_, _, ?_, hgr.1, hgr.2⟩
    simp [Builtin.append_, run_underlying ht, run_underlying hti, sizeOf, typeInfo, zeroValue, hi, hz, asInt, asIntOf, hwr, hm1, hmb2, hms, hm, h48, h63', Question.forced, run_firstCells_none, newRow, grownCap]
  · have h1' : ∀ u ∈ (Builtin.zeroCells z.cells m).toList, u.oneCell' = true := h1
    by_cases hroom : n + m ≤ cap
    · have hfit : n * i.size + (Builtin.zeroCells z.cells m).toList.length ≤ cur.size := by rw [hl, hcs, ← Nat.add_mul]; exact Nat.mul_le_mul_right _ hroom
      have hst := run_storeCells_at P g (n * i.size) e (Builtin.zeroCells z.cells m).toList 0 cur w hg (by simpa using hfit) h1'
      simp only [Nat.add_zero] at hst
      refine ⟨_, w.setRow g (cur.toList.take (n * i.size) ++ (Builtin.zeroCells z.cells m).toList ++ cur.toList.drop (n * i.size + (Builtin.zeroCells z.cells m).toList.length)).toArray, ?_, ⟨hlen, .inr ⟨g, cap, _, rfl, hbg, setRow_heap w g cur _ e _ hg, hroom, hcm, ?_, ?_⟩⟩, ⟨rfl, rfl, rfl, by simp, fun k _ hk => setRow_other w g k _ (fun e => hk (by simp [Value.ownBlock, e]))⟩⟩
      · simp [Builtin.append_, run_underlying ht, run_underlying hti, sizeOf, typeInfo, zeroValue, hi, hz, asInt, asIntOf, hwr, hm1, hmb2, hms, hroom, Addr.add_lit, hst]
      · simp only [List.size_toArray, List.length_append, List.length_take, List.length_drop, Array.length_toList] at hfit ⊢
        omega
      · rw [htake, ← hlen]
        exact List.take_left
    · have holds : ∀ j u, xs[j]? = some u → w.cell? ((⟨g, 0, none⟩ : Addr).add j) = some u := hown.cells (g := g) rfl
      have hfo := run_firstCells_some (P := P) w.drew i.size n ⟨g, 0, none⟩ n cap xs hown.1 (by simpa using holds)
      have h48 : ¬ 281474976710656 < Builtin.nextslicecap (n + m) cap * i.bytes := by
        have := growslice_fits (old := cap) (need := n + m) (by omega) hbytes
        omega
      have h63' : ¬ (9223372036854775807 : Int) < (n : Int) + (m : Int) := by omega
      have hgr := grown cap (Value.ownBlock (.slice (some ⟨g, 0, none⟩) n cap))
      refine ⟨_, _, ?_, hgr.1, hgr.2⟩
      simp [Builtin.append_, run_underlying ht, run_underlying hti, sizeOf, typeInfo, zeroValue, hi, hz, asInt, asIntOf, hwr, hm1, hmb2, hms, hroom, h48, h63', Question.forced, hfo, newRow, grownCap]
theorem zeroCells_zero (z : Array Value) : Builtin.zeroCells z 0 = #[] := by
  unfold Builtin.zeroCells
  simp
theorem zeroCells_rep (z : Array Value) (hz : 0 < z.size) : ∀ m, (Builtin.zeroCells z m).toList = (List.replicate m z.toList).flatten
  | 0 => by rw [zeroCells_zero]; rfl
  | m + 1 => by
    rw [List.replicate_succ', List.flatten_append, ← zeroCells_rep z hz m]
    refine List.ext_getElem ?_ (fun i h1 h2 => ?_)
    · simp only [Array.length_toList, size_zeroCells, List.length_append, List.flatten_cons, List.flatten_nil, List.append_nil]
      rw [Nat.succ_mul]
    · have hs : i < (m + 1) * z.size := by simpa [size_zeroCells] using h1
      have hsm : (Builtin.zeroCells z m).toList.length = m * z.size := by rw [Array.length_toList, size_zeroCells]
      by_cases hi : i < m * z.size
      · rw [List.getElem_append_left (by rw [hsm]; exact hi)]
        simp [Builtin.zeroCells]
      · rw [List.getElem_append_right (by rw [hsm]; omega)]
        have hlt : i - m * z.size < z.size := by rw [Nat.succ_mul] at hs; omega
        have hmod : i % z.size = i - m * z.size := by
          have : i = (i - m * z.size) + z.size * m := by rw [Nat.mul_comm z.size m]; omega
          rw [this, Nat.add_mul_mod_self_left, Nat.mod_eq_of_lt (by omega)]
          omega
        simp [Builtin.zeroCells, hmod, hlt]
/-- .. any number of them. -/
theorem run_append_zs {base : Nat} {t ti ty e : TypeId} {by_ : Nat} {ik : IntKind} (ht : P.underlying t = some (.slice e)) (hti : P.underlying ti = some (.int ik)) (zs : List Value) (hi : (P.info? e).map (fun i => (i.zero.map (·.cells), i.size, i.bytes)) = some (some zs.toArray, zs.length, by_)) (hsz : 0 < zs.length) (h1 : ∀ u ∈ zs, u.oneCell' = true)
    {v : Value} {n : Nat} {xs : List Value} (hown : w.ownsRow base e zs.length v n xs) (m : Nat) (h63 : n + m ≤ maxLen) (hbytes : (n + m) * by_ ≤ 140737488355328) (hbase : base ≤ w.heap.size) :
    ∃ v' w', (Builtin.append_ #[t, ti] ty #[v, .int .i64 m]).run P w = .ok v' w' ∧ w'.ownsRow base e zs.length v' (n + m) (xs ++ (List.replicate m zs).flatten) ∧ w.grownBy w' v.ownBlock := by
  cases hinf : P.info? e with
  | none => rw [hinf] at hi; cases hi
  | some i =>
    rw [hinf] at hi
    simp only [Option.map_some, Option.some.injEq, Prod.mk.injEq] at hi
    obtain ⟨hz0, hs, hb⟩ := hi
    cases hz : i.zero with
    | none => rw [hz] at hz0; cases hz0
    | some z =>
      rw [hz] at hz0
      have hzc : z.cells = zs.toArray := Option.some.inj hz0
      have hrep : ∀ m, (Builtin.zeroCells z.cells m).toList = (List.replicate m zs).flatten := fun m => by
        rw [zeroCells_rep _ (by rw [hzc]; simpa using hsz), hzc]
      by_cases hm : m = 0
      · subst hm
        refine ⟨v, w, ?_, by simpa using hown, ⟨rfl, rfl, rfl, Nat.le_refl _, fun _ _ _ => rfl⟩⟩
        have hst : ∀ ad : Addr, (storeCells ad []).run P w = .ok () w := fun ad => by simp [storeCells]
        have hwr : IntKind.i64.wrap (0 : Int) = 0 := IntWalk.i64_in _ (by omega)
        rcases hown.2 with ⟨rfl, _⟩ | ⟨g, cap, cur, rfl, _, _, hnc, _⟩
        · simp [Builtin.append_, run_underlying ht, run_underlying hti, sizeOf, typeInfo, zeroValue, hinf, hz, asInt, asIntOf, hwr]
        · simp [Builtin.append_, run_underlying ht, run_underlying hti, sizeOf, typeInfo, zeroValue, hinf, hz, asInt, asIntOf, hwr, hnc, hst]
      · subst hb
        have r := run_append_zeros (P := P) (w := w) (ty := ty) ht hti hinf hz (by rw [hzc, hs]; simp) (by rw [hs]; exact hsz) v n xs (by rw [hs]; exact hown) m (by omega) (fun u hu => by
          rw [hrep] at hu
          obtain ⟨l, hl, hu⟩ := List.mem_flatten.1 hu
          rw [List.eq_of_mem_replicate hl] at hu
          exact h1 u hu) h63 hbytes hbase
        rw [hrep, hs] at r
        exact r
theorem wp_appz {base : Nat} {t ti e : TypeId} {by_ : Nat} {ik : IntKind} {op : Oper} {a : Act} {K : Act → World → Prop} {Q : Exit → Act → World → Prop} (p q : Operand) (ho : op.op = .call { callee := .builtin .append, args := #[p, q], argTypes := #[t, ti] }) (ht : P.underlying t = some (.slice e)) (hti : P.underlying ti = some (.int ik)) (zs : List Value) (hi : (P.info? e).map (fun i => (i.zero.map (·.cells), i.size, i.bytes)) = some (some zs.toArray, zs.length, by_)) (hsz : 0 < zs.length) (h1 : ∀ u ∈ zs, u.oneCell' = true)
    {v : Value} {n : Nat} {xs : List Value} (hv : a.eval p = v) (hown : w.ownsRow base e zs.length v n xs) {m : Nat} (hq : a.eval q = .int .i64 m) (h63 : n + m ≤ maxLen) (hbytes : (n + m) * by_ ≤ 140737488355328) (hbase : base ≤ w.heap.size)
    (hK : ∀ v' w', w'.ownsRow base e zs.length v' (n + m) (xs ++ (List.replicate m zs).flatten) → w.grownBy w' v.ownBlock → K (a.put op.dst v') w') : op.wp P a w K Q := by
  obtain ⟨v', w', hr, h2, h3⟩ := run_append_zs (P := P) (ty := op.type) ht hti zs hi hsz h1 hown m h63 hbytes hbase
  unfold Oper.wp execOp
  simp only [ho, resolve, invoke, builtin, Sem.run_bind, Sem.run_pure, Result.andThen_ok, List.map_toArray, List.map_cons, List.map_nil, hv, hq, hr]
  exact hK v' w' h2 h3
theorem wl_appz {base : Nat} {t ti e : TypeId} {by_ : Nat} {ik : IntKind} {ops : Array Oper} {rest : List Oper} {op : Oper} {a : Act} {Q : Exit → Act → World → Prop} (p q : Operand) (hgd : op.guard = none) (ho : op.op = .call { callee := .builtin .append, args := #[p, q], argTypes := #[t, ti] }) (ht : P.underlying t = some (.slice e)) (hti : P.underlying ti = some (.int ik)) (zs : List Value) (hi : (P.info? e).map (fun i => (i.zero.map (·.cells), i.size, i.bytes)) = some (some zs.toArray, zs.length, by_)) (hsz : 0 < zs.length) (h1 : ∀ u ∈ zs, u.oneCell' = true)
    {v : Value} {n : Nat} {xs : List Value} (hv : a.eval p = v) (hown : w.ownsRow base e zs.length v n xs) {m : Nat} (hq : a.eval q = .int .i64 m) (h63 : n + m ≤ maxLen) (hbytes : (n + m) * by_ ≤ 140737488355328) (hbase : base ≤ w.heap.size)
    (hK : ∀ v' w', w'.ownsRow base e zs.length v' (n + m) (xs ++ (List.replicate m zs).flatten) → w.grownBy w' v.ownBlock → wpList P ops Q rest (a.put op.dst v') w') : wpList P ops Q (op :: rest) a w :=
  wpList_plain hgd fun _ hK' => wp_appz p q ho ht hti zs hi hsz h1 hv hown hq h63 hbytes hbase fun v' w' h2 h3 => hK' _ _ (hK v' w' h2 h3)
end
end Go.Proofs.Ytkdckcjnjljdmaa.Fm
namespace Go.Proofs.Ytkdckcjnjljdmaa.Fm
open Go Go.RowKit Go.Lib Kt

section
variable {P : Program} {w : World}
theorem run_append_zerosB {base : Nat} {t ti ty e : TypeId} {i : TypeInfo} {z : Value} {ik : IntKind} (ht : P.underlying t = some (.slice e)) (hti : P.underlying ti = some (.int ik)) (hi : P.info? e = some i) (hz : i.zero = some z) (hzs : z.cells.size = i.size) (hsz : 0 < i.size)
    (v : Value) (n : Nat) (xs : List Value) (hown : w.ownsRow base e i.size v n xs) (m : Nat) (hm0 : 0 < m) (h1 : ∀ u ∈ (Builtin.zeroCells z.cells m).toList, u.oneCell' = true)
    (h63 : n + m ≤ maxLen) (hbytes : (n + m) * i.bytes ≤ 140737488355328) (hbase : base ≤ w.heap.size) :
    ∃ v' w', (Builtin.append_ #[t, ti] ty #[v, .int .i64 m]).run P w = .ok v' w' ∧ w'.ownsRow base e i.size v' (n + m) (xs ++ (Builtin.zeroCells z.cells m).toList) ∧ w.grownBy w' v.ownBlock ∧ ((∃ s cap, v = .slice s n cap ∧ n + m ≤ cap) ∨ (v'.ownBlock = some w.heap.size ∧ Below w.heap.size w w')) := by
  have hl : (Builtin.zeroCells z.cells m).toList.length = m * i.size := by rw [Array.length_toList, size_zeroCells, hzs]
  have hsmall : n + m ≤ 9223372036854775807 := by simp only [maxLen] at h63; omega
  have hlen : (xs ++ (Builtin.zeroCells z.cells m).toList).length = (n + m) * i.size := by rw [List.length_append, hown.1, hl, Nat.add_mul]
  have hwr : IntKind.i64.wrap (m : Int) = m := IntWalk.i64_in _ (by omega)
  have hmb : m * i.bytes ≤ 140737488355328 := Nat.le_trans (Nat.mul_le_mul_right _ (Nat.le_add_left m n)) hbytes
  have hmb2 : ¬ (281474976710656 : Int) < (m : Int) * (i.bytes : Int) := by
    have h := Int.ofNat_le.2 hmb
    rw [Int.natCast_mul] at h
    omega
  have hm1 : ¬ (m : Int) < 0 := by omega
  have hms : ¬ m * i.size = 0 := by
    intro e
    rcases Nat.mul_eq_zero.1 e with e | e <;> omega
  have hge : ∀ old, n + m ≤ grownCap w (n + m) old e := fun old => grownCap_ge w (n + m) old e
  have grown : ∀ (old : Nat) (row : Option Nat),
      (w.drew.alloc (.cells (xs.toArray ++ Builtin.zeroCells z.cells m ++ Builtin.zeroCells z.cells (grownCap w (n + m) old e - (n + m))) e)).ownsRow base e i.size
        (.slice (some ⟨w.heap.size, 0, none⟩) (n + m) (grownCap w (n + m) old e)) (n + m) (xs ++ (Builtin.zeroCells z.cells m).toList) ∧
      w.grownBy (w.drew.alloc (.cells (xs.toArray ++ Builtin.zeroCells z.cells m ++ Builtin.zeroCells z.cells (grownCap w (n + m) old e - (n + m))) e)) row ∧ Below w.heap.size w (w.drew.alloc (.cells (xs.toArray ++ Builtin.zeroCells z.cells m ++ Builtin.zeroCells z.cells (grownCap w (n + m) old e - (n + m))) e)) := by
    intro old row
    have hcm : grownCap w (n + m) old e ≤ maxLen := grownCap_le_maxLen w (n + m) old e h63
    refine ⟨⟨hlen, .inr ⟨w.heap.size, _, _, rfl, hbase, heap_alloc_new w.drew _, hge old, hcm, ?_, ?_⟩⟩, ⟨rfl, rfl, rfl, by simp, fun k hk _ => by show (w.heap.push _)[k]? = w.heap[k]?; rw [Array.getElem?_push, if_neg (Nat.ne_of_lt hk)]⟩, (below_drew w).alloc (Nat.le_refl _) _⟩
    · have := hge old
      simp only [Array.size_append, List.size_toArray, size_zeroCells, hzs, hown.1, ← Nat.add_mul]
      congr 1
      omega
    · simp only [Array.toList_append, List.append_assoc]
      rw [← List.append_assoc, ← hlen]
      exact List.take_left
  have h63a : ∀ k : Nat, k ≤ n + m → ¬ (9223372036854775807 : Int) < (k : Int) := fun k hk => by omega
  rcases hown.2 with ⟨rfl, rfl⟩ | ⟨g, cap, cur, rfl, hbg, hg, hnc, hcm, hcs, htake⟩
  · have hx : xs = [] := List.eq_nil_of_length_eq_zero (by simpa using hown.1)
    subst hx
    have hm : ¬ m = 0 := by omega
    have hsz0 : Builtin.nextslicecap m 0 = m := nextslicecap_zero hm0
    have h48 : ¬ 281474976710656 < Builtin.nextslicecap m 0 * i.bytes := by rw [hsz0]; omega
    have h63' : ¬ (9223372036854775807 : Int) < (m : Int) := h63a m (by omega)
    have hgr := grown 0 (Value.ownBlock (.slice none 0 0))
    simp only [Nat.zero_add, List.nil_append, Array.empty_append] at hgr ⊢
    refine ⟨_, _, ?_, hgr.1, hgr.2.1, .inr ⟨rfl, hgr.2.2⟩⟩
    simp [Builtin.append_, run_underlying ht, run_underlying hti, sizeOf, typeInfo, zeroValue, hi, hz, asInt, asIntOf, hwr, hm1, hmb2, hms, hm, h48, h63', Question.forced, run_firstCells_none, newRow, grownCap]
  · have h1' : ∀ u ∈ (Builtin.zeroCells z.cells m).toList, u.oneCell' = true := h1
    by_cases hroom : n + m ≤ cap
    · have hfit : n * i.size + (Builtin.zeroCells z.cells m).toList.length ≤ cur.size := by rw [hl, hcs, ← Nat.add_mul]; exact Nat.mul_le_mul_right _ hroom
      have hst := run_storeCells_at P g (n * i.size) e (Builtin.zeroCells z.cells m).toList 0 cur w hg (by simpa using hfit) h1'
      simp only [Nat.add_zero] at hst
      refine ⟨_, w.setRow g (cur.toList.take (n * i.size) ++ (Builtin.zeroCells z.cells m).toList ++ cur.toList.drop (n * i.size + (Builtin.zeroCells z.cells m).toList.length)).toArray, ?_, ⟨hlen, .inr ⟨g, cap, _, rfl, hbg, setRow_heap w g cur _ e _ hg, hroom, hcm, ?_, ?_⟩⟩, ⟨rfl, rfl, rfl, by simp, fun k _ hk => setRow_other w g k _ (fun e => hk (by simp [Value.ownBlock, e]))⟩, .inl ⟨_, _, rfl, hroom⟩⟩
      · simp [Builtin.append_, run_underlying ht, run_underlying hti, sizeOf, typeInfo, zeroValue, hi, hz, asInt, asIntOf, hwr, hm1, hmb2, hms, hroom, Addr.add_lit, hst]
      · simp only [List.size_toArray, List.length_append, List.length_take, List.length_drop, Array.length_toList] at hfit ⊢
        omega
      · rw [htake, ← hlen]
        exact List.take_left
    · have holds : ∀ j u, xs[j]? = some u → w.cell? ((⟨g, 0, none⟩ : Addr).add j) = some u := hown.cells (g := g) rfl
      have hfo := run_firstCells_some (P := P) w.drew i.size n ⟨g, 0, none⟩ n cap xs hown.1 (by simpa using holds)
      have h48 : ¬ 281474976710656 < Builtin.nextslicecap (n + m) cap * i.bytes := by
        have := growslice_fits (old := cap) (need := n + m) (by omega) hbytes
        omega
      have h63' : ¬ (9223372036854775807 : Int) < (n : Int) + (m : Int) := by omega
      have hgr := grown cap (Value.ownBlock (.slice (some ⟨g, 0, none⟩) n cap))
      refine ⟨_, _, ?_, hgr.1, hgr.2.1, .inr ⟨rfl, hgr.2.2⟩⟩
      simp [Builtin.append_, run_underlying ht, run_underlying hti, sizeOf, typeInfo, zeroValue, hi, hz, asInt, asIntOf, hwr, hm1, hmb2, hms, hroom, h48, h63', Question.forced, hfo, newRow, grownCap]
end
end Go.Proofs.Ytkdckcjnjljdmaa.Fm
