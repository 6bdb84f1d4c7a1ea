/- An entry of a map that is changed in place; maps by numbers; a pool that is filled (gabellelaw38.filled). -/
import Derived.Test.YtkdckcjnjljdmaaCYg
import Derived.WideKeyEntry
namespace Go.Proofs.Ytkdckcjnjljdmaa.Kt
open Go Go.RowKit Go.MapKept Go.ChangeMaps
open Go.Maps (Keyed)

section
variable {α : Type} {ek : α → Value} {b : Nat} {L : List (α × Value)} {P : Program} {k t e : TypeId} {W : World}
/-- 'm[k] op= v' of a key that is there: the entry is looked up, then written. -/
theorem IsMap.entry [DecidableEq α] (E : KeyEnc P k ek) (ht : P.underlying t = some (.map k e)) (h : IsMap ek W b L) (a : α) {v0 : Value} (hv0 : valAt L a = some v0) :
    ∃ (st : Nat) (W1 : World), (Instr.mapEntry t (.map (some b)) (ek a)).run P W = .ok (.tuple #[v0, goInt st]) W1 ∧ W.grownBy W1 (some b) ∧ W1.heap.size = W.heap.size ∧ IsMap ek W1 b L ∧
      ∀ v, ∃ W', (Instr.entryStore t (.map (some b)) (goInt st) v).run P W1 = .ok () W' ∧ IsMap ek W' b (putAt L a v) ∧ W1.grownBy W' (some b) ∧ W'.heap.size = W1.heap.size := by
  obtain ⟨es, clock, h1, h2, h3⟩ := h.block
  obtain ⟨l, hl⟩ := E.lit a
  have hset : ∀ (W : World) (o : Obj), W.heap[b]? = some (.map es clock) → (setBlock W b o).heap[b]? = some o := fun W o hb => heap_setBlock_same hb o
  have hgr : ∀ (W : World) (o : Obj), W.heap[b]? = some (.map es clock) → W.grownBy (setBlock W b o) (some b) := fun W o hb => ⟨rfl, rfl, rfl, by simp [setBlock], fun i _ hi => heap_setBlock_other hb _ (fun e => hi (by rw [e]))⟩
  rcases h.find E a h1 with ⟨r, hv, hne⟩ | ⟨j, x, r, hj, hx, hv⟩
  · rw [hv] at hv0; cases hv0
  · have hja : es[j]? = some x := by simpa using hj
    have hjl : j < es.toList.length := (List.getElem?_eq_some_iff.1 hj).1
    have hst := (stamped_iff es clock).1 h2
    have hks := hst.2.2
    obtain ⟨q, hq, hfl⟩ := filter_eraseIdx hks hj
    have hsame : es.modify j (fun e => { e with key := ek a }) = es := by
      apply Array.ext'
      rw [Array.toList_modify, modify_eq_set _ _ _ _ hj]
      have : ({ x with key := ek a } : MapEntry) = x := by rw [← hx]
      rw [this]
      exact WideElems.set_self _ _ _ hj
    have hv1 : x.val = v0 := Option.some.inj (hv.symm.trans hv0)
    have hw1 := hset W (.map es clock) h1
    refine ⟨x.born, setBlock W b (.map es clock), ?_, hgr W _ h1, by simp [setBlock], ⟨h.nodup, es, clock, hw1, h2, h3⟩, fun v => ⟨setBlock (setBlock W b (.map es clock)) b (.map (es.modify j (fun e' => { e' with key := ek a, val := v })) clock), ?_, ⟨nodup_putAt h.nodup a v, _, _, hset _ _ hw1, stamped_modify h2 _ _ (fun _ _ => rfl) (fun e' _ he' => ?_), ?_⟩, hgr _ _ hw1, by simp [setBlock]⟩⟩
    · simp [Instr.mapEntry, run_underlying ht, MapKept.run_getObj_map h1, E.keyed.check W false hl, r, hja, hx, E.keyed.stays W hl, hsame, MapKept.run_setObj_map _ h1, Result.andThen, setBlock, hv1]
    · have hidx : es.findIdx? (fun e => ((e.born : Nat) : Int) == ((x.born : Nat) : Int)) = some j := by
        rw [WideElems.findIdx_arr]
        exact WideElems.findIdx_born hst.2.1 hj
      have hmod : es.modify j (fun e => { e with val := v }) = es.modify j (fun e' => { e' with key := ek a, val := v }) := by
        apply Array.ext'
        rw [Array.toList_modify, Array.toList_modify, modify_eq_set _ _ _ _ hj, modify_eq_set _ _ _ _ hj, ← hx]
      obtain ⟨W1, hW1⟩ : ∃ W1, W1 = setBlock W b (.map es clock) := ⟨_, rfl⟩
      rw [← hW1] at hw1 ⊢
      simp [Instr.entryStore, MapKept.run_getObj_map hw1, asInt, asIntOf, goInt, hidx, hmod, MapKept.run_setObj_map _ hw1, Result.andThen, setBlock]
    · rw [hja] at he'; cases he'; exact hx.symm
    · rw [Array.toList_modify, modify_eq_set _ _ _ _ hj]
      have p1 : (es.toList.set j { x with key := ek a, val := v }).Perm ({ x with key := ek a, val := v } :: es.toList.eraseIdx j) := set_perm _ _ hjl _
      refine (p1.map _).trans ?_
      rw [hfl]
      simp only [List.map_cons, putAt]
      exact (perm_filter_key h3 E.inj a q (fun y hy => by rw [hq y hy, hx])).cons _
end
section
variable {α : Type} {ek : α → Value} {b : Nat} {L : List (α × Value)} {P : Program} {k t e : TypeId} {w : World} {o : Oper} {a : Act} {K : Act → World → Prop} {Q : Exit → Act → World → Prop}
theorem wp_store [DecidableEq α] (E : KeyEnc P k ek) (ht : P.underlying t = some (.map k e)) (h : IsMap ek w b L) (x : α) (m kx vx : Operand) (hop : o.op = Op.mapUpdate t m kx vx)
    (hm : a.eval m = .map (some b)) (hk : a.eval kx = ek x) (v : Value) (hv : a.eval vx = v)
    (hK : ∀ w', IsMap ek w' b (putAt L x v) → w.grownBy w' (some b) → w'.heap.size = w.heap.size → K (a.put o.dst undef) w') : o.wp P a w K Q := by
  obtain ⟨w', hrun, r1, r2, r3⟩ := h.store E ht x v
  unfold Oper.wp
  simp [execOp, hop, hm, hk, hv, hrun, Result.andThen]
  exact hK w' r1 r2 r3
/-- .. the two operations of 'm[k]++'. -/
theorem wp_entry [DecidableEq α] (E : KeyEnc P k ek) (ht : P.underlying t = some (.map k e)) (h : IsMap ek w b L) (x : α) {v0 : Value} (hv0 : valAt L x = some v0) (m kx : Operand) (hop : o.op = Op.mapEntry t m kx)
    (hm : a.eval m = .map (some b)) (hk : a.eval kx = ek x)
    (hK : ∀ (st : Nat) (w1 : World), w.grownBy w1 (some b) → IsMap ek w1 b L → (∀ v, ∃ w', (Instr.entryStore t (.map (some b)) (goInt st) v).run P w1 = .ok () w' ∧ IsMap ek w' b (putAt L x v) ∧ w1.grownBy w' (some b)) → K (a.put o.dst (.tuple #[v0, goInt st])) w1) : o.wp P a w K Q := by
  obtain ⟨st, w1, hrun, r1, _, r3, r4⟩ := h.entry E ht x hv0
  unfold Oper.wp
  simp [execOp, hop, hm, hk, hrun, Result.andThen]
  exact hK st w1 r1 r3 (fun v => by obtain ⟨w', q1, q2, q3, _⟩ := r4 v; exact ⟨w', q1, q2, q3⟩)
theorem wp_entryStore (m s x : Operand) (hop : o.op = Op.entryStore t m s x) (v : Value) {st : Value} (hm : a.eval m = .map (some b)) (hs : a.eval s = st) (hx : a.eval x = v) {w' : World} (hrun : (Instr.entryStore t (.map (some b)) st v).run P w = .ok () w') (hK : K (a.put o.dst undef) w') : o.wp P a w K Q := by
  unfold Oper.wp
  simp [execOp, hop, hm, hs, hx, hrun, Result.andThen]
  exact hK
/-- A look-up, as an operation that only reads. -/
theorem exec_look [DecidableEq α] {act : Act} {op : Oper} (E : KeyEnc P k ek) (ht : P.underlying t = some (.map k e)) (h : IsMap ek w b L) (c : Bool) {z : Value} (hz : (zeroValue e).run P w = .ok z w) (x : α) (m kx : Operand) (ho : op.op = .lookup t m kx c) (hm : act.eval m = .map (some b)) (hk : act.eval kx = ek x) : (execOp act.eval op).run P w = .ok (.value (lookVal c z (valAt L x))) w := by
  have hrun := h.look E ht c hz x
  simp [execOp, ho, hm, hk, hrun, Result.andThen]
theorem exec_look_nil {act : Act} {op : Oper} (E : KeyEnc P k ek) (ht : P.underlying t = some (.map k e)) (c : Bool) {z : Value} (hz : (zeroValue e).run P w = .ok z w) (x : α) (m kx : Operand) (ho : op.op = .lookup t m kx c) (hm : act.eval m = .map none) (hk : act.eval kx = ek x) : (execOp act.eval op).run P w = .ok (.value (lookVal c z none)) w := by
  have hrun := look_nil (W := w) E ht c hz x
  simp [execOp, ho, hm, hk, hrun, Result.andThen]
end
end Go.Proofs.Ytkdckcjnjljdmaa.Kt
namespace Go.Proofs.Ytkdckcjnjljdmaa.Po
open Go Go.RowKit Go.Lib Kt Fm Ad Kv

/-- Numbers of 64 bits as keys. -/
def N64 : Type := { n : Nat // n < 18446744073709551616 }
instance : DecidableEq N64 := fun a b => if h : a.1 = b.1 then .isTrue (Subtype.ext h) else .isFalse (fun e => h (by rw [e]))
def uk (n : N64) : Value := .int .u64 n.1
theorem encU : KeyEnc Try.prog 29 uk := ⟨Maps.int_keyed Try.underlying29, fun a => by
  have h : (Lit.int .u64 (a.1 : Int)).wf = true := WalkArith.wf_u64 (by have := a.2; omega)
  exact ⟨.int .u64 a.1, by simp [keyOf, mapKey, Try.underlying29, uk, h]⟩, fun {a b} h => by
  simp only [uk, Value.int.injEq, Int.natCast_inj, true_and] at h
  exact Subtype.ext h⟩
/-- What a look-up tells, as an operation. -/
theorem exec_run {act : Act} {op : Oper} {w : World} {t : TypeId} {m k v : Value} {c : Bool} {mo ko : Operand} (hrun : (Instr.lookup t m k c).run Try.prog w = .ok v w) (ho : op.op = .lookup t mo ko c) (hm : act.eval mo = m) (hk : act.eval ko = k) : (execOp act.eval op).run Try.prog w = .ok (.value v) w := by
  simp [execOp, ho, hm, hk, hrun, Result.andThen]
theorem zMap (w : World) : (zeroValue 46).run Try.prog w = .ok (.map none) w := by kernel_rfl
/-- The map of those that were told: maps by numbers, of nothing. -/
structure Told (base : Nat) (w : World) (bN bT : Nat) (TL : List (A8 × Value)) : Prop where
  map : IsMap A8.v w bT TL
  val : ∀ a v, valAt TL a = some v → ∃ (bi : Nat) (L : List (N64 × Value)), v = .map (some bi) ∧ IsMap uk w bi L ∧ (∀ n x, valAt L n = some x → x = .agg #[]) ∧ bi ≠ bT ∧ bi ≠ bN ∧ base ≤ bi
theorem Told.later {base : Nat} {w w' : World} {bN bT : Nat} {TL : List (A8 × Value)} (h : Told base w bN bT TL) (hb : Below w.heap.size w w') : Told base w' bN bT TL := ⟨map_later h.map hb, fun a v hv => by
  obtain ⟨bi, L, e, hm, hx, h1, h2, h3⟩ := h.val a v hv
  exact ⟨bi, L, e, hm.of_block (hb.block bi hm.lt), hx, h1, h2, h3⟩⟩
theorem Told.next {base : Nat} {w w' : World} {bN bT : Nat} {TL : List (A8 × Value)} (h : Told base w bN bT TL) (hg : w.grownBy w' (some bN)) (hne : bT ≠ bN) : Told base w' bN bT TL := ⟨h.map.kept hg (fun e => hne (Option.some.inj e)), fun a v hv => by
  obtain ⟨bi, L, e, hm, hx, h1, h2, h3⟩ := h.val a v hv
  exact ⟨bi, L, e, hm.kept hg (fun e => h2 (Option.some.inj e)), hx, h1, h2, h3⟩⟩
theorem Told.two {base : Nat} {w : World} {bN bT : Nat} {TL : List (A8 × Value)} (h : Told base w bN bT TL) (a : A8) (n : N64) : ∃ (mv : Value) (is : Bool), ∀ w', Below w.heap.size w w' → (Instr.lookup 43 (.map (some bT)) a.v false).run Try.prog w' = .ok mv w' ∧ (Instr.lookup 46 mv (uk n) true).run Try.prog w' = .ok (.tuple #[.agg #[], .bool is]) w' := by
  cases hv : valAt TL a with
  | none =>
    refine ⟨.map none, false, fun w' hb => ⟨?_, ?_⟩⟩
    · have := (h.later hb).map.look encAddr Try.underlying43 false (zMap w') a
      rw [hv] at this
      exact this
    · exact look_nil encU Try.underlying46 true (zU0 w') n
  | some v =>
    obtain ⟨bi, L, rfl, hm, hx, _⟩ := h.val a v hv
    cases hn : valAt L n with
    | none =>
      refine ⟨.map (some bi), false, fun w' hb => ⟨?_, ?_⟩⟩
      · have := (h.later hb).map.look encAddr Try.underlying43 false (zMap w') a
        rw [hv] at this
        exact this
      · have := (hm.of_block (hb.block bi hm.lt)).look encU Try.underlying46 true (zU0 w') n
        rw [hn] at this
        exact this
    | some x =>
      obtain rfl := hx n x hn
      refine ⟨.map (some bi), true, fun w' hb => ⟨?_, ?_⟩⟩
      · have := (h.later hb).map.look encAddr Try.underlying43 false (zMap w') a
        rw [hv] at this
        exact this
      · have := (hm.of_block (hb.block bi hm.lt)).look encU Try.underlying46 true (zU0 w') n
        rw [hn] at this
        exact this
/-- A sender has a map. -/
theorem Told.new {base : Nat} {w w' : World} {bN bT bi : Nat} {TL : List (A8 × Value)} (h : Told base w bN bT TL) {a : A8} (hi : IsMap uk w bi []) (h1 : bi ≠ bT) (h2 : bi ≠ bN) (h3 : base ≤ bi) (hm : IsMap A8.v w' bT (putAt TL a (.map (some bi)))) (hg : w.grownBy w' (some bT)) : Told base w' bN bT (putAt TL a (.map (some bi))) := ⟨hm, fun b v hv => by
  rw [valAt_putAt] at hv
  by_cases e : b = a
  · rw [if_pos e] at hv
    exact ⟨bi, [], (Option.some.inj hv).symm, hi.kept hg (fun e => h1 (Option.some.inj e)), fun n x hx => (by cases hx), h1, h2, h3⟩
  · rw [if_neg e] at hv
    obtain ⟨bj, L, e1, hm1, hx, q1, q2, q3⟩ := h.val b v hv
    exact ⟨bj, L, e1, hm1.kept hg (fun e => q1 (Option.some.inj e)), hx, q1, q2, q3⟩⟩
theorem find_strikeN (a b : N64) (h : ¬ b = a) : ∀ L : List (N64 × Value), (strike L a).find? (fun p => decide (p.1 = b)) = L.find? (fun p => decide (p.1 = b))
  | [] => rfl
  | y :: r => by
    have ih := find_strikeN a b h r
    unfold strike at ih ⊢
    rw [List.filter_cons]
    by_cases hy : y.1 = a
    · have e1 : ¬ y.1 = b := fun e => h (e.symm.trans hy)
      rw [if_neg (by simp [hy]), ih, List.find?_cons_of_neg (by simp [e1])]
    · rw [if_pos (by simp [hy])]
      by_cases e1 : y.1 = b
      · rw [List.find?_cons_of_pos (by simp [e1]), List.find?_cons_of_pos (by simp [e1])]
      · rw [List.find?_cons_of_neg (by simp [e1]), List.find?_cons_of_neg (by simp [e1]), ih]
theorem valAt_putAtN (L : List (N64 × Value)) (a b : N64) (v x : Value) (h : valAt (putAt L a v) b = some x) : x = v ∨ valAt L b = some x := by
  have h1 := valAt_mem h
  rcases List.mem_cons.1 h1 with e | h1
  · exact .inl (Prod.mk.inj e).2
  · by_cases hb : b = a
    · exact absurd (List.mem_map.2 ⟨(b, x), h1, hb⟩) (not_mem_strike L a)
    · right
      unfold putAt at h
      unfold valAt at h ⊢
      rw [List.find?_cons_of_neg (by simp; exact fun e => hb e.symm)] at h
      rw [find_strikeN a b hb] at h
      exact h
/-- A sender's map has one more. -/
theorem Told.more {base : Nat} {w w' : World} {bN bT bi : Nat} {TL : List (A8 × Value)} {L : List (N64 × Value)} {n : N64} (h : Told base w bN bT TL) (hx : ∀ n x, valAt L n = some x → x = .agg #[]) (h1 : bi ≠ bT) (h2 : bi ≠ bN) (hm : IsMap uk w' bi (putAt L n (.agg #[]))) (hg : w.grownBy w' (some bi)) (hb : base ≤ bi) : Told base w' bN bT TL := ⟨h.map.kept hg (fun e => h1 (Option.some.inj e).symm), fun b v hv => by
  obtain ⟨bj, M, e1, hm1, hx1, q1, q2, q3⟩ := h.val b v hv
  by_cases e : bj = bi
  · subst e
    exact ⟨bj, _, e1, hm, fun k x hk => (valAt_putAtN _ _ _ _ _ hk).elim id (hx k x), h1, h2, hb⟩
  · exact ⟨bj, M, e1, hm1.kept hg (fun e' => e (Option.some.inj e')), hx1, q1, q2, q3⟩⟩
/-! ### a pool that is filled -/
theorem addP_len {most : Nat} {l : List Tx} {t : Tx} : (addP most l t).1.length ≤ l.length + 1 := by
  have h1 : (withT l t).1.length ≤ l.length + 1 := by rw [withT_len]; split <;> omega
  unfold addP
  by_cases hle : (withT l t).1.length ≤ most
  · rw [if_pos hle]; exact h1
  · rw [if_neg hle]
    cases worst (withT l t).1 with
    | none => exact Nat.le_succ _
    | some z =>
      simp only
      by_cases hz : place z t = 0
      · rw [if_pos hz]; exact Nat.le_succ _
      · rw [if_neg hz]; exact Nat.le_trans (List.length_filter_le _ _) h1
theorem addF_len {f : Nx} {most : Nat} {l : List Tx} {t : Tx} : (addF f most l t).1.length ≤ l.length + 1 := by
  unfold addF
  by_cases h : mayP f l t = 0
  · rw [if_pos h]; exact addP_len
  · rw [if_neg h]; exact Nat.le_succ _
def FillSays (w : World) (m : Int) (n : Nat) (e : Ending) (w' : World) : Prop := ∃ bp v l, e = .returned (.pointer (some ⟨bp, 0, none⟩)) ∧ PS w bp (max m 0).toNat w' v l ∧ l.length ≤ n
set_option maxRecDepth 100000 in
set_option maxHeartbeats 16000000 in
theorem filled_any {W : World} {f : Nx} {wv v : Value} {m : Int} {L : List Tx} (hf : Nonces W wv f) (hv : Sl W 22 Tx.cs v L) (hok : ∀ t ∈ L, TxOk W t) (hl : L.length ≤ 60) : Calls Try.prog 7 #[wv, .int .i64 m, v] W fun e w' => FillSays W m L.length e w' := by
  obtain ⟨sp, cp, rfl, hfp⟩ := hv.form
  have HF := Lib.hid hf
  have HV := Lib.hid hv
  have HFP := Lib.hid hfp
  have HO := Lib.hid hok
  clear hf hv hfp hok
  go_enter Try.func7, Try.ntmps7
  go_wp2_with fail
  refine (new_any m W).mono ?_
  rintro en w2 ⟨bp, rfl, hp, hbp, hb2⟩
  have HP2 := Lib.hid (show PS W bp (max m 0).toNat w2 (.slice none 0 0) [] from ⟨hb2, hp, hbp⟩)
  clear hp hbp hb2
  go_wp2_with fail
  go_loopw [14] (fun iv wr => ∃ (k : Nat) (v : Value) (l : List Tx), k ≤ L.length ∧ iv = .int .i64 k ∧ PS W bp (max m 0).toNat wr v l ∧ l.length ≤ k) (fun iv _ => L.length - (RowKit.intOf iv).toNat)
  case atStart => exact ⟨0, _, [], Nat.zero_le _, rfl, HP2.out, Nat.le_refl _⟩
  case round =>
    clear HP2
    obtain ⟨k, v, l, hk, rfl, hps, hll⟩ := hrel
    have HPS := Lib.hid hps
    clear hps
    obtain ⟨wa, hwa⟩ : ∃ wa, wa = wr := ⟨_, rfl⟩
    rw [← hwa] at HPS ⊢
    clear hwa
    by_cases hlt : k < L.length
    · have hlt2 : (k : Int) < (L.length : Int) := by omega
      obtain ⟨x, hx⟩ : ∃ x, L[k]? = some x := ⟨_, List.getElem?_eq_getElem hlt⟩
      obtain ⟨g, off, rfl, _⟩ := HFP.out (by intro e; rw [e] at hlt; simp at hlt)
      have HX := Lib.hid hx
      have HXO := Lib.hid (HO.out x (List.mem_of_getElem? hx))
      have OB := Lib.hid (show (x.cs.toArray.all (·.oneCell')) = true from HXO.out.oneB)
      clear hx
      go_upto_region 5 with (first | (refine wpList_load_mid rfl 32 _ rfl g (off + k * 22) rfl x.cs _ (sl_range (HV.out.later HPS.out.below) HX.out) Try.underlying32 rfl sizeTx ?_; (try simp only [Act.put, List.setIfInBounds_toArray, List.set_cons_zero, List.set_cons_succ])) | (refine wl_put (Lies.new _ _ _) x.cs _ _ rfl rfl rfl rfl rfl sizeTx OB.out (fun wb hlb hfb => ?_); have hbb : Below wa.heap.size wa wb := below_put ((Below.refl wa.heap.size wa).alloc (Nat.le_refl _) _) hfb (Nat.le_refl _); have HPB := Lib.hid (HPS.out.later hbb); obtain ⟨Bx, hBx⟩ : ∃ Bx, Bx = wa.heap.size := ⟨_, rfl⟩; rw [← hBx] at hlb ⊢; have HXB := Lib.hid hlb; clear hlb hfb hbb hBx; (try simp only [Act.put])))
      go_wp2_with (refine wpList_load_mid rfl 32 _ rfl Bx 0 rfl x.cs _ (lies_range HXB.out) Try.underlying32 rfl sizeTx ?_; (try simp only [Act.put, List.setIfInBounds_toArray, List.set_cons_zero, List.set_cons_succ]))
      refine (add_ps (t := x) HPB.out HF.out (HXO.out.later HPB.out.below) (by omega)).mono ?_
      rintro en wc ⟨dv, vo, v', O, rfl, hps, _, _, _, _⟩
      have HPC := Lib.hid hps
      have HLC := Lib.hid (addF_len (f := f) (most := (max m 0).toNat) (l := l) (t := { x with dv := dv }))
      clear hps
      generalize (addF f (max m 0).toNat l { x with dv := dv }).2.2 = er
      generalize (addF f (max m 0).toNat l { x with dv := dv }).1 = l2 at HPC HLC
      go_wp2_with fail
      go_roundw
      case rel => exact ⟨k + 1, v', l2, hlt, by go_num, HPC.out, Nat.le_trans HLC.out (by omega)⟩
      case measure => simp [RowKit.intOf]; omega
    · have hlt2 : ¬ (k : Int) < (L.length : Int) := by omega
      go_wp2_with fail
      go_ret
      exact ⟨bp, v, l, rfl, HPS.out, by omega⟩
end Go.Proofs.Ytkdckcjnjljdmaa.Po
