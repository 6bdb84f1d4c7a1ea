/- An expression's bytes (instr.AppendExpr): whether there are some. -/
import Derived.Test.YtmgjcaikldeioaaGreatXUd
namespace Go.Proofs.YtmgjcaikldeioaaGreat.Ty
open Go Go.RowKit Go.Lib Kt Fm Gr

theorem sizeIns : (Tryz.prog.info? 57).map (·.size) = some 5 := by kernel_rfl
theorem oneIns {w : World} {x : Ins} (h : InsOk w x) : (x.cs.toArray.all (·.oneCell')) = true := by
 obtain ⟨s, c, e, _⟩ := h.2.2.2.1.form
 simp [Ins.cs, e, Value.oneCell']
theorem sl_range {α : Type} {W : World} {sz : Nat} {en : α → List Value} {L : List α} {g off n c : Nat} (h : Sl W sz en (.slice (some ⟨g, off, none⟩) n c) L) {i : Nat} {x : α} (hi : L[i]? = some x) : W.rangeAt g (off + i * sz) (en x) := fun _ _ hj => h.cell hi hj
theorem wl_loadw {P : Program} {ops : Array Oper} {rest : List Oper} {op : Oper} {a : Act} {w : World} {Q : Exit → Act → World → Prop} {cs : List Value} {b o : Nat} {ty : TypeId} {d : TypeDesc} (h : w.rangeAt b o cs) (p : Operand) (hgd : Region.wanted op (yielded ops a.tmps) = true) (ho : op.op = .load ty p)
  (hx : a.eval p = .pointer (some ⟨b, o, none⟩)) (hu : P.underlying ty = some d) (hd : d.isRow = true) (hi : (P.info? ty).map (·.size) = some cs.length) (hk : wpList P ops Q rest (a.put op.dst (.agg cs.toArray)) w) : wpList P ops Q (op :: rest) a w := by
 refine BigFrame.wpList_want hgd fun _ hK => ?_
 have hl := run_loadAt_mid (P := P) w b o ty cs _ h hu hd hi
 unfold Oper.wp execOp
 simp only [ho, hx, hl, Sem.run_bind, Sem.run_pure, Result.andThen_ok]
 exact hK _ _ hk
theorem mark_len {o o' : Bts} {op : UInt8} (h : mark o op = some o') : o'.length ≤ o.length + 1 := by
 unfold mark at h
 split at h
 ·obtain rfl := Option.some.inj h; simp
 ·split at h
  ·split at h
   ·obtain rfl := Option.some.inj h; simp
   ·cases h
  ·split at h
   ·split at h
    ·cases h
    ·obtain rfl := Option.some.inj h; simp; omega
   ·obtain rfl := Option.some.inj h; omega
theorem marks_step {L : List Ins} {j : Nat} {x : Ins} {o : Bts} (hx : L[j]? = some x) (h : marks [] (L.take j) = some o) : marks [] (L.take (j + 1)) = if mayB x then mark o x.op else none := by
 have e : L.take (j + 1) = L.take j ++ [x] := by rw [List.take_add_one, hx]; rfl
 rw [e, marks_append, h]
 show marks o [x] = _
 rw [marks]
 split
 ·cases mark o x.op <;> rfl
 ·rfl
theorem marks_stop {L : List Ins} {j : Nat} (h : marks [] (L.take j) = none) : exprOk L = false := by
 have e : marks [] L = none := by
  conv => lhs; rw [← List.take_append_drop j L]
  rw [marks_append, h]
  rfl
 unfold exprOk
 rw [e]
 rfl
/-- What AppendExpr has built. -/
structure Ae (W w : World) (mb : Nat) (L : List Ins) (j : Nat) (v vo : Value) (o : Bts) (n : Nat) : Prop where
 bel : Below W.heap.size W w
 mks : marks [] (L.take j) = some o
 len : o.length ≤ j
 lies : Lies w mb 164 #[v]
 row : w.ownsRow W.heap.size 5 1 v o.length (o.flatMap u8c)
 out : Own w W.heap.size vo n
 bd : n ≤ j * 11000000
 ne : ∀ k, v.ownBlock = some k → vo.ownBlock ≠ some k
theorem Ae.later {W w w' : World} {mb : Nat} {L : List Ins} {j : Nat} {v vo : Value} {o : Bts} {n : Nat} (h : Ae W w mb L j v vo o n) (hb : Below w.heap.size w w') : Ae W w' mb L j v vo o n :=
 ⟨bt h.bel hb, h.mks, h.len, h.lies.below hb h.lies.lt, ownsRow_keep h.row hb, h.out.later hb, h.bd, h.ne⟩
theorem Ae.mid {W w w1 : World} {mb : Nat} {L : List Ins} {j : Nat} {v vo : Value} {o : Bts} {n : Nat} (h : Ae W w mb L j v vo o n) (hmb : W.heap.size ≤ mb) (hf : Fr w w1 (fun k => k = mb ∨ some k = v.ownBlock)) : Below W.heap.size W w1 ∧ Own w1 W.heap.size vo n :=
 ⟨h.bel.trans (hf.below h.bel.size fun k hk => by
  rcases hk with rfl | hk
  ·exact hmb
  ·exact (row_block h.row hk.symm).1), h.out.fr hf fun k hk e => by
  rcases e with e | e
  ·exact lies_ne_block h.lies h.out (by decide) k hk e
  ·exact h.ne k e.symm hk⟩
/-- Behind an instruction that may be there. -/
theorem Ae.step {W w w1 w2 : World} {mb : Nat} {L : List Ins} {j : Nat} {v v' vo vo' : Value} {o o' : Bts} {n n' : Nat} {x : Ins} (h : Ae W w mb L j v vo o n) (hmb : W.heap.size ≤ mb) (hx : L[j]? = some x) (hm : mayB x = true) (ho : mark o x.op = some o')
  (hl : Lies w1 mb 164 #[v']) (hr : w1.ownsRow W.heap.size 5 1 v' o'.length (o'.flatMap u8c)) (hf : Fr w w1 (fun k => k = mb ∨ some k = v.ownBlock)) (hv : v'.ownBlock = v.ownBlock ∨ ∀ k, v'.ownBlock = some k → w.heap.size ≤ k)
  (hp : Own w2 W.heap.size vo' n') (hn : n' ≤ n + 11000000) (hf2 : Fr w1 w2 (fun k => some k = vo.ownBlock)) (hv2 : vo'.ownBlock = vo.ownBlock ∨ ∀ k, vo'.ownBlock = some k → w1.heap.size ≤ k) : Own w1 W.heap.size vo n ∧ Ae W w2 mb L (j + 1) v' vo' o' n' := by
 have hne1 : ∀ k, v'.ownBlock = some k → vo.ownBlock ≠ some k := fun k hk e => by
  rcases hv with hv | hv
  ·exact h.ne k (by rw [← hv]; exact hk) e
  ·have h1 := hv k hk
   have := (h.out.block e).2.1
   omega
 have ho1 : Own w1 W.heap.size vo n := h.out.fr hf fun k hk e => by
  rcases e with e | e
  ·exact lies_ne_block h.lies h.out (by decide) k hk e
  ·exact h.ne k e.symm hk
 refine ⟨ho1, ?_, ?_, ?_, ?_, ?_, hp, ?_, ?_⟩
 ·refine (h.bel.trans (hf.below h.bel.size fun k hk => ?_)).trans (hf2.below (Nat.le_trans h.bel.size hf.size) fun k hk => (ho1.block hk.symm).1)
  rcases hk with rfl | hk
  ·exact hmb
  ·exact (row_block h.row hk.symm).1
 ·rw [marks_step hx h.mks, if_pos hm, ho]
 ·have := mark_len ho; have := h.len; omega
 ·exact lies_fr hl hf2 fun e => lies_ne_block hl ho1 (by decide) mb e.symm rfl
 ·exact row_fr hr hf2 fun k hk e => hne1 k hk e.symm
 ·have := h.bd; omega
 ·intro k hk e
  rcases hv2 with hv2 | hv2
  ·exact hne1 k hk (by rw [← hv2]; exact e)
  ·have h1 := hv2 k e
   have := (row_block hr hk).2.1
   omega
def exprV (L : List Ins) : Int := if exprOk L then 0 else 2
set_option maxRecDepth 100000 in
set_option maxHeartbeats 16000000 in
theorem appe_any {W : World} {v : Value} {L : List Ins} (hs : Sl W 5 Ins.cs v L) (hx : ∀ y ∈ L, InsOk W y) (hl : L.length ≤ 1048576) :
  Calls Tryz.prog 64 #[.slice none 0 0, v] W fun e w' => (∃ u, e = .returned (.tuple #[u, .int .i64 (exprV L)])) ∧ Below W.heap.size W w' := by
 obtain ⟨s, c, rfl, hss⟩ := hs.form
 have HS := zh hs
 have HSS := zh hss
 have HX := zh hx
 clear hs hss hx
 go_enter Tryz.func64, Tryz.ntmps64
 go_wp2_with fail
 have h0 : Ae W (W.alloc (.cells #[.slice none 0 0] 164)) W.heap.size L 0 (.slice none 0 0) (.slice none 0 0) [] 0 :=
  ⟨(Below.refl _ _).alloc (Nat.le_refl _) _, by rw [List.take_zero]; rfl, Nat.le_refl _, Lies.new _ _ _, World.ownsRow_nil _ _ _ _, Own.nil _ _, Nat.zero_le _, fun _ e => by cases e⟩
 have H0 := zh h0
 clear h0
 go_loopw [6, 16] (fun out i wr => ∃ (j : Nat) (v : Value) (o : Bts) (n : Nat), j ≤ L.length ∧ i = .int .i64 j ∧ Ae W wr W.heap.size L j v out o n)
  (fun _ i _ => L.length - (Lib.intOf i).toNat)
 case atStart => exact ⟨0, _, _, _, by omega, rfl, H0.out⟩
 case round =>
  obtain ⟨j, v, o, n, hj, rfl, hA⟩ := hrel
  have HA := zh hA
  obtain ⟨sv, cv, rfl, _, _⟩ := row_form hA.row
  obtain ⟨so, co, rfl, _⟩ := hA.out.form
  have hol := hA.len
  clear hA
  by_cases hlt : j < L.length
  ·obtain ⟨x, hx⟩ : ∃ x, L[j]? = some x := ⟨_, List.getElem?_eq_getElem hlt⟩
   have HOK := zh (HX.out x (List.mem_of_getElem? hx))
   obtain ⟨g, off, rfl, _⟩ := HSS.out (by intro e; simp [e] at hlt)
   have HR := zh (sl_range (HS.out.later HA.out.bel) hx)
   have HXX := zh hx
   have HON := zh (oneIns HOK.out)
   have hlt2 : (j : Int) < (L.length : Int) := by omega
   obtain ⟨lsl, lcl, hlv, _⟩ := HOK.out.2.2.2.1.form
   have HLV := zh hlv
   clear hx hlv
   go_wp2_with (first | (refine wpList_load_mid rfl 57 _ rfl g (off + j * 5) rfl x.cs _ HR.out Tryz.underlying57 rfl sizeIns ?_; simp only [Act.put, sA, sB, sC]) | (refine wl_put (Lies.new _ _ _) x.cs _ _ rfl rfl rfl rfl rfl sizeIns HON.out (fun w5 hL5 hF5 => ?_); have HB5 := zh (below_put ((Below.refl wr.heap.size wr).alloc (Nat.le_refl _) _) hF5 (Nat.le_refl _)); have HL5 := zh hL5; have y0 : w5.cell? ⟨wr.heap.size, 0, none⟩ = some (.int .u8 x.op.toNat) := hL5.cell 0; have HA5 := zh (HA.out.later HB5.out); clear hL5 hF5; try simp only [Act.put]))
   refine (next_any HA5.out.lies HA5.out.row HA5.out.bel.size (by omega)).mono ?_
   intro en w6 hn6
   cases hmk : mark o x.op with
   | none =>
    rw [hmk] at hn6
    obtain ⟨a, b, rfl, hab, rfl⟩ := hn6
    have HE := zh (show exprV L = 2 from by
     unfold exprV
     rw [marks_stop (j := j + 1) (by rw [marks_step HXX.out HA.out.mks, hmk]; split <;> rfl)]
     rfl)
    clear y0
    cases a <;> cases b
    ·cases hab
    all_goals
     go_wp2_with fail
     go_ret2
     exact ⟨⟨_, by rw [HE.out]; rfl⟩, HA5.out.bel⟩
   | some o' =>
    rw [hmk] at hn6
    obtain ⟨rfl, v', hl6, hr6, hf6, hv6⟩ := hn6
    have HL6 := zh hl6
    have HR6 := zh hr6
    have HF6 := zh hf6
    have HV6 := zh hv6
    have HI6 := zh (lies_fr HL5.out hf6 fun e => by
     rcases e with e | e
     ·have := HA.out.lies.lt; omega
     ·exact lies_ne_row HL5.out HA5.out.row (by decide) _ e.symm rfl)
    clear hl6 hr6 hf6 hv6 y0
    have y0 := HI6.out.lt
    go_wp2_with (refine wl_loadw (lies_range HI6.out) _ (by first | rfl | (simp [Region.wanted, yielded, *]; done)) rfl rfl Tryz.underlying57 rfl sizeIns ?_; simp only [Act.put, sA, sB, sC])
    refine (may_any ⟨lsl, lcl, HLV.out⟩).mono ?_
    rintro en w7 ⟨rfl, hb7⟩
    have HI7 := zh (HI6.out.below hb7 HI6.out.lt)
    have HL7 := zh (HL6.out.below hb7 HL6.out.lt)
    have HR7 := zh (ownsRow_keep HR6.out hb7)
    have HF7 := zh (HF6.out.trans (Fr.of_below hb7 _))
    have HM7 := zh (HA5.out.mid (Nat.le_refl _) HF7.out)
    clear hb7 y0
    have y0 := HI7.out.lt
    cases hmay : mayB x with
    | false =>
     have HE := zh (show exprV L = 2 from by
      unfold exprV
      rw [marks_stop (j := j + 1) (by rw [marks_step HXX.out HA.out.mks, hmay]; rfl)]
      rfl)
     go_wp2_with fail
     go_ret2
     exact ⟨⟨_, by rw [HE.out]; rfl⟩, HM7.out.1⟩
    | true =>
     go_wp2_with (refine wl_loadw (lies_range HI7.out) _ (by first | rfl | (simp [Region.wanted, yielded, *]; done)) rfl rfl Tryz.underlying57 rfl sizeIns ?_; simp only [Act.put, sA, sB, sC])
     have hnb : n ≤ 20000000000000 := by have := HA.out.bd; omega
     refine (put_any HM7.out.2 HM7.out.1 HOK.out (by omega)).mono ?_
     rintro en w8 ⟨v8, rfl, n8, ho8, hn8, hf8, hv8⟩
     have hlb := HOK.out.2.2.2.2.2
     have HA8 := zh (HA5.out.step (Nat.le_refl _) HXX.out hmay hmk HL7.out HR7.out HF7.out HV6.out ho8 (by unfold Bd at hlb; omega) hf8 hv8).2
     clear ho8 hf8 hv8 y0
     go_wp2_with fail
     exact ⟨⟨j + 1, _, _, _, by omega, by go_num, HA8.out⟩, by simp [Lib.intOf]; omega⟩
  ·obtain rfl : j = L.length := by omega
   have hc := HA.out.lies.cell 0
   have hmb : W.heap.size < wr.heap.size := HA.out.lies.lt
   have hnb : n ≤ 20000000000000 := by have := HA.out.bd; omega
   cases o with
   | nil =>
    have HE := zh (show exprV L = 0 from by
     have := HA.out.mks
     rw [List.take_length] at this
     unfold exprV exprOk
     rw [this]
     rfl)
    go_wp2_with (first | (refine wl_b1 _ _ rfl rfl rfl (fun w1 hb1 hs1 => ?_); have HA1 := zh (HA.out.later hb1); have HS1 := zh hs1; clear hb1 hs1; try simp only [Act.put, sA, sB, sC]) | (refine wl_more _ _ rfl rfl rfl HA1.out.out (fun _ => rfl) rfl HS1.out (one_oc _) (by simp; omega) HA1.out.bel.size (fun v2 w2 ho2 hg2 hv2 => ?_); have HB2 := zh (show Below W.heap.size W w2 from HA1.out.bel.grown hg2 HA1.out.bel.size (fun _ hk => (HA1.out.out.block hk).1)); clear ho2 hg2 hv2; try simp only [Act.put, sA, sB, sC]))
    go_ret2
    exact ⟨⟨_, by rw [HE.out]; rfl⟩, HB2.out⟩
   | cons z o1 =>
    have HE := zh (show exprV L = 2 from by
     have := HA.out.mks
     rw [List.take_length] at this
     unfold exprV exprOk
     rw [this]
     rfl)
    have hpos : (0 : Int) < ((z :: o1).length : Int) := by simp
    go_wp2_with fail
    go_ret2
    exact ⟨⟨_, by rw [HE.out]; rfl⟩, HA.out.bel⟩
end Go.Proofs.YtmgjcaikldeioaaGreat.Ty
