/- Space: the imports of a kind: slices.DeleteFunc in a row of one's own, space.of. -/
import Derived.Test.YtmgjcaikldeioaaGreatXGe
import Derived.Test.YtmgjcaikldeioaaGreatXFn
namespace Go.Proofs.YtmgjcaikldeioaaGreat.Gr
open Go Go.RowKit Kt Fm

/-- Where deleting has come to: the first i are those of the kind among the first j; from the j-th on all is as it was. -/
structure Del (k : UInt8) (L R : List Imp) (i j : Nat) : Prop where
 len : R.length = L.length
 ij : i ≤ j
 front : R.take i = (L.take j).filter fun x => x.kind == k
 back : R.drop j = L.drop j
theorem Del.skip {k : UInt8} {L R : List Imp} {i j : Nat} {x : Imp} (h : Del k L R i j) (hx : L[j]? = some x) (hk : (x.kind == k) = false) : Del k L R i (j + 1) := by
 refine ⟨h.len, Nat.le_succ_of_le h.ij, ?_, ?_⟩
 ·rw [h.front, List.take_add_one, hx, Option.toList_some, List.filter_append]
  simp [hk]
 ·have := congrArg (List.drop 1) h.back
  rw [List.drop_drop, List.drop_drop] at this
  exact this
theorem Del.keep {k : UInt8} {L R : List Imp} {i j : Nat} {x : Imp} (h : Del k L R i j) (hx : L[j]? = some x) (hk : (x.kind == k) = true) : Del k L (R.set i x) (i + 1) (j + 1) := by
 have hij := h.ij
 have hj := (List.getElem?_eq_some_iff.1 hx).1
 refine ⟨by rw [List.length_set, h.len], by omega, ?_, ?_⟩
 ·rw [List.take_add_one, List.take_set_of_le (Nat.le_refl _), List.getElem?_set_self (by rw [h.len]; omega), h.front, List.take_add_one, hx, Option.toList_some, List.filter_append]
  simp [hk]
 ·rw [List.drop_set_of_lt (by omega)]
  have := congrArg (List.drop 1) h.back
  rw [List.drop_drop, List.drop_drop] at this
  exact this
theorem Del.at {k : UInt8} {L R : List Imp} {i j : Nat} (h : Del k L R i j) : R[j]? = L[j]? := by
 have := congrArg (fun l => l[0]?) h.back
 simpa [List.getElem?_drop] using this
/-- One element of a row of one's own is written over. -/
theorem wl_rowset {α : Type} {en : α → List Value} {P : Program} {ops : Array Oper} {rest : List Oper} {op : Oper} {a : Act} {w : World} {Q : Exit → Act → World → Prop} {ty : TypeId} {base sz g cap : Nat} {L : List α} (h : w.ownsRow base ty sz (.slice (some ⟨g, 0, none⟩) L.length cap) L.length (L.flatMap en)) (hlen : ∀ x, (en x).length = sz) {i : Nat} (hi : i < L.length) (y : α) (p q : Operand) (hgd : op.guard = none) (ho : op.op = .store ty p q)
  (hx : a.eval p = .pointer (some ⟨g, i * sz, none⟩)) (hy : a.eval q = .agg (en y).toArray) (hs : (P.info? ty).map (·.size) = some sz) (h1 : (en y).toArray.all (·.oneCell') = true)
  (hk : ∀ w', w'.ownsRow base ty sz (.slice (some ⟨g, 0, none⟩) L.length cap) L.length ((L.set i y).flatMap en) → w.grownBy w' (some g) → wpList P ops Q rest (a.put op.dst undef) w') : wpList P ops Q (op :: rest) a w := by
 have hle : i * sz + sz ≤ L.length * sz := by rw [← Nat.succ_mul]; exact Nat.mul_le_mul_right _ hi
 have ht : w.there g (i * sz) (en y).length := fun j hj => by
  rw [hlen] at hj
  refine ⟨?_, h.frozenAt _⟩
  rw [h.cellAt _ (by omega), List.getElem?_eq_getElem (by rw [length_flat hlen]; omega)]
  rfl
 have hr := row_set hlen h hi y
 exact wpList_store_mid hgd ty p q ho g (i * sz) (en y).toArray hx hy (by simpa using ht) (by simpa [hlen] using hs) h1 (hk _ hr.1 hr.2)
theorem grown_cell {w w' : World} {g b o : Nat} {v : Value} (h : w.grownBy w' (some g)) (hne : g ≠ b) (hc : w.cell? ⟨b, o, none⟩ = some v) : w'.cell? ⟨b, o, none⟩ = some v := by
 have hb := h.block b (World.block_lt_of_cell? w _ hc) (fun e => hne (by injection e with e; exact e.symm))
 simp only [World.cell?, hb]
 exact hc
def zImp : Value := .agg #[.string ByteArray.empty, .string ByteArray.empty, .int .u8 0, .int .u32 0, .int .u32 0, .int .i64 0, .int .u8 0, .bool false]
theorem zeroImp (w : World) : (zeroValue 88).run Tryz.prog w = .ok zImp w := by kernel_rfl
/-- clear of the last part of a row of one's own. -/
theorem wl_clear_row {P : Program} {ops : Array Oper} {rest : List Oper} {op : Oper} {a : Act} {w : World} {Q : Exit → Act → World → Prop} {t e : TypeId} {base sz g n cap : Nat} {xs : List Value} (h : w.ownsRow base e sz (.slice (some ⟨g, 0, none⟩) n cap) n xs) (z : Value) (ht : P.underlying t = some (.slice e)) (hv : ∀ w, (zeroValue e).run P w = .ok z w) (h1 : ∀ v ∈ z.cells.toList, v.oneCell' = true) (hsz : z.cells.size = sz) (hpos : 0 < sz)
  {i m c : Nat} (hm : i + m = n) (hpm : 0 < m) (p : Operand) (hgd : op.guard = none) (hop : op.op = .call { callee := .builtin .clear, args := #[p], argTypes := #[t] }) (hp : a.eval p = .slice (some ⟨g, i * sz, none⟩) m c)
  (hk : ∀ w' xs', w'.ownsRow base e sz (.slice (some ⟨g, 0, none⟩) n cap) n xs' → xs'.take (i * sz) = xs.take (i * sz) → w.grownBy w' (some g) → wpList P ops Q rest (a.put op.dst (.tuple #[])) w') : wpList P ops Q (op :: rest) a w := by
 have hl : xs.length = n * sz := h.1
 have hnm : i * sz + m * sz = n * sz := by rw [← Nat.add_mul, hm]
 obtain ⟨zs, hz, hrun⟩ := run_clear_cells (P := P) w t e op.type z ht hv h1 hsz hpos g (i * sz) m c hpm (fun j hj => by
  rw [h.cellAt _ (by omega), List.getElem?_eq_getElem (by omega)]
  rfl) (fun j _ => h.frozenAt _)
 have hr := row_over h (i * sz) zs (by omega)
 refine wpList_plain hgd fun K' hK' => ?_
 unfold Oper.wp
 simp [execOp, hop, resolve, invoke, builtin, hp, hrun, Result.andThen]
 refine hK' _ _ (hk _ _ hr.1 ?_ hr.2)
 rw [List.append_assoc, List.take_append_of_le_length (by rw [List.length_take]; omega), List.take_take, Nat.min_self]
theorem flat_take {α : Type} {en : α → List Value} {sz : Nat} (hlen : ∀ x, (en x).length = sz) (R : List α) {i : Nat} (hi : i ≤ R.length) : (R.take i).flatMap en = (R.flatMap en).take (i * sz) := by
 have e3 : ((R.take i).flatMap en).length = i * sz := by rw [length_flat hlen, List.length_take, Nat.min_eq_left hi]
 conv => rhs; rw [← List.take_append_drop i R]
 rw [List.flatMap_append, List.take_append_of_le_length (Nat.le_of_eq e3.symm), List.take_of_length_le (Nat.le_of_eq e3)]
theorem imp_len (x : Imp) : x.cs.length = 8 := rfl
theorem own_at {w : World} {base : Nat} {g n cap : Nat} {R : List Imp} (h : w.ownsRow base 88 8 (.slice (some ⟨g, 0, none⟩) n cap) n (R.flatMap Imp.cs)) {i : Nat} {x : Imp} (hi : R[i]? = some x) : w.rangeAt g (0 + i * 8) x.cs := fun c u hu => by
 have hc : c < 8 := by rw [← imp_len x]; exact (List.getElem?_eq_some_iff.1 hu).1
 have hf := getElem?_flat imp_len hi hc
 have := h.cells (g := g) rfl (i * 8 + c) u (by rw [hf]; exact hu)
 rw [Addr.add_lit] at this
 rw [Nat.add_assoc]
 exact this
set_option maxRecDepth 100000 in
set_option maxHeartbeats 8000000 in
theorem delete_any {W : World} {base : Nat} {k : UInt8} (hk : isKind k) {v : Value} {L : List Imp} (h : W.ownsRow base 88 8 v L.length (L.flatMap Imp.cs)) (hn : L.length ≤ 4194304) {b : Nat} (hb : W.cell? ⟨b, 0, none⟩ = some (.func (.func (kf k)) #[] #[])) (hne : v.ownBlock ≠ some b) :
  Calls Tryz.prog 83 #[v, .func (.func 85) #[] #[.pointer (some ⟨b, 0, none⟩)]] W fun e w' => ∃ v', e = .returned v' ∧ w'.ownsRow base 88 8 v' (L.filter fun x => x.kind == k).length ((L.filter fun x => x.kind == k).flatMap Imp.cs) ∧ W.grownBy w' v.ownBlock := by
 have hsl := own_sl (en := Imp.cs) imp_len h
 obtain ⟨s, cap, rfl, hs⟩ := hsl.form
 have HS := zh hs
 have HSL := zh hsl
 have HR := zh h
 have HBX := zh hb
 clear hs h hb hsl
 go_enter Tryz.func83, Tryz.ntmps83
 go_wp2_with fail
 refine (index_any hk HSL.out hn HBX.out).mono ?_
 rintro en w2 ⟨⟨i, hi, hall, hd⟩, hb2⟩
 have HR2 := zh (ownsRow_keep HR.out hb2)
 have HBX2 := zh (keepc hb2 HBX.out)
 have HG2 := zh (grownBy_below hb2 (Value.slice s L.length cap).ownBlock)
 have HALL := zh hall
 clear hb2 hall
 rcases hd with ⟨rfl, rfl⟩ | ⟨rfl, x, hx, hkx⟩
 ·go_wp2_with fail
  go_ret
  have hf : (L.filter fun x => x.kind == k) = L := by
   have := HALL.out
   rw [List.take_length, List.all_eq_true] at this
   exact List.filter_eq_self.2 this
  refine ⟨_, rfl, ?_, HG2.out⟩
  rw [hf]
  exact HR2.out
 ·have hlt := (List.getElem?_eq_some_iff.1 hx).1
  obtain ⟨g, rfl⟩ : ∃ g, s = some ⟨g, 0, none⟩ := by
   rcases HR.out.2 with ⟨e, h0⟩ | ⟨g, cap', cur, e, _⟩
   ·omega
   ·injection e with e1 e2 e3
    exact ⟨g, e1⟩
  have hi0 : ¬ (i : Int) = -1 := by omega
  have hgb : g ≠ b := fun e => hne (by rw [e]; rfl)
  have HD0 := zh (show Del k L L i (i + 1) from Del.skip ⟨rfl, Nat.le_refl _, by
   have := HALL.out
   rw [List.all_eq_true] at this
   exact (List.filter_eq_self.2 this).symm, rfl⟩ hx hkx)
  clear hx hkx HALL HBX HR HS HSL hne
  have hi1 : ((i : Int) == -1) = false := by rw [beq_eq_false_iff_ne]; omega
  go_wp2_with fail
  clear hi1
  go_loopw [5, 6] (fun iv jv wr => ∃ (i j : Nat) (R : List Imp), iv = .int .i64 i ∧ jv = .int .i64 j ∧ i < j ∧ j ≤ L.length ∧ Del k L R i j ∧ wr.ownsRow base 88 8 (.slice (some ⟨g, 0, none⟩) R.length cap) R.length (R.flatMap Imp.cs) ∧ W.grownBy wr (some g) ∧ wr.cell? ⟨b, 0, none⟩ = some (.func (.func (kf k)) #[] #[]))
   (fun _ jv _ => L.length - (intOf jv).toNat)
  case atStart => exact ⟨i, i + 1, L, rfl, by go_num, by omega, by omega, HD0.out, HR2.out, HG2.out, HBX2.out⟩
  case round =>
   clear HD0 HR2 HG2 HBX2 hi hi0 hlt
   obtain ⟨i, j, R, rfl, rfl, hij, hj, hdel, hrow, hgr, hbx⟩ := hrel
   have hRL := hdel.len
   have HDEL := zh hdel
   have HROW := zh hrow
   have HGR := zh hgr
   have HBX := zh hbx
   clear hdel hrow hgr hbx
   by_cases hlt : j < L.length
   ·obtain ⟨y, hy⟩ : ∃ y, L[j]? = some y := ⟨_, List.getElem?_eq_getElem hlt⟩
    have HY := zh hy
    have hr := own_at HROW.out (HDEL.out.at.trans hy)
    clear hy
    go_wp2_with (first | (refine wpList_load_mid rfl 88 _ rfl g (j * 8) rfl y.cs _ (by rw [← Nat.zero_add (j * 8)]; exact hr) Tryz.underlying88 rfl sizeImp ?_; simp only [Act.put, sA, sB, sC]) | (refine wpList_load_mid rfl 88 _ rfl g (0 + j * 8) rfl y.cs _ hr Tryz.underlying88 rfl sizeImp ?_; simp only [Act.put, sA, sB, sC]) | (refine wpList_load_mid rfl 88 _ rfl wr.heap.size 0 rfl y.cs _ (lies_range HL5.out) Tryz.underlying88 rfl sizeImp ?_; simp only [Act.put, sA, sB, sC]) | (refine wl_put (Lies.new _ _ _) y.cs _ _ rfl rfl rfl rfl rfl sizeImp (oneImp y) (fun w5 hL5 hF5 => ?_); have HL5 := zh hL5; have HF5 := zh hF5; clear hL5 hF5; try simp only [Act.put]))
    have hb5 : Below wr.heap.size wr w5 := below_put ((Below.refl _ _).alloc (Nat.le_refl _) _) HF5.out (Nat.le_refl _)
    refine (not_any hk y (keepc hb5 HBX.out)).mono ?_
    rintro en w6 ⟨rfl, hb6⟩
    have hb := bt hb5 hb6
    have HROW6 := zh (ownsRow_keep HROW.out hb)
    have HGR6 := zh (grownBy_trans HGR.out (grownBy_below hb (some g)))
    have HBX6 := zh (keepc hb HBX.out)
    have HL6 := zh (HL5.out.below hb6 HL5.out.lt)
    clear hb hb5 hb6 HROW HGR HBX HL5 HF5 hr
    generalize wr.heap.size = n7 at HL6 ⊢
    cases hyk : y.kind == k with
    | true =>
     have hiR : i < R.length := by omega
     go_wp2_with (first | (refine wpList_load_mid rfl 88 _ rfl n7 0 rfl y.cs _ (lies_range HL6.out) Tryz.underlying88 rfl sizeImp ?_; simp only [Act.put, sA, sB, sC]) | (refine wl_rowset HROW6.out imp_len hiR y _ _ rfl rfl rfl rfl sizeImp (oneImp y) (fun w8 hr8 hg8 => ?_); have HR8 := zh hr8; have HG8 := zh hg8; clear hr8 hg8; try simp only [Act.put]))
     exact ⟨⟨i + 1, j + 1, R.set i y, by go_num, by go_num, by omega, by omega, HDEL.out.keep HY.out hyk, by rw [List.length_set]; exact HR8.out, grownBy_trans HGR6.out HG8.out, grown_cell HG8.out hgb HBX6.out⟩, by simp [intOf]; omega⟩
    | false =>
     go_wp2_with fail
     exact ⟨⟨i, j + 1, R, rfl, by go_num, by omega, by omega, HDEL.out.skip HY.out hyk, HROW6.out, HGR6.out, HBX6.out⟩, by simp [intOf]; omega⟩
   ·obtain rfl : j = L.length := by omega
    have hm : i + (L.length - i) = R.length := by omega
    have hfr := HDEL.out.front
    rw [List.take_length] at hfr
    have hfl : (L.filter fun x => x.kind == k).length = i := by rw [← hfr, List.length_take]; omega
    have hrow := HROW.out
    have hiL : i ≤ L.length := by omega
    have hcap : L.length ≤ cap := by
     rcases hrow.2 with ⟨e, _⟩ | ⟨g', cap', cur, e, _, _, h2, _⟩
     ·cases e
     ·injection e with _ _ e3
      omega
    have hci : ¬ cap = i := by omega
    have hicap : i ≤ cap := by omega
    clear hrow
    go_wp2_with (refine wl_clear_row HROW.out zImp Tryz.underlying23 zeroImp (by simp [zImp, Value.cells, Value.oneCell']) rfl (by decide) hm (by omega) _ rfl rfl rfl (fun w8 xs8 hr8 hx8 hg8 => ?_); have HR8 := zh hr8; have HX8 := zh hx8; have HG8 := zh hg8; clear hr8 hx8 hg8; try simp only [Act.put])
    go_ret
    have hF : (R.flatMap Imp.cs).take (i * 8) = (L.filter fun x => x.kind == k).flatMap Imp.cs := by rw [← hfr]; exact (flat_take imp_len R (by omega)).symm
    have := row_front imp_len HR8.out (L := L.filter fun x => x.kind == k) (by omega) (by rw [hfl, HX8.out]; exact hF)
    rw [hfl] at this ⊢
    exact ⟨_, rfl, this, grownBy_trans HGR.out HG8.out⟩
set_option maxRecDepth 100000 in
set_option maxHeartbeats 4000000 in
theorem of_any {W : World} {k : UInt8} (hk : isKind k) {v : Value} {L : List Imp} (h : Sl W 8 Imp.cs v L) (hn : L.length ≤ 4194304) :
  Calls Tryz.prog 57 #[v, .func (.func (kf k)) #[] #[]] W fun e w' => ∃ v', e = .returned v' ∧ w'.ownsRow W.heap.size 88 8 v' (L.filter fun x => x.kind == k).length ((L.filter fun x => x.kind == k).flatMap Imp.cs) ∧ Below W.heap.size W w' := by
 have H := zh h
 clear h
 go_enter Tryz.func57, Tryz.ntmps57
 go_wp2_with fail
 obtain ⟨w1, hw1⟩ : ∃ w1, w1 = W.alloc (.cells #[.func (.func (kf k)) #[] #[]] 125) := ⟨_, rfl⟩
 have hb1 : Below W.heap.size W w1 := hw1 ▸ (Below.refl _ _).alloc (Nat.le_refl _) _
 have hl1 : Lies w1 W.heap.size 125 #[.func (.func (kf k)) #[] #[]] := hw1 ▸ Lies.new _ _ _
 rw [← hw1]
 clear hw1
 have HB1 := zh hb1
 have HL1 := zh hl1
 clear hb1 hl1
 refine (clone_imp (H.out.later HB1.out) hn).mono ?_
 rintro en w2 ⟨v2, rfl, ho2, hb2⟩
 have hz := HB1.out.size
 have hlt := HL1.out.lt
 have hlt2 : W.heap.size < w2.heap.size := Nat.lt_of_lt_of_le hlt hb2.size
 have hne : v2.ownBlock ≠ some W.heap.size := fun e => by have := (ho2.lt _ e).1; omega
 have hbx : w2.cell? ⟨W.heap.size, 0, none⟩ = some (.func (.func (kf k)) #[] #[]) := keepc hb2 (HL1.out.cell 0)
 have HO := zh (ho2.mono (Nat.le_of_lt hlt))
 have HB2 := zh (bt HB1.out hb2)
 have HOB := zh (fun g (e : v2.ownBlock = some g) => Nat.le_trans hz (ho2.lt g e).1)
 clear ho2 hb2
 go_wp2_with fail
 refine (delete_any hk HO.out hn hbx hne).mono ?_
 rintro en w3 ⟨v3, rfl, ho3, hg3⟩
 have HO3 := zh ho3
 have HB3 := zh (HB2.out.grown hg3 HB2.out.size (fun g e => HOB.out g e))
 clear ho3 hg3
 go_wp2_with fail
 go_ret
 exact ⟨_, rfl, HO3.out, HB3.out⟩
end Go.Proofs.YtmgjcaikldeioaaGreat.Gr
