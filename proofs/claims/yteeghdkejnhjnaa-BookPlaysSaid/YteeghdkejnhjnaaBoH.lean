/- What the document's SetCode goes by: codes built, laid, loaded at once; a row of codes that grows. -/
import Derived.Test.YteeghdkejnhjnaaBoG
import Derived.Test.YteeghdkejnhjnaaAcL
namespace Go.Proofs.Yteeghdkejnhjnaa.Bo
open Go Go.RowKit Go.Lib Kt Ad

theorem infoCd : (Try.prog.info? 70).map (fun i => (i.zero, i.size, i.bytes)) = some (some (.agg #[.int .u8 0, .int .u8 0, .int .u8 0, .int .u8 0, .int .u8 0, .int .u8 0, .int .u8 0, .int .u8 0, .slice none 0 0]), 9, 32) := by kernel_rfl
theorem build_cd (a : A8) (s : Option Addr) (n c : Nat) (b : List UInt8) (w : World) : (Instr.build 70 #[(0, a.v), (1, .slice s n c)]).run Try.prog w = .ok (.agg (cdc (a, (.slice s n c, b))).toArray) w := by kernel_rfl
theorem bslice_cd (a : A8) (s : Option Addr) (n c : Nat) (b : List UInt8) (w : World) : (Instr.buildSlice 52 1 #[(0, .agg (cdc (a, (.slice s n c, b))).toArray)]).run Try.prog w = .ok (.slice (some ⟨w.heap.size, 0, none⟩) 1 1) (w.alloc (.cells (cdc (a, (.slice s n c, b))).toArray 70)) := by kernel_rfl
theorem exec_buildC {op : Oper} {a : Act} (x : A8) (s : Option Addr) (n c : Nat) (b : List UInt8) (p0 p1 : Operand) (ho : op.op = .build 70 #[(0, p0), (1, p1)]) (h0 : a.eval p0 = x.v) (h1 : a.eval p1 = .slice s n c) (w : World) :
    (execOp a.eval op).run Try.prog w = .ok (.value (.agg (cdc (x, (.slice s n c, b))).toArray)) w := by
  have hb := build_cd x s n c b w
  unfold execOp
  simp [ho, h0, h1, hb]
theorem wp_bsliceC {op : Oper} {a : Act} {w : World} {K : Act → World → Prop} {Q : Exit → Act → World → Prop} (x : A8) (s : Option Addr) (n c : Nat) (b : List UInt8) (p0 : Operand) (ho : op.op = .buildSlice 52 1 #[(0, p0)]) (h0 : a.eval p0 = .agg (cdc (x, (.slice s n c, b))).toArray)
    (hK : K (a.put op.dst (.slice (some ⟨w.heap.size, 0, none⟩) 1 1)) (w.alloc (.cells (cdc (x, (.slice s n c, b))).toArray 70))) : Oper.wp Try.prog op a w K Q := by
  have hb := bslice_cd x s n c b w
  unfold Oper.wp execOp
  simp [ho, h0, hb]
  exact hK
theorem sizeCd : (Try.prog.info? 70).map (·.size) = some 9 := by kernel_rfl
theorem wl_loadC {ops : Array Oper} {rest : List Oper} {op : Oper} {a : Act} {w : World} {Q : Exit → Act → World → Prop} (x : A8 × (Value × List UInt8)) (b o : Nat) (h : w.rangeAt b o (cdc x)) (p : Operand) (hgd : op.guard = none) (ho : op.op = .load 70 p)
    (hx : a.eval p = .pointer (some ⟨b, o, none⟩)) (hk : wpList Try.prog ops Q rest (a.put op.dst (.agg (cdc x).toArray)) w) : wpList Try.prog ops Q (op :: rest) a w :=
  wpList_load_mid hgd 70 p ho b o hx (cdc x) _ h Try.underlying70 rfl sizeCd hk
theorem wl_bsliceC {ops : Array Oper} {rest : List Oper} {op : Oper} {a : Act} {w : World} {Q : Exit → Act → World → Prop} (x : A8) (s : Option Addr) (n c : Nat) (b : List UInt8) (p0 : Operand) (hgd : op.guard = none) (ho : op.op = .buildSlice 52 1 #[(0, p0)]) (h0 : a.eval p0 = .agg (cdc (x, (.slice s n c, b))).toArray)
    (hk : wpList Try.prog ops Q rest (a.put op.dst (.slice (some ⟨w.heap.size, 0, none⟩) 1 1)) (w.alloc (.cells (cdc (x, (.slice s n c, b))).toArray 70))) : wpList Try.prog ops Q (op :: rest) a w :=
  wpList_plain hgd fun _ hK => wp_bsliceC x s n c b p0 ho h0 (hK _ _ hk)
theorem ones_cd (x : A8) (s : Option Addr) (n c : Nat) (b : List UInt8) : ∀ u ∈ cdc (x, (.slice s n c, b)), u.oneCell' = true := by
  intro u hu
  simp only [cdc, List.mem_cons, List.not_mem_nil, or_false] at hu
  rcases hu with rfl | rfl | rfl | rfl | rfl | rfl | rfl | rfl | rfl <;> rfl
/-- One code more, to a row of one's own. -/
theorem run_append_cd {w : World} {base : Nat} {v : Value} {n : Nat} {xs : List Value} (h : w.ownsRow base 70 9 v n xs) (hbase : base ≤ w.heap.size) (hn : n ≤ 1000000) (d : Nat) (x : A8) (s : Option Addr) (m c : Nat) (b : List UInt8) (hd : ∀ j u, (cdc (x, (.slice s m c, b)))[j]? = some u → w.cell? ((⟨d, 0, none⟩ : Addr).add j) = some u) (ty : TypeId) :
    ∃ v' w', (Builtin.append_ #[52, 52] ty #[v, .slice (some ⟨d, 0, none⟩) 1 1]).run Try.prog w = .ok v' w' ∧ w'.ownsRow base 70 9 v' (n + 1) (xs ++ cdc (x, (.slice s m c, b))) ∧ w.grownBy w' v.ownBlock := by
  obtain ⟨i0, hi, hz0, hz1, hz2⟩ := info_parts infoCd
  obtain ⟨v', w', hrun, r1, r2, _⟩ := run_append_own (P := Try.prog) w base 52 ty 70 i0 _ 9 32 Try.underlying52 hi hz0 hz1 hz2 rfl (by decide) v n xs h ⟨d, 0, none⟩ 1 1 (cdc (x, (.slice s m c, b))) rfl hd (ones_cd x s m c b) (by unfold maxLen; omega) (by omega) hbase
  exact ⟨v', w', hrun, r1, r2⟩
theorem wp_append_cd {o : Oper} {a : Act} {w : World} {K : Act → World → Prop} {Q : Exit → Act → World → Prop} {base : Nat} {v : Value} {n : Nat} {xs : List Value} (h : w.ownsRow base 70 9 v n xs) (hbase : base ≤ w.heap.size) (hn : n ≤ 1000000) (d : Nat) (x : A8) (s : Option Addr) (m c : Nat) (b : List UInt8) (hd : ∀ j u, (cdc (x, (.slice s m c, b)))[j]? = some u → w.cell? ((⟨d, 0, none⟩ : Addr).add j) = some u) (p q : Operand)
    (ho : o.op = .call { callee := .builtin .append, args := #[p, q], argTypes := #[52, 52] }) (hp : a.eval p = v) (hq : a.eval q = .slice (some ⟨d, 0, none⟩) 1 1)
    (hK : ∀ v' w', w'.ownsRow base 70 9 v' (n + 1) (xs ++ cdc (x, (.slice s m c, b))) → w.grownBy w' v.ownBlock → K (a.put o.dst v') w') : Oper.wp Try.prog o a w K Q := by
  obtain ⟨v', w', hrun, r1, r2⟩ := run_append_cd h hbase hn d x s m c b hd o.type
  unfold Oper.wp
  simp [execOp, ho, resolve, invoke, builtin, hp, hq, hrun, Result.andThen]
  exact hK v' w' r1 r2
theorem wl_append_cd {ops : Array Oper} {rest : List Oper} {o : Oper} {a : Act} {w : World} {Q : Exit → Act → World → Prop} {base : Nat} {v : Value} {n : Nat} {xs : List Value} (h : w.ownsRow base 70 9 v n xs) (hbase : base ≤ w.heap.size) (hn : n ≤ 1000000) (d : Nat) (x : A8) (s : Option Addr) (m c : Nat) (b : List UInt8) (hd : ∀ j u, (cdc (x, (.slice s m c, b)))[j]? = some u → w.cell? ((⟨d, 0, none⟩ : Addr).add j) = some u) (p q : Operand) (hgd : o.guard = none)
    (ho : o.op = .call { callee := .builtin .append, args := #[p, q], argTypes := #[52, 52] }) (hp : a.eval p = v) (hq : a.eval q = .slice (some ⟨d, 0, none⟩) 1 1)
    (hK : ∀ v' w', w'.ownsRow base 70 9 v' (n + 1) (xs ++ cdc (x, (.slice s m c, b))) → w.grownBy w' v.ownBlock → wpList Try.prog ops Q rest (a.put o.dst v') w') : wpList Try.prog ops Q (o :: rest) a w :=
  wpList_plain hgd fun _ hK' => wp_append_cd h hbase hn d x s m c b hd p q ho hp hq (fun v' w' h1 h2 => hK' _ _ (hK v' w' h1 h2))

/-- What the loop of SetCode has: the row that grows, its codes' bytes, the book, the address's box. -/
structure Sc (W wr : World) (own : Nat → Prop) (br : Nat) (vl vc : Value) (E : List Ev) (C : Cs) (a : A8) (O : Cs) (o : Value) : Prop where
  out : wr.ownsRow W.heap.size 70 9 o O.length (O.flatMap cdc)
  cds : ∀ c ∈ O, Bts wr (fun i => own i ∨ W.heap.size ≤ i) c.2.1 c.2.2
  rk : Rk wr (fun i => own i ∧ i < W.heap.size) br vl vc E C
  box : Lies wr W.heap.size 24 a.cs.toArray
  below : Below W.heap.size W wr
section
variable {W V V' : World} {own : Nat → Prop} {br : Nat} {vl vc o o' : Value} {E : List Ev} {C O : Cs} {a : A8}
theorem Sc.later (h : Sc W V own br vl vc E C a O o) (hb : Below V.heap.size V V') : Sc W V' own br vl vc E C a O o :=
  ⟨ownsRow_keep h.out hb, fun c hc => (h.cds c hc).kept (m := fun _ => False) (Fr.of_below hb _) (fun _ _ h => h), h.rk.later hb, h.box.below hb h.box.lt, h.below.trans (hb.mono h.below.size)⟩
theorem Sc.drew (h : Sc W V own br vl vc E C a O o) : Sc W V.drew own br vl vc E C a O o := h.later (Below.refl _ _).drew
theorem Sc.push (h : Sc W V own br vl vc E C a O o) {c : A8 × (Value × List UInt8)} (hb : Bts V (fun i => own i ∨ W.heap.size ≤ i) c.2.1 c.2.2) (hr : V'.ownsRow W.heap.size 70 9 o' (O.length + 1) (O.flatMap cdc ++ cdc c)) (hg : V.grownBy V' o.ownBlock) : Sc W V' own br vl vc E C a (O ++ [c]) o' := by
  have hf := Fr.of_grown hg
  have hne : ∀ k, some k = o.ownBlock → ∃ cur, Lies V k 70 cur := fun k e => by
    obtain ⟨_, _, cur, hg⟩ := wrow_lt (WRow.of_own (own := fun _ => True) h.out (fun _ _ => trivial)) e.symm
    exact ⟨cur, hg⟩
  have hty : ∀ k, some k = o.ownBlock → ∀ cur, ¬ Lies V k 5 cur := fun k e cur hl => by
    obtain ⟨c2, hg⟩ := hne k e
    exact absurd (lies_uniq hg hl) (by decide)
  refine ⟨?_, fun x hx => ?_, h.rk.kept hf (fun k hk e => by have := (h.out.lt k e.symm).1; omega), lies_fr h.box hf (fun e => ?_), h.below.grown hg h.below.size (fun k e => (h.out.lt k e).1)⟩
  · rw [List.length_append, List.flatMap_append]
    simpa using hr
  · rcases List.mem_append.1 hx with hx | hx
    · exact (h.cds x hx).kept_ty hf hty
    · obtain rfl : x = c := by simpa using hx
      exact hb.kept_ty hf hty
  · obtain ⟨c2, hg2⟩ := hne _ e
    exact absurd (lies_uniq hg2 h.box) (by decide)
end
theorem insGo_step {α : Type} (x y : A8 × α) (d : Bool) (r : List (A8 × α)) : Al.insGo x d (y :: r) = (if !d && decide (x.1.num < y.1.num) then [x] else []) ++ (if y.1 ≠ x.1 then [y] else []) ++ Al.insGo x (d || decide (x.1.num < y.1.num)) r := by rw [Al.insGo]
theorem turn_app (O P : Cs) : Al.turn (·.2) (O ++ P) = Al.turn (·.2) O ++ Al.turn (·.2) P := List.map_append
end Go.Proofs.Yteeghdkejnhjnaa.Bo
