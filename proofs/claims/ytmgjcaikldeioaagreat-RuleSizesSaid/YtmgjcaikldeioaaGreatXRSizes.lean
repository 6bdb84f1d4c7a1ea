/- The statement RuleSizes: for every input the call returns true (of what a module may have so many, it may have that many, and not one more) and each argument reads behind it as it did: the row. Conditions: none beyond the row's own. -/
import Derived.Test.YtmgjcaikldeioaaGreatXRw
import Derived.Test.YtmgjcaikldeioaaGreatChecked
import Derived.Test.YtmgjcaikldeioaaGreatXRSa
namespace Go.Proofs.YtmgjcaikldeioaaGreat.Rw
open Go Go.RowKit Go.WideShapes Go.ChangeShapes Go.ChangeAt
/-- A world for the witness: the settled one. -/
noncomputable def plainWorld (os : Os) : World := World.holding Tryz.prog os ⟨#[], #[], []⟩
theorem met_nil (w : World) : laidMet Tryz.prog [] w := ⟨[], rfl, List.nodup_nil, fun _ _ h => by cases h⟩
end Go.Proofs.YtmgjcaikldeioaaGreat.Rw
namespace Go.Proofs.YtmgjcaikldeioaaGreat.Ru
open Go Go.RowKit Go.Lib Kt Fm Gr Ty Va

/-- The module's variable, and which blocks may have turned since it was laid. -/
structure Stg (W w0 : World) (es : List TypeId) (Bm : Nat) (m : Mod) (w : World) : Prop where
 x : Lies w Bm 33 m.cs.toArray
 f : FrT es w0 w
 b : Below W.heap.size W w
 l : W.heap.size ≤ Bm
section
variable {W w0 w w' : World} {es : List TypeId} {Bm : Nat} {m m' : Mod}
theorem Stg.grow (h : Stg W w0 es Bm m w) (hb : Below w.heap.size w w') : Stg W w0 es Bm m w' := ⟨h.x.below hb h.x.lt, (h.f.trans (FrT.below hb es)).sub (by simp), bt h.b hb, h.l⟩
theorem Stg.row (h : Stg W w0 es Bm m w) {e : TypeId} {sz n : Nat} {v : Value} {xs : List Value} (hr : w.ownsRow W.heap.size e sz v n xs) (hg : w.grownBy w' v.ownBlock) (he : 33 ≠ e) : Stg W w0 (es ++ [e]) Bm m w' :=
 ⟨lies_frT h.x (FrT.grown hr hg) (by simpa using he), h.f.trans (FrT.grown hr hg), h.b.trans ((Fr.of_grown hg).below h.b.size (fun _ hk => (row_block hr hk.symm).1)), h.l⟩
theorem Stg.set (h : Stg W w0 es Bm m w) (hl : Lies w' Bm 33 m'.cs.toArray) (hf : Fr w w' (fun k => k = Bm)) : Stg W w0 (es ++ [33]) Bm m' w' :=
 ⟨hl, h.f.trans (FrT.field h.x hf), h.b.trans (hf.below h.b.size (fun k hk => by rw [hk]; exact h.l)), h.l⟩
theorem Stg.at (h : Stg W w0 es Bm m w) {g : Nat} {e : TypeId} {cs : Array Value} (hg : Lies w g e cs) (hf : Fr w w' (fun k => k = g)) (he : 33 ≠ e) (hgl : W.heap.size ≤ g) : Stg W w0 (es ++ [e]) Bm m w' :=
 ⟨lies_frT h.x (FrT.field hg hf) (by simpa using he), h.f.trans (FrT.field hg hf), h.b.trans (hf.below h.b.size (fun k hk => by rw [hk]; exact hgl)), h.l⟩
theorem Stg.sub {es' : List TypeId} (h : Stg W w0 es Bm m w) (hs : ∀ e ∈ es, e ∈ es') : Stg W w0 es' Bm m w := ⟨h.x, h.f.sub hs, h.b, h.l⟩
theorem Stg.drew (h : Stg W w0 es Bm m w) : Stg W w0 es Bm m w.drew := h.grow (below_drew w)
end
section
variable {w : World} {g g1 g2 g3 : Nat}
def typW (g1 g2 : Nat) : List Ft := typ0 (.slice (some ⟨g1, 0, none⟩) 1 1) (.slice (some ⟨g2, 0, none⟩) 1 1)
/-- The least module with other codes. -/
abbrev mQ (g1 g2 g3 g4 g5 g6 : Nat) (codes : List Cod) : Mod := modQ (.slice (some ⟨g3, 0, none⟩) 3 3) (typW g1 g2) (.slice (some ⟨g4, 0, none⟩) 1 1) [0] nilV [] nilV [] nilV [] (.slice (some ⟨g6, 0, none⟩) 1 1) [exp0] (.slice (some ⟨g5, 0, none⟩) 1 1) codes
theorem typ_oks (p : Lies w g1 5 (u8c 126).toArray) (q : Lies w g2 5 (u8c 127).toArray) : ∀ y ∈ typW g1 g2, FtOk w y := by
 intro y hy
 simp only [typW, typ0, List.mem_cons, List.not_mem_nil, or_false] at hy
 rcases hy with rfl | rfl | rfl
 ·exact ⟨nil_ok, nil_ok⟩
 ·exact ⟨⟨sl_one (x := (126 : UInt8)) (en := u8c) p, fun _ _ => trivial, (by show (1 : Nat) ≤ 1048576; decide)⟩, nil_ok⟩
 ·exact ⟨⟨sl_one (x := (127 : UInt8)) (en := u8c) q, fun _ _ => trivial, (by show (1 : Nat) ≤ 1048576; decide)⟩, nil_ok⟩
theorem typ_ok (p : Lies w g1 5 (u8c 126).toArray) (q : Lies w g2 5 (u8c 127).toArray) (t : Lies w g3 51 ((typW g1 g2).flatMap Ft.cs).toArray) : Sl w 2 Ft.cs (.slice (some ⟨g3, 0, none⟩) 3 3) (typW g1 g2) ∧ (∀ y ∈ typW g1 g2, FtOk w y) ∧ (typW g1 g2).length ≤ Bd :=
 ⟨sl_many (L := typW g1 g2) Ft.len t, typ_oks p q, (by show (3 : Nat) ≤ 1048576; decide)⟩
theorem fun_ok (f : Lies w g 28 (u32c 0).toArray) : Sl w 1 u32c (.slice (some ⟨g, 0, none⟩) 1 1) [0] ∧ (∀ y ∈ ([0] : List Nat), y < 4294967296) ∧ ([0] : List Nat).length ≤ Bd :=
 ⟨sl_one (x := (0 : Nat)) (en := u32c) f, fun y hy => (by obtain rfl := List.mem_singleton.1 hy; show (0 : Nat) < 4294967296; decide), (by show (1 : Nat) ≤ 1048576; decide)⟩
theorem exp_ok (e : Lies w g 61 exp0.cs.toArray) : Sl w 3 Exp.cs (.slice (some ⟨g, 0, none⟩) 1 1) [exp0] ∧ (∀ y ∈ [exp0], ExpOk w y) ∧ ([exp0] : List Exp).length ≤ Bd :=
 ⟨sl_one e, fun y hy => (by obtain rfl := List.mem_singleton.1 hy; exact ⟨by show (0 : Nat) < 4294967296; decide, by show (4 : Nat) ≤ 1048576; decide⟩), (by show (1 : Nat) ≤ 1048576; decide)⟩
theorem cod_ok {c : Cod} (h : Lies w g 48 c.cs.toArray) (hc : CodOk w c) : Sl w 2 Cod.cs (.slice (some ⟨g, 0, none⟩) 1 1) [c] ∧ (∀ y ∈ [c], CodOk w y) ∧ ([c] : List Cod).length ≤ Bd :=
 ⟨sl_one h, fun y hy => (by obtain rfl := List.mem_singleton.1 hy; exact hc), (by show (1 : Nat) ≤ 1048576; decide)⟩
theorem cod0_ok : CodOk w cod0 := ⟨nil_ok, nil_ok⟩
theorem ins_nil {op : UInt8} {a : Nat} (ha : a < 4294967296) : InsOk w ⟨op, a, 0, 0, nilV, []⟩ := ⟨ha, (by show (0 : Nat) < 4294967296; decide), (by show (-9223372036854775808 : Int) ≤ 0 ∧ (0 : Int) ≤ 9223372036854775807; decide), nil_ok⟩
/-- A row of so many more. -/
theorem sl_app {α : Type} {en : α → List Value} {base : Nat} {e : TypeId} {sz n m : Nat} {v : Value} {L : List α} {y : α} (hlen : ∀ x, (en x).length = sz) (hn : L.length = n) (h : w.ownsRow base e sz v (n + m) (L.flatMap en ++ (List.replicate m (en y)).flatten)) : Sl w sz en v (L ++ List.replicate m y) := by
 subst hn
 refine own_sl hlen (base := base) (e := e) ?_
 rw [List.length_append, List.length_replicate, List.flatMap_append]
 rw [show (List.replicate m (en y)).flatten = (List.replicate m y).flatMap en from by rw [List.flatMap, List.map_replicate]] at h
 exact h
theorem modQ_ok {tv fv bv mv gv ev cv : Value} {types : List Ft} {funcs : List Nat} {tabs mems : List Lim} {globs : List Glb} {exps : List Exp} {codes : List Cod}
  (ht : Sl w 2 Ft.cs tv types ∧ (∀ y ∈ types, FtOk w y) ∧ types.length ≤ Bd) (hf : Sl w 1 u32c fv funcs ∧ (∀ y ∈ funcs, y < 4294967296) ∧ funcs.length ≤ Bd) (hb : Sl w 2 Lim.cs bv tabs ∧ (∀ y ∈ tabs, LimOk w y) ∧ tabs.length ≤ Bd) (hm : Sl w 2 Lim.cs mv mems ∧ (∀ y ∈ mems, LimOk w y) ∧ mems.length ≤ Bd) (hg : Sl w 3 Glb.cs gv globs ∧ (∀ y ∈ globs, GlbOk w y) ∧ globs.length ≤ Bd) (he : Sl w 3 Exp.cs ev exps ∧ (∀ y ∈ exps, ExpOk w y) ∧ exps.length ≤ Bd) (hc : Sl w 2 Cod.cs cv codes ∧ (∀ y ∈ codes, CodOk w y) ∧ codes.length ≤ Bd) : ModOk w (modQ tv types fv funcs bv tabs mv mems gv globs ev exps cv codes) :=
 ⟨ht, nil_ok, hf, hb, hm, hg, he, (by show (0 : Nat) < 4294967296; decide), nil_ok, hc, nil_ok⟩
end
section
theorem infz_ft : (Tryz.prog.info? 51).map (fun i => (i.zero.map (·.cells), i.size, i.bytes)) = some (some ftE.cs.toArray, ftE.cs.length, 48) := by kernel_rfl
theorem infz_u32 : (Tryz.prog.info? 28).map (fun i => (i.zero.map (·.cells), i.size, i.bytes)) = some (some (u32c 0).toArray, (u32c 0).length, 4) := by kernel_rfl
theorem infz_u8 : (Tryz.prog.info? 5).map (fun i => (i.zero.map (·.cells), i.size, i.bytes)) = some (some (u8c 0).toArray, (u8c 0).length, 1) := by kernel_rfl
theorem infz_cd : (Tryz.prog.info? 48).map (fun i => (i.zero.map (·.cells), i.size, i.bytes)) = some (some cod0.cs.toArray, cod0.cs.length, 48) := by kernel_rfl
theorem infz_in : (Tryz.prog.info? 57).map (fun i => (i.zero.map (·.cells), i.size, i.bytes)) = some (some unr0.cs.toArray, unr0.cs.length, 48) := by kernel_rfl
theorem inf_in : (Tryz.prog.info? 57).map (fun i => (i.zero.map (·.cells.size), i.size, i.bytes)) = some (some 5, 5, 48) := by kernel_rfl
theorem inf_ex : (Tryz.prog.info? 61).map (fun i => (i.zero.map (·.cells.size), i.size, i.bytes)) = some (some 3, 3, 24) := by kernel_rfl
theorem inf_gb : (Tryz.prog.info? 80).map (fun i => (i.zero.map (·.cells.size), i.size, i.bytes)) = some (some 3, 3, 32) := by kernel_rfl
end
theorem brt_ls {w : World} {g N : Nat} (h : Lies w g 28 (List.replicate N (u32c 0)).flatten.toArray) (hN : N ≤ 9000) : Sl w 1 u32c (.slice (some ⟨g, 0, none⟩) N N) (List.replicate N 0) ∧ (∀ y ∈ List.replicate N (0 : Nat), y < 4294967296) ∧ (List.replicate N (0 : Nat)).length ≤ Bd := by
 refine ⟨?_, fun y hy => by rw [List.eq_of_mem_replicate hy]; decide, by rw [List.length_replicate]; show N ≤ 1048576; omega⟩
 have := sl_many (L := List.replicate N 0) (en := u32c) (sz := 1) (fun _ => rfl) (w := w) (g := g) (t := 28) (by rw [show (List.replicate N (0 : Nat)).flatMap u32c = (List.replicate N (u32c 0)).flatten from by rw [List.flatMap, List.map_replicate]]; exact h)
 rw [List.length_replicate] at this
 exact this
theorem wp_cnv {op : Oper} {a : Act} {w : World} {K : Act → World → Prop} {Q : Exit → Act → World → Prop} {v : Value} {b : List UInt8} (h : Sl w 1 u8c v b) (p : Operand) (ho : op.op = .convert 49 9 p) (hx : a.eval p = v) (hK : K (a.put op.dst (.string (bst b))) w) : Oper.wp Tryz.prog op a w K Q := by
 have hl := conv_of h
 unfold Oper.wp execOp
 simp only [ho, hx, hl, Sem.run_bind, Sem.run_pure, Result.andThen_ok]
 exact hK
theorem wl_cnv {ops : Array Oper} {rest : List Oper} {op : Oper} {a : Act} {w : World} {Q : Exit → Act → World → Prop} {v : Value} {b : List UInt8} (h : Sl w 1 u8c v b) (p : Operand) (hgd : op.guard = none) (ho : op.op = .convert 49 9 p) (hx : a.eval p = v) (hK : wpList Tryz.prog ops Q rest (a.put op.dst (.string (bst b))) w) : wpList Tryz.prog ops Q (op :: rest) a w :=
 wpList_plain hgd fun _ hK' => wp_cnv h p ho hx (hK' _ _ hK)
theorem sl_u8s {w : World} {g N : Nat} (h : Lies w g 5 (List.replicate N (u8c 0)).flatten.toArray) : Sl w 1 u8c (.slice (some ⟨g, 0, none⟩) N N) (List.replicate N 0) := by
 have := sl_many (L := List.replicate N (0 : UInt8)) (en := u8c) (sz := 1) (fun _ => rfl) (w := w) (g := g) (t := 5) (by rw [show (List.replicate N (0 : UInt8)).flatMap u8c = (List.replicate N (u8c 0)).flatten from by rw [List.flatMap, List.map_replicate]]; exact h)
 rw [List.length_replicate] at this
 exact this
theorem nop_len {i N : Nat} (h : i < N) : i * 5 + [Value.int .u8 1].length ≤ ((List.replicate i nop0 ++ List.replicate (N - i) unr0).flatMap Ins.cs).length := by
 rw [List.flatMap_append, List.length_append, List.length_flatMap, List.map_replicate, List.sum_replicate_nat, List.length_flatMap, List.map_replicate, List.sum_replicate_nat]
 show i * 5 + 1 ≤ i * 5 + (N - i) * 5
 omega
theorem nop_at {i N : Nat} (h : i < N) : ((List.replicate i nop0 ++ List.replicate (N - i) unr0).flatMap Ins.cs).take (i * 5) ++ [Value.int .u8 1] ++ ((List.replicate i nop0 ++ List.replicate (N - i) unr0).flatMap Ins.cs).drop (i * 5 + [Value.int .u8 1].length) = (List.replicate (i + 1) nop0 ++ List.replicate (N - (i + 1)) unr0).flatMap Ins.cs := by
 have hl : ((List.replicate i nop0).flatMap Ins.cs).length = i * 5 := by
  rw [List.length_flatMap, List.map_replicate, List.sum_replicate_nat]
  rfl
 obtain ⟨r, hr⟩ : ∃ r, N - i = r + 1 := ⟨N - i - 1, by omega⟩
 have hr2 : N - (i + 1) = r := by omega
 rw [hr, hr2, List.replicate_succ (n := r), List.flatMap_append, List.flatMap_cons, List.take_append_of_le_length (by omega), List.take_of_length_le (by omega), List.drop_append, List.drop_eq_nil_of_le (by rw [hl]; simp), List.replicate_succ' (n := i), List.flatMap_append, List.flatMap_append, List.flatMap_singleton, hl]
 rw [show i * 5 + [Value.int .u8 1].length - i * 5 = 1 from by simp]
 simp [Ins.cs, nop0, unr0]
theorem nops_sl {w : World} {g i : Nat} (h : Lies w g 57 ((List.replicate i nop0).flatMap Ins.cs).toArray) : Sl w 5 Ins.cs (.slice (some ⟨g, 0, none⟩) i i) (List.replicate i nop0) := by
 have := sl_many (L := List.replicate i nop0) Ins.len h
 rw [List.length_replicate] at this
 exact this
theorem expX_succ (i : Nat) : expX (i + 1) = expX i ++ [⟨bst (nmX i), 0, 0⟩] := by
 unfold expX
 rw [List.range_succ, List.map_append]
 rfl
theorem expX_len (i : Nat) : (expX i).length = i := by unfold expX; simp
theorem nmX_cs (i : Nat) (h : i ≤ 9000) : [Value.int .u8 120, .int .u8 (97 + (i : Int) % 26), .int .u8 (97 + (i : Int) / 26 % 26), .int .u8 (97 + (i : Int) / 676)] = (nmX i).flatMap u8c := by
 have e1 : (97 : Int) + (i : Int) % 26 = ((UInt8.ofNat (97 + i % 26)).toNat : Int) := by simp only [UInt8.toNat_ofNat']; omega
 have e2 : (97 : Int) + (i : Int) / 26 % 26 = ((UInt8.ofNat (97 + i / 26 % 26)).toNat : Int) := by simp only [UInt8.toNat_ofNat']; omega
 have e3 : (97 : Int) + (i : Int) / 676 = ((UInt8.ofNat (97 + i / 676)).toNat : Int) := by simp only [UInt8.toNat_ofNat']; omega
 rw [e1, e2, e3]
 rfl
theorem expX_row {w : World} {base : Nat} {e : TypeId} {v : Value} {i : Nat} (h : w.ownsRow base e 3 v (i + 1 + [(⟨bst (nmX i), 0, 0⟩ : Exp)].length) ((exp0 :: expX i).flatMap Exp.cs ++ [(⟨bst (nmX i), 0, 0⟩ : Exp)].flatMap Exp.cs)) : w.ownsRow base e 3 v (i + 1 + 1) ((exp0 :: expX (i + 1)).flatMap Exp.cs) := by
 rw [expX_succ, ← List.cons_append, List.flatMap_append]
 exact h
theorem expX_ok {w : World} {N : Nat} : ∀ y ∈ exp0 :: expX N, ExpOk w y := by
 intro y hy
 rcases List.mem_cons.1 hy with rfl | hy
 ·exact ⟨by show (0 : Nat) < 4294967296; decide, by show (4 : Nat) ≤ 1048576; decide⟩
 ·obtain ⟨i, _, rfl⟩ := List.mem_map.1 hy
  exact ⟨by show (0 : Nat) < 4294967296; decide, by show (4 : Nat) ≤ 1048576; decide⟩
/-- A global as the loop builds it: its instruction lies in a block of its own. -/
def GlbAt (w : World) (g : Glb) : Prop := IsG g ∧ ∃ b, g.iv = .slice (some ⟨b, 0, none⟩) 1 1 ∧ Lies w b 57 cst0.cs.toArray
theorem GlbAt.keep {w w' : World} {g : Glb} {es : List TypeId} (h : GlbAt w g) (hf : FrT es w w') (ht : 57 ∉ es) : GlbAt w' g := ⟨h.1, h.2.imp fun _ h => ⟨h.1, lies_frT h.2 hf ht⟩⟩
theorem GlbAt.ok {w : World} {g : Glb} (h : GlbAt w g) : GlbOk w g := by
 obtain ⟨⟨h1, h2⟩, b, h3, h4⟩ := h
 refine ⟨trivial, ?_, ?_, ?_⟩
 ·rw [h2, h3]; exact sl_one h4
 ·rw [h2]; intro y hy; obtain rfl := List.mem_singleton.1 hy; exact ins_nil (by decide)
 ·rw [h2]; show (1 : Nat) ≤ 1048576; decide
theorem rep_row {w : World} {base : Nat} {e : TypeId} {v : Value} {i : Nat} {x : Ins} (h : w.ownsRow base e 5 v (i + [x].length) ((List.replicate i x).flatMap Ins.cs ++ [x].flatMap Ins.cs)) : w.ownsRow base e 5 v (i + 1) ((List.replicate (i + 1) x).flatMap Ins.cs) := by
 rw [List.replicate_succ', List.flatMap_append]
 exact h
theorem ins_one {x : Ins} (hx : x.lv = nilV) : ∀ u ∈ x.cs, u.oneCell' = true := by
 intro u hu
 simp only [Ins.cs, hx, List.mem_cons, List.not_mem_nil, or_false] at hu
 rcases hu with rfl | rfl | rfl | rfl | rfl <;> rfl
def BE (i : Nat) : List Ins := List.replicate i blk0 ++ List.replicate i end0
theorem BE_len (i : Nat) : (BE i).length = 2 * i := by unfold BE; rw [List.length_append, List.length_replicate, List.length_replicate]; omega
theorem BE_lv {i : Nat} {y : Ins} (hy : y ∈ BE i) : y = blk0 ∨ y = end0 := by
 rcases List.mem_append.1 hy with h | h
 ·exact .inl (List.eq_of_mem_replicate h)
 ·exact .inr (List.eq_of_mem_replicate h)
theorem BE_succ (i : Nat) : [blk0] ++ BE i ++ [end0] = BE (i + 1) := by
 unfold BE
 rw [List.replicate_succ (a := blk0), List.replicate_succ' (a := end0)]
 simp
theorem be_row {w : World} {base : Nat} {e : TypeId} {v : Value} {i : Nat} (h : w.ownsRow base e 5 v (1 + (BE i).length + [end0].length) (blk0.cs ++ (BE i).flatMap Ins.cs ++ [end0].flatMap Ins.cs)) : w.ownsRow base e 5 v (2 * (i + 1)) ((BE (i + 1)).flatMap Ins.cs) := by
 rw [← BE_succ, List.flatMap_append, List.flatMap_append]
 rw [BE_len, show 1 + 2 * i + [end0].length = 2 * (i + 1) from by simp; omega] at h
 exact h
/-- What the kinds leave. -/
def Left (W : World) (Bm N : Nat) (l o : Value) (wx : World) : Prop := ∃ (m : Mod) (lim own : Nat), l = .int .i64 lim ∧ o = .int .i64 own ∧ Lies wx Bm 33 m.cs.toArray ∧ ModOk wx m ∧ rchk m = (if N + own ≤ lim then 0 else 122) ∧ Below W.heap.size W wx ∧ lim ≤ 10000 ∧ own ≤ 10
set_option maxRecDepth 100000 in
set_option maxHeartbeats 16000000 in
theorem law_sizes (k n : Int) (W : World) : Calls Tryz.prog 6 #[.int .u8 k, .int .i64 n] W fun e w' => e = .returned (.bool true) ∧ Below W.heap.size W w' := by
 go_enter Tryz.func6, Tryz.ntmps6
 go_wp2_with fail
 refine (known_any W).mono ?_
 rintro en w1 ⟨rfl, hb1⟩
 have HB1 := zh hb1
 clear hb1
 by_cases hlo : n < 0
 ·go_wp2_with fail
  go_ret
  exact ⟨rfl, HB1.out⟩
 by_cases hhi : 9000 < n
 ·go_wp2_with fail
  go_ret
  exact ⟨rfl, HB1.out⟩
 obtain ⟨N, rfl⟩ : ∃ N : Nat, n = N := ⟨n.toNat, by omega⟩
 have hN : N ≤ 9000 := by omega
 replace hlo : (0 : Int) ≤ (N : Int) := by omega
 replace hhi : (N : Int) ≤ 9000 := by omega
 go_wp2_with fail
 refine (least_own w1).mono ?_
 rintro en w2 ⟨⟨g1, g2, g3, g4, g5, g6, rfl, hg⟩, hb2⟩
 have HB2 := zh (bt HB1.out hb2)
 have HG2 := zh hg
 have HGB := zh (show W.heap.size ≤ g1 ∧ W.heap.size ≤ g2 ∧ W.heap.size ≤ g3 ∧ W.heap.size ≤ g4 ∧ W.heap.size ≤ g5 ∧ W.heap.size ≤ g6 from by
  have h1 := hg.b
  have h2 := HB1.out.size
  omega)
 clear hb2 hg
 go_upto_block 0 with (refine wl_put (Lies.new _ _ _) (mQ g1 g2 g3 g4 g5 g6 [cod0]).cs _ _ rfl rfl rfl rfl rfl sizeMod (by simp [modQ, Mod.cs, Value.oneCell']) (fun w3 hlw3 hfw3 => ?_); have hbw3 : Below w2.heap.size w2 w3 := below_put ((Below.refl w2.heap.size w2).alloc (Nat.le_refl _) _) hfw3 (Nat.le_refl _); have HB3 := zh (bt HB2.out hbw3); have HM3 := zh hlw3; obtain ⟨Bm, hBw3⟩ : ∃ Bm, Bm = w2.heap.size := ⟨_, rfl⟩; rw [← hBw3] at HM3 ⊢; have HBm := zh (show W.heap.size ≤ Bm from by rw [hBw3]; exact HB2.out.size); have HG := zh (show LeastAt w1.heap.size w3 g1 g2 g3 g4 g5 g6 from ⟨HG2.out.p.below hbw3 HG2.out.p.lt, HG2.out.q.below hbw3 HG2.out.q.lt, HG2.out.t.below hbw3 HG2.out.t.lt, HG2.out.f.below hbw3 HG2.out.f.lt, HG2.out.c.below hbw3 HG2.out.c.lt, HG2.out.e.below hbw3 HG2.out.e.lt, HG2.out.b⟩); have S3 := zh (show Stg W w3 [] Bm (mQ g1 g2 g3 g4 g5 g6 [cod0]) w3 from ⟨HM3.out, FrT.refl _ _, HB3.out, HBm.out⟩); clear hBw3 hlw3 hfw3 hbw3 ; try simp only [Act.put])
 clear HB2 HG2
 go_cut [6, 7, 8, 9] from 21 to 209 (fun l o _ _ wx => Left W Bm N l o wx)
 case first =>
  by_cases h0 : k = 0
  ·subst h0
   have x0 : w3.cell? ⟨Bm, 0, none⟩ = some (.slice (some ⟨g3, 0, none⟩) 3 3) := S3.out.x.cell 0
   go_wp2_with (first | (refine wl_appz _ _ rfl rfl Tryz.underlying22 Tryz.underlying3 ftE.cs infz_ft (by decide) (by decide) rfl (row_lies (n := 3) (sz := 2) HG.out.t HGB.out.2.2.1 rfl (by unfold maxLen; omega)) rfl (by unfold maxLen; omega) (by omega) S3.out.b.size (fun v4 w4 hr4 hg4 => ?_); have S4 := zh (S3.out.row (row_lies (n := 3) (sz := 2) HG.out.t HGB.out.2.2.1 rfl (by unfold maxLen; omega)) hg4 (by decide)); have HV4 := zh (row_cells hr4); have R4 := zh hr4; clear hr4 hg4; (try simp only [Act.put, sA, sB, sC])) | (refine wl_fld (c0 := (mQ g1 g2 g3 g4 g5 g6 [cod0]).cs) S4.out.x _ _ rfl rfl rfl rfl [v4] (modQ v4 (typW g1 g2 ++ List.replicate N ftE) (.slice (some ⟨g4, 0, none⟩) 1 1) [0] nilV [] nilV [] nilV [] (.slice (some ⟨g6, 0, none⟩) 1 1) [exp0] (.slice (some ⟨g5, 0, none⟩) 1 1) [cod0]).cs HV4.out.1 (by kernel_rfl) (by intro u hu; obtain rfl := List.mem_singleton.1 hu; exact HV4.out.2) (by simp [modQ, Mod.cs]) rfl (fun w5 hl5 hf5 => ?_); have R5 := zh (row_frT R4.out (FrT.field S4.out.x hf5) (by decide)); have S5 := zh (S4.out.set (m' := (modQ v4 (typW g1 g2 ++ List.replicate N ftE) (.slice (some ⟨g4, 0, none⟩) 1 1) [0] nilV [] nilV [] nilV [] (.slice (some ⟨g6, 0, none⟩) 1 1) [exp0] (.slice (some ⟨g5, 0, none⟩) 1 1) [cod0])) hl5 hf5); clear hl5 hf5; (try simp only [Act.put])))
   go_meet
   exact ⟨(modQ v4 (typW g1 g2 ++ List.replicate N ftE) (.slice (some ⟨g4, 0, none⟩) 1 1) [0] nilV [] nilV [] nilV [] (.slice (some ⟨g6, 0, none⟩) 1 1) [exp0] (.slice (some ⟨g5, 0, none⟩) 1 1) [cod0]), 256, 3, rfl, rfl, S5.out.x, modQ_ok ⟨sl_app (L := typW g1 g2) (y := ftE) (n := 3) Ft.len rfl R5.out, fun y hy => (List.mem_append.1 hy).elim (typ_oks (lies_frT HG.out.p S5.out.f (by decide)) (lies_frT HG.out.q S5.out.f (by decide)) y) (fun h => by rw [List.eq_of_mem_replicate h]; exact ⟨nil_ok, nil_ok⟩), by rw [List.length_append, List.length_replicate]; show 3 + N ≤ 1048576; omega⟩ (fun_ok (lies_frT HG.out.f S5.out.f (by decide))) nil_ok nil_ok nil_ok (exp_ok (lies_frT HG.out.e S5.out.f (by decide))) (cod_ok (lies_frT HG.out.c S5.out.f (by decide)) cod0_ok), rs0 _ _ _ _ _ _ N, S5.out.b, by decide, by decide⟩
  by_cases h1 : k = 1
  ·subst h1
   have J3 := zh (show Stg W w3 [61, 33] Bm (modQ (.slice (some ⟨g3, 0, none⟩) 3 3) (typW g1 g2) (.slice (some ⟨g4, 0, none⟩) 1 1) [0] nilV [] nilV [] nilV [] (.slice (some ⟨g6, 0, none⟩) 1 1) (exp0 :: expX 0) (.slice (some ⟨g5, 0, none⟩) 1 1) [cod0]) w3 ∧ w3.ownsRow W.heap.size 61 3 (.slice (some ⟨g6, 0, none⟩) 1 1) (0 + 1) ((exp0 :: expX 0).flatMap Exp.cs) from ⟨S3.out.sub (by simp), row_lies HG.out.e HGB.out.2.2.2.2.2 rfl (by decide)⟩)
   go_wp2_with fail
   go_loopw [31] (fun iv wr => ∃ (i : Nat) (ev : Value), i ≤ N ∧ iv = .int .i64 i ∧ Stg W w3 [61, 33] Bm (modQ (.slice (some ⟨g3, 0, none⟩) 3 3) (typW g1 g2) (.slice (some ⟨g4, 0, none⟩) 1 1) [0] nilV [] nilV [] nilV [] ev (exp0 :: expX i) (.slice (some ⟨g5, 0, none⟩) 1 1) [cod0]) wr ∧ wr.ownsRow W.heap.size 61 3 ev (i + 1) ((exp0 :: expX i).flatMap Exp.cs)) (fun iv _ => N - (RowKit.intOf iv).toNat)
   case atStart => exact ⟨0, (.slice (some ⟨g6, 0, none⟩) 1 1), Nat.zero_le _, rfl, J3.out⟩
   case round =>
    obtain ⟨i, ev, hi, rfl, hs, hr⟩ := hrel
    obtain ⟨w4, hw4⟩ : ∃ w4, w4 = wr := ⟨_, rfl⟩
    rw [← hw4] at hs hr ⊢
    clear hw4
    have S4 := zh hs
    have R4 := zh hr
    clear hs hr
    by_cases hlt : i < N
    ·have x6 : w4.cell? ⟨Bm, 6, none⟩ = some ev := S4.out.x.cell 6
     have hlt2 : (i : Int) < (N : Int) := by omega
     go_wp2_with (first | (refine wl_bsN (e := 5) (d := 49) rfl rfl [Value.int .u8 120, .int .u8 (97 + (i : Int) % 26), .int .u8 (97 + (i : Int) / 26 % 26), .int .u8 (97 + (i : Int) / 676)] rfl (fun w => by kernel_rfl) (fun w5 hb5 hl5 => ?_); obtain ⟨gl, hg5⟩ : ∃ g, g = w4.heap.size := ⟨_, rfl⟩; rw [← hg5] at hl5 ⊢; have S5 := zh (S4.out.grow hb5); have L5 := zh hl5; have R5 := zh (ownsRow_keep R4.out hb5); have N5 := zh (show Lies w5 gl 5 ((nmX i).flatMap u8c).toArray from by rw [← nmX_cs i (by omega)]; exact hl5); clear hb5 hl5 hg5; (try simp only [Act.put, sA, sB, sC])) | (refine wl_cnv (b := nmX i) (sl_many (L := nmX i) (en := u8c) (sz := 1) (fun _ => rfl) N5.out) _ rfl rfl rfl ?_; (try simp only [Act.put, sA, sB, sC])) | (refine wl_bsN (e := 61) (d := 52) rfl rfl (⟨bst (nmX i), 0, 0⟩ : Exp).cs rfl (fun w => by kernel_rfl) (fun w6 hb6 hl6 => ?_); obtain ⟨gb, hg6⟩ : ∃ g, g = w5.heap.size := ⟨_, rfl⟩; rw [← hg6] at hl6 ⊢; have S6 := zh (S5.out.grow hb6); have L6 := zh hl6; have R6 := zh (ownsRow_keep R5.out hb6); clear hb6 hl6 hg6; (try simp only [Act.put, sA, sB, sC])) | (refine wl_app (by_ := 24) _ _ rfl rfl Tryz.underlying27 inf_ex (by decide) rfl R6.out Exp.len rfl (sl_one L6.out) (fun y hy u hu => by obtain rfl := List.mem_singleton.1 hy; simp [Exp.cs] at hu; rcases hu with rfl | rfl | rfl <;> rfl) (by unfold maxLen; simp <;> omega) (by simp <;> omega) S6.out.b.size (fun v7 w7 hr7 hg7 hv7 => ?_); have S7 := zh (S6.out.row R6.out hg7 (by decide)); have HV7 := zh (row_cells hr7); have R7 := zh hr7; clear hr7 hg7 hv7; (try simp only [Act.put, sA, sB, sC])) | (refine wl_fld (c0 := (modQ (.slice (some ⟨g3, 0, none⟩) 3 3) (typW g1 g2) (.slice (some ⟨g4, 0, none⟩) 1 1) [0] nilV [] nilV [] nilV [] ev (exp0 :: expX i) (.slice (some ⟨g5, 0, none⟩) 1 1) [cod0]).cs) S7.out.x _ _ rfl rfl rfl rfl [v7] (modQ (.slice (some ⟨g3, 0, none⟩) 3 3) (typW g1 g2) (.slice (some ⟨g4, 0, none⟩) 1 1) [0] nilV [] nilV [] nilV [] v7 (exp0 :: expX (i + 1)) (.slice (some ⟨g5, 0, none⟩) 1 1) [cod0]).cs HV7.out.1 (by kernel_rfl) (by intro u hu; obtain rfl := List.mem_singleton.1 hu; exact HV7.out.2) (by simp [modQ, Mod.cs]) rfl (fun w8 hl8 hf8 => ?_); have R8 := zh (row_frT R7.out (FrT.field S7.out.x hf8) (by decide)); have S8 := zh (S7.out.set (m' := (modQ (.slice (some ⟨g3, 0, none⟩) 3 3) (typW g1 g2) (.slice (some ⟨g4, 0, none⟩) 1 1) [0] nilV [] nilV [] nilV [] v7 (exp0 :: expX (i + 1)) (.slice (some ⟨g5, 0, none⟩) 1 1) [cod0])) hl8 hf8); clear hl8 hf8; (try simp only [Act.put])))
     go_roundw
     case rel => exact ⟨i + 1, v7, hlt, by go_num, S8.out.sub (by simp), expX_row R8.out⟩
     case measure => simp [RowKit.intOf]; omega
    ·have HIN := zh (show i = N from by omega)
     have hge : ¬ (i : Int) < (N : Int) := by omega
     have T4 := zh (show w4.ownsRow W.heap.size 61 3 ev (exp0 :: expX N).length ((exp0 :: expX N).flatMap Exp.cs) from by rw [List.length_cons, expX_len, ← HIN.out]; exact R4.out)
     go_wp2_with fail
     go_meet
     exact ⟨(modQ (.slice (some ⟨g3, 0, none⟩) 3 3) (typW g1 g2) (.slice (some ⟨g4, 0, none⟩) 1 1) [0] nilV [] nilV [] nilV [] ev (exp0 :: expX N) (.slice (some ⟨g5, 0, none⟩) 1 1) [cod0]), 128, 1, rfl, rfl, S4.out.x, modQ_ok (typ_ok (lies_frT HG.out.p S4.out.f (by decide)) (lies_frT HG.out.q S4.out.f (by decide)) (lies_frT HG.out.t S4.out.f (by decide))) (fun_ok (lies_frT HG.out.f S4.out.f (by decide))) nil_ok nil_ok nil_ok ⟨own_sl (L := exp0 :: expX N) Exp.len T4.out, expX_ok, by rw [List.length_cons, expX_len]; show N + 1 ≤ 1048576; omega⟩ (cod_ok (lies_frT HG.out.c S4.out.f (by decide)) cod0_ok), rs1 _ _ _ _ _ _ N hN, S4.out.b, by decide, by decide⟩
  by_cases h2 : k = 2
  ·subst h2
   go_upto_region 19 with fail
   refine wp_region_t [(0, 1), (1, 2), (2, 1), (4, 1), (5, 2), (6, 1), (3, 0), (8, 1), (7, 0), (9, 0), (10, 1), (11, 0), (12, 1), (13, 1)] (fun _ => True) [(9, (fun w' => w'.cell? ⟨Bm, 2, none⟩ = some (.slice (some ⟨g4, 0, none⟩) 1 1))), (11, (fun w' => w'.cell? ⟨Bm, 10, none⟩ = some (.slice (some ⟨g5, 0, none⟩) 1 1)))] [9, 11] rfl (by kernel_rfl) (by kernel_rfl) (fun _ _ d _ _ h => by cases d <;> exact h) trivial (fun p hp => by rcases List.mem_cons.1 hp with rfl | hp; exact S3.out.drew.x.cell 2; obtain rfl := List.mem_singleton.1 hp; exact S3.out.drew.x.cell 10) ?_
   have S4 := zh S3.out.drew
   generalize w3.drew = w4 at S4 ⊢
   repeat (first | (refine ts_take (v := ?_) rfl rfl (fun w' hw' => ?_) ?_; rotate_left; (focus (have q0 := hw'; (try simp only [Act.put, sA, sB, sC]); go_simp; (try go_bits); (try (with_reducible rfl)))); (try simp only [Act.put, sA, sB, sC])) | (refine ts_take2 (v := ?_) rfl rfl (fun w' hw' hst => ?_) ?_; rotate_left; (focus (have q0 := hst.fst rfl; have q1 := hst.tail.one rfl; (try simp only [Act.put, sA, sB, sC]); go_simp; (try go_bits); (try (with_reducible rfl)))); (try simp only [Act.put, sA, sB, sC])))
   refine ts_run1 rfl rfl (fun K hK => ?_)
   refine wp_appz _ _ rfl Tryz.underlying24 Tryz.underlying3 (u32c 0) infz_u32 (by decide) (by decide) rfl (row_lies (n := 1) (sz := 1) (lies_frT HG.out.f S4.out.f (by decide)) HGB.out.2.2.2.1 rfl (by unfold maxLen; omega)) rfl (by unfold maxLen; omega) (by omega) S4.out.b.size (fun v5 w5 hr5 hg5 => ?_)
   have S5 := zh (S4.out.row (row_lies (n := 1) (sz := 1) (lies_frT HG.out.f S4.out.f (by decide)) HGB.out.2.2.2.1 rfl (by unfold maxLen; omega)) hg5 (by decide))
   have HV5 := zh (row_cells hr5)
   have R5 := zh hr5
   clear hr5 hg5
   refine hK.out _ _ trivial (still_two (.inr (S5.out.x.cell 2)) (.inr (S5.out.x.cell 10))) ?_
   clear hK K
   (try simp only [Act.put, sA, sB, sC])
   repeat (first | (refine ts_take (v := ?_) rfl rfl (fun w' hw' => ?_) ?_; rotate_left; (focus (have q0 := hw'; (try simp only [Act.put, sA, sB, sC]); go_simp; (try go_bits); (try (with_reducible rfl)))); (try simp only [Act.put, sA, sB, sC])))
   refine ts_run1 rfl rfl (fun K hK => ?_)
   refine wp_appz _ _ rfl Tryz.underlying30 Tryz.underlying3 cod0.cs infz_cd (by decide) (by decide) rfl (row_lies (n := 1) (sz := 2) (lies_frT HG.out.c S5.out.f (by decide)) HGB.out.2.2.2.2.1 rfl (by unfold maxLen; omega)) rfl (by unfold maxLen; omega) (by omega) S5.out.b.size (fun v6 w6 hr6 hg6 => ?_)
   have S6 := zh (S5.out.row (row_lies (n := 1) (sz := 2) (lies_frT HG.out.c S5.out.f (by decide)) HGB.out.2.2.2.2.1 rfl (by unfold maxLen; omega)) hg6 (by decide))
   have HV6 := zh (row_cells hr6)
   have R6 := zh hr6
   have F6 := zh (row_frT R5.out (FrT.grown (row_lies (n := 1) (sz := 2) (lies_frT HG.out.c S5.out.f (by decide)) HGB.out.2.2.2.2.1 rfl (by unfold maxLen; omega)) hg6) (by decide))
   clear hr6 hg6
   refine hK.out _ _ trivial (still_two (.inr (S6.out.x.cell 2)) (.inr (S6.out.x.cell 10))) ?_
   clear hK K
   (try simp only [Act.put, sA, sB, sC])
   repeat (first | (refine ts_take (v := ?_) rfl rfl (fun w' hw' => ?_) ?_; rotate_left; (focus (have q0 := hw'; (try simp only [Act.put, sA, sB, sC]); go_simp; (try go_bits); (try (with_reducible rfl)))); (try simp only [Act.put, sA, sB, sC])))
   refine ts_run1 rfl rfl (fun K hK => ?_)
   refine wp_fld (c0 := (mQ g1 g2 g3 g4 g5 g6 [cod0]).cs) S6.out.x _ _ rfl rfl rfl [v5] (modQ (.slice (some ⟨g3, 0, none⟩) 3 3) (typW g1 g2) v5 (0 :: List.replicate N 0) nilV [] nilV [] nilV [] (.slice (some ⟨g6, 0, none⟩) 1 1) [exp0] (.slice (some ⟨g5, 0, none⟩) 1 1) [cod0]).cs HV5.out.1 (by kernel_rfl) (by intro u hu; obtain rfl := List.mem_singleton.1 hu; exact HV5.out.2) (by simp [modQ, Mod.cs]) rfl (fun w7 hl7 hf7 => ?_)
   have F7 := zh (row_frT F6.out (FrT.field S6.out.x hf7) (by decide))
   have R7 := zh (row_frT R6.out (FrT.field S6.out.x hf7) (by decide))
   have S7 := zh (S6.out.set (m' := (modQ (.slice (some ⟨g3, 0, none⟩) 3 3) (typW g1 g2) v5 (0 :: List.replicate N 0) nilV [] nilV [] nilV [] (.slice (some ⟨g6, 0, none⟩) 1 1) [exp0] (.slice (some ⟨g5, 0, none⟩) 1 1) [cod0])) hl7 hf7)
   clear hl7 hf7
   refine hK.out _ _ trivial (still_two (.inl rfl) (.inr (S7.out.x.cell 10))) ?_
   clear hK K
   (try simp only [Act.put])
   repeat (first | (refine ts_take (v := ?_) rfl rfl (fun w' hw' => ?_) ?_; rotate_left; (focus (have q0 := hw'; (try simp only [Act.put, sA, sB, sC]); go_simp; (try go_bits); (try (with_reducible rfl)))); (try simp only [Act.put, sA, sB, sC])))
   refine ts_run1 rfl rfl (fun K hK => ?_)
   refine wp_fld (c0 := (modQ (.slice (some ⟨g3, 0, none⟩) 3 3) (typW g1 g2) v5 (0 :: List.replicate N 0) nilV [] nilV [] nilV [] (.slice (some ⟨g6, 0, none⟩) 1 1) [exp0] (.slice (some ⟨g5, 0, none⟩) 1 1) [cod0]).cs) S7.out.x _ _ rfl rfl rfl [v6] (modQ (.slice (some ⟨g3, 0, none⟩) 3 3) (typW g1 g2) v5 (0 :: List.replicate N 0) nilV [] nilV [] nilV [] (.slice (some ⟨g6, 0, none⟩) 1 1) [exp0] v6 (cod0 :: List.replicate N cod0)).cs HV6.out.1 (by kernel_rfl) (by intro u hu; obtain rfl := List.mem_singleton.1 hu; exact HV6.out.2) (by simp [modQ, Mod.cs]) rfl (fun w8 hl8 hf8 => ?_)
   have F8 := zh (row_frT F7.out (FrT.field S7.out.x hf8) (by decide))
   have R8 := zh (row_frT R7.out (FrT.field S7.out.x hf8) (by decide))
   have S8 := zh (S7.out.set (m' := (modQ (.slice (some ⟨g3, 0, none⟩) 3 3) (typW g1 g2) v5 (0 :: List.replicate N 0) nilV [] nilV [] nilV [] (.slice (some ⟨g6, 0, none⟩) 1 1) [exp0] v6 (cod0 :: List.replicate N cod0))) hl8 hf8)
   clear hl8 hf8
   refine hK.out _ _ trivial (still_two (.inl rfl) (.inl rfl)) ?_
   clear hK K
   (try simp only [Act.put])
   repeat (first | (refine ts_take (v := ?_) rfl rfl (fun w' hw' => ?_) ?_; rotate_left; (focus (have q0 := hw'; (try simp only [Act.put, sA, sB, sC]); go_simp; (try go_bits); (try (with_reducible rfl)))); (try simp only [Act.put, sA, sB, sC])))
   refine ts_done ?_
   go_wp2_with fail
   go_meet
   exact ⟨(modQ (.slice (some ⟨g3, 0, none⟩) 3 3) (typW g1 g2) v5 (0 :: List.replicate N 0) nilV [] nilV [] nilV [] (.slice (some ⟨g6, 0, none⟩) 1 1) [exp0] v6 (cod0 :: List.replicate N cod0)), 512, 1, rfl, rfl, S8.out.x, modQ_ok (typ_ok (lies_frT HG.out.p S8.out.f (by decide)) (lies_frT HG.out.q S8.out.f (by decide)) (lies_frT HG.out.t S8.out.f (by decide))) ⟨sl_app (L := [0]) (y := 0) (n := 1) (en := u32c) (fun _ => rfl) rfl F8.out, fun y hy => (by rcases List.mem_cons.1 hy with rfl | hy; decide; rw [List.eq_of_mem_replicate hy]; decide), by rw [List.length_cons, List.length_replicate]; show N + 1 ≤ 1048576; omega⟩ nil_ok nil_ok nil_ok (exp_ok (lies_frT HG.out.e S8.out.f (by decide))) ⟨sl_app (L := [cod0]) (y := cod0) (n := 1) Cod.len rfl R8.out, fun y hy => (by rcases List.mem_cons.1 hy with rfl | hy; exact cod0_ok; rw [List.eq_of_mem_replicate hy]; exact cod0_ok), by rw [List.length_cons, List.length_replicate]; show N + 1 ≤ 1048576; omega⟩, rs2 _ _ _ _ _ _ N, S8.out.b, by decide, by decide⟩
  by_cases h3 : k = 3
  ·subst h3
   have J3 := zh (show Stg W w3 [80, 33] Bm (modQ (.slice (some ⟨g3, 0, none⟩) 3 3) (typW g1 g2) (.slice (some ⟨g4, 0, none⟩) 1 1) [0] nilV [] nilV [] nilV ([] : List Glb) (.slice (some ⟨g6, 0, none⟩) 1 1) [exp0] (.slice (some ⟨g5, 0, none⟩) 1 1) [cod0]) w3 ∧ w3.ownsRow W.heap.size 80 3 nilV ([] : List Glb).length (([] : List Glb).flatMap Glb.cs) ∧ ∀ g ∈ ([] : List Glb), GlbAt w3 g from ⟨S3.out.sub (by simp), World.ownsRow_nil _ _ _ _, fun g hg => by cases hg⟩)
   go_wp2_with fail
   go_loopw [71] (fun iv wr => ∃ (gs : List Glb) (gv : Value), gs.length ≤ N ∧ iv = .int .i64 gs.length ∧ Stg W w3 [80, 33] Bm (modQ (.slice (some ⟨g3, 0, none⟩) 3 3) (typW g1 g2) (.slice (some ⟨g4, 0, none⟩) 1 1) [0] nilV [] nilV [] gv gs (.slice (some ⟨g6, 0, none⟩) 1 1) [exp0] (.slice (some ⟨g5, 0, none⟩) 1 1) [cod0]) wr ∧ wr.ownsRow W.heap.size 80 3 gv gs.length (gs.flatMap Glb.cs) ∧ ∀ g ∈ gs, GlbAt wr g) (fun iv _ => N - (RowKit.intOf iv).toNat)
   case atStart => exact ⟨[], nilV, Nat.zero_le _, rfl, J3.out⟩
   case round =>
    obtain ⟨gs, gv, hi, rfl, hs, hr, hg⟩ := hrel
    obtain ⟨w4, hw4⟩ : ∃ w4, w4 = wr := ⟨_, rfl⟩
    rw [← hw4] at hs hr hg ⊢
    clear hw4
    have S4 := zh hs
    have R4 := zh hr
    have G4 := zh hg
    clear hs hr hg
    by_cases hlt : gs.length < N
    ·have x5 : w4.cell? ⟨Bm, 5, none⟩ = some gv := S4.out.x.cell 5
     have hlt2 : (gs.length : Int) < (N : Int) := by omega
     go_wp2_with (first | (refine wl_bsN (e := 57) (d := 77) rfl rfl cst0.cs rfl (fun w => by kernel_rfl) (fun w5 hb5 hl5 => ?_); obtain ⟨gb, hg5⟩ : ∃ g, g = w4.heap.size := ⟨_, rfl⟩; rw [← hg5] at hl5 ⊢; have S5 := zh (S4.out.grow hb5); have L5 := zh hl5; have R5 := zh (ownsRow_keep R4.out hb5); have G5 := zh (show ∀ g ∈ gs, GlbAt w5 g from fun g hg => (G4.out g hg).keep (FrT.below hb5 []) (by simp)); clear hb5 hl5 hg5; (try simp only [Act.put, sA, sB, sC])) | (refine wl_bsN (e := 80) (d := 79) rfl rfl (⟨⟨127, false⟩, .slice (some ⟨gb, 0, none⟩) 1 1, [cst0]⟩ : Glb).cs rfl (fun w => by kernel_rfl) (fun w6 hb6 hl6 => ?_); obtain ⟨gc, hg6⟩ : ∃ g, g = w5.heap.size := ⟨_, rfl⟩; rw [← hg6] at hl6 ⊢; have S6 := zh (S5.out.grow hb6); have L6 := zh hl6; have R6 := zh (ownsRow_keep R5.out hb6); have G6 := zh (show ∀ g ∈ gs, GlbAt w6 g from fun g hg => (G5.out g hg).keep (FrT.below hb6 []) (by simp)); have M6 := zh (L5.out.below hb6 L5.out.lt); clear hb6 hl6 hg6; (try simp only [Act.put, sA, sB, sC])) | (refine wl_app (by_ := 32) _ _ rfl rfl Tryz.underlying26 inf_gb (by decide) rfl R6.out Glb.len rfl (sl_one L6.out) (fun y hy u hu => by obtain rfl := List.mem_singleton.1 hy; simp [Glb.cs] at hu; rcases hu with rfl | rfl | rfl <;> rfl) (by unfold maxLen; simp <;> omega) (by simp <;> omega) S6.out.b.size (fun v7 w7 hr7 hg7 hv7 => ?_); have S7 := zh (S6.out.row R6.out hg7 (by decide)); have HV7 := zh (row_cells hr7); have R7 := zh hr7; have G7 := zh (show ∀ g ∈ gs, GlbAt w7 g from fun g hg => (G6.out g hg).keep (FrT.grown R6.out hg7) (by decide)); have M7 := zh (lies_frT M6.out (FrT.grown R6.out hg7) (by decide)); clear hr7 hg7 hv7; (try simp only [Act.put, sA, sB, sC])) | (refine wl_fld (c0 := (modQ (.slice (some ⟨g3, 0, none⟩) 3 3) (typW g1 g2) (.slice (some ⟨g4, 0, none⟩) 1 1) [0] nilV [] nilV [] gv gs (.slice (some ⟨g6, 0, none⟩) 1 1) [exp0] (.slice (some ⟨g5, 0, none⟩) 1 1) [cod0]).cs) S7.out.x _ _ rfl rfl rfl rfl [v7] (modQ (.slice (some ⟨g3, 0, none⟩) 3 3) (typW g1 g2) (.slice (some ⟨g4, 0, none⟩) 1 1) [0] nilV [] nilV [] v7 (gs ++ [(⟨⟨127, false⟩, .slice (some ⟨gb, 0, none⟩) 1 1, [cst0]⟩ : Glb)]) (.slice (some ⟨g6, 0, none⟩) 1 1) [exp0] (.slice (some ⟨g5, 0, none⟩) 1 1) [cod0]).cs HV7.out.1 (by kernel_rfl) (by intro u hu; obtain rfl := List.mem_singleton.1 hu; exact HV7.out.2) (by simp [modQ, Mod.cs]) rfl (fun w8 hl8 hf8 => ?_); have R8 := zh (row_frT R7.out (FrT.field S7.out.x hf8) (by decide)); have G8 := zh (show ∀ g ∈ gs, GlbAt w8 g from fun g hg => (G7.out g hg).keep (FrT.field S7.out.x hf8) (by decide)); have M8 := zh (lies_frT M7.out (FrT.field S7.out.x hf8) (by decide)); have S8 := zh (S7.out.set (m' := (modQ (.slice (some ⟨g3, 0, none⟩) 3 3) (typW g1 g2) (.slice (some ⟨g4, 0, none⟩) 1 1) [0] nilV [] nilV [] v7 (gs ++ [(⟨⟨127, false⟩, .slice (some ⟨gb, 0, none⟩) 1 1, [cst0]⟩ : Glb)]) (.slice (some ⟨g6, 0, none⟩) 1 1) [exp0] (.slice (some ⟨g5, 0, none⟩) 1 1) [cod0])) hl8 hf8); clear hl8 hf8; (try simp only [Act.put])))
     go_roundw
     case rel => exact ⟨gs ++ [(⟨⟨127, false⟩, .slice (some ⟨gb, 0, none⟩) 1 1, [cst0]⟩ : Glb)], v7, by rw [List.length_append]; exact hlt, by rw [List.length_append]; go_num, S8.out.sub (by simp), by rw [List.length_append, List.flatMap_append]; exact R8.out, fun g hg => (List.mem_append.1 hg).elim (G8.out g) (fun h => by obtain rfl := List.mem_singleton.1 h; exact ⟨⟨rfl, rfl⟩, gb, rfl, M8.out⟩)⟩
     case measure => simp [RowKit.intOf]; omega
    ·have HIN := zh (show gs.length = N from by omega)
     have hge : ¬ (gs.length : Int) < (N : Int) := by omega
     go_wp2_with fail
     go_meet
     exact ⟨(modQ (.slice (some ⟨g3, 0, none⟩) 3 3) (typW g1 g2) (.slice (some ⟨g4, 0, none⟩) 1 1) [0] nilV [] nilV [] gv gs (.slice (some ⟨g6, 0, none⟩) 1 1) [exp0] (.slice (some ⟨g5, 0, none⟩) 1 1) [cod0]), 128, 0, rfl, rfl, S4.out.x, modQ_ok (typ_ok (lies_frT HG.out.p S4.out.f (by decide)) (lies_frT HG.out.q S4.out.f (by decide)) (lies_frT HG.out.t S4.out.f (by decide))) (fun_ok (lies_frT HG.out.f S4.out.f (by decide))) nil_ok nil_ok ⟨own_sl Glb.len R4.out, fun g hg => (G4.out g hg).ok, by rw [HIN.out]; show N ≤ 1048576; omega⟩ (exp_ok (lies_frT HG.out.e S4.out.f (by decide))) (cod_ok (lies_frT HG.out.c S4.out.f (by decide)) cod0_ok), (by rw [← HIN.out]; exact rs3 _ _ _ _ _ _ _ gs (fun g hg => (G4.out g hg).1)), S4.out.b, by decide, by decide⟩
  by_cases h4 : k = 4
  ·subst h4
   go_upto_region 27 with fail
   refine wp_region_t [(0, 1), (1, 2), (2, 1), (3, 0), (4, 0), (5, 1), (6, 0), (7, 0), (8, 1), (9, 0), (10, 1)] (fun _ => True) [(9, (fun w' => w'.cell? ⟨Bm, 6, none⟩ = some (.slice (some ⟨g6, 0, none⟩) 1 1)))] [9] rfl (by kernel_rfl) (by kernel_rfl) (fun _ _ d _ _ h => by cases d <;> exact h) trivial (fun p hp => by obtain rfl := List.mem_singleton.1 hp; exact S3.out.drew.x.cell 6) ?_
   have S4 := zh S3.out.drew
   generalize w3.drew = w4 at S4 ⊢
   repeat (first | (refine ts_take (v := ?_) rfl rfl (fun w' hw' => ?_) ?_; rotate_left; (focus (have q0 := hw'; (try simp only [Act.put, sA, sB, sC]); go_simp; (try go_bits); (try (with_reducible rfl)))); (try simp only [Act.put, sA, sB, sC])) | (refine ts_take2 (v := ?_) rfl rfl (fun w' hw' hst => ?_) ?_; rotate_left; (focus (have q0 := hst.one rfl; (try simp only [Act.put, sA, sB, sC]); go_simp; (try go_bits); (try (with_reducible rfl)))); (try simp only [Act.put, sA, sB, sC])))
   refine ts_run1 rfl rfl (fun K hK => ?_)
   refine wp_mk (t := 49) (e := 5) (zs := (u8c 0)) _ _ rfl Tryz.underlying49 infz_u8 (by decide) rfl rfl (by show N * 1 ≤ 16777216; omega) (by omega) (by omega) (fun w5 hb5 hl5 => ?_)
   obtain ⟨gl, hg5⟩ : ∃ g, g = w4.heap.size := ⟨_, rfl⟩
   rw [← hg5] at hl5 ⊢
   have S5 := zh (S4.out.grow hb5)
   have L5 := zh hl5
   clear hb5 hl5 hg5
   refine hK.out _ _ trivial (still_one (.inr (S5.out.x.cell 6))) ?_
   clear hK K
   (try simp only [Act.put, sA, sB, sC])
   refine ts_run1 rfl rfl (fun K hK => ?_)
   refine wp_cnv (sl_u8s L5.out) _ rfl rfl ?_
   refine hK.out _ _ trivial (still_one (.inr (S5.out.x.cell 6))) ?_
   clear hK K
   (try simp only [Act.put, sA, sB, sC])
   repeat (first | (refine ts_take (v := ?_) rfl rfl (fun w' hw' => ?_) ?_; rotate_left; (focus (have q0 := hw'; (try simp only [Act.put, sA, sB, sC]); go_simp; (try go_bits); (try (with_reducible rfl)))); (try simp only [Act.put, sA, sB, sC])))
   refine ts_run1 rfl rfl (fun K hK => ?_)
   refine wp_bsN (e := 61) (d := 91) rfl rfl (⟨bst (List.replicate N 0), 0, 0⟩ : Exp).cs (fun w => by kernel_rfl) (fun w6 hb6 hl6 => ?_)
   obtain ⟨gb, hg6⟩ : ∃ g, g = w5.heap.size := ⟨_, rfl⟩
   rw [← hg6] at hl6 ⊢
   have S6 := zh (S5.out.grow hb6)
   have L6 := zh hl6
   clear hb6 hl6 hg6
   refine hK.out _ _ trivial (still_one (.inr (S6.out.x.cell 6))) ?_
   clear hK K
   (try simp only [Act.put, sA, sB, sC])
   refine ts_run1 rfl rfl (fun K hK => ?_)
   refine wp_app (by_ := 24) _ _ rfl Tryz.underlying27 inf_ex (by decide) rfl (row_lies (n := 1) (sz := 3) (lies_frT HG.out.e S6.out.f (by decide)) HGB.out.2.2.2.2.2 rfl (by unfold maxLen; omega)) Exp.len rfl (sl_one L6.out) (fun y hy u hu => by obtain rfl := List.mem_singleton.1 hy; simp [Exp.cs] at hu; rcases hu with rfl | rfl | rfl <;> rfl) (by unfold maxLen; simp <;> omega) (by simp <;> omega) S6.out.b.size (fun v7 w7 hr7 hg7 hv7 => ?_)
   have S7 := zh (S6.out.row (row_lies (n := 1) (sz := 3) (lies_frT HG.out.e S6.out.f (by decide)) HGB.out.2.2.2.2.2 rfl (by unfold maxLen; omega)) hg7 (by decide))
   have HV7 := zh (row_cells hr7)
   have R7 := zh hr7
   clear hr7 hg7 hv7
   refine hK.out _ _ trivial (still_one (.inr (S7.out.x.cell 6))) ?_
   clear hK K
   (try simp only [Act.put, sA, sB, sC])
   repeat (first | (refine ts_take (v := ?_) rfl rfl (fun w' hw' => ?_) ?_; rotate_left; (focus (have q0 := hw'; (try simp only [Act.put, sA, sB, sC]); go_simp; (try go_bits); (try (with_reducible rfl)))); (try simp only [Act.put, sA, sB, sC])))
   refine ts_run1 rfl rfl (fun K hK => ?_)
   refine wp_fld (c0 := (mQ g1 g2 g3 g4 g5 g6 [cod0]).cs) S7.out.x _ _ rfl rfl rfl [v7] (modQ (.slice (some ⟨g3, 0, none⟩) 3 3) (typW g1 g2) (.slice (some ⟨g4, 0, none⟩) 1 1) [0] nilV [] nilV [] nilV [] v7 [exp0, (⟨bst (List.replicate N 0), 0, 0⟩ : Exp)] (.slice (some ⟨g5, 0, none⟩) 1 1) [cod0]).cs HV7.out.1 (by kernel_rfl) (by intro u hu; obtain rfl := List.mem_singleton.1 hu; exact HV7.out.2) (by simp [modQ, Mod.cs]) rfl (fun w8 hl8 hf8 => ?_)
   have R8 := zh (row_frT R7.out (FrT.field S7.out.x hf8) (by decide))
   have S8 := zh (S7.out.set (m' := (modQ (.slice (some ⟨g3, 0, none⟩) 3 3) (typW g1 g2) (.slice (some ⟨g4, 0, none⟩) 1 1) [0] nilV [] nilV [] nilV [] v7 [exp0, (⟨bst (List.replicate N 0), 0, 0⟩ : Exp)] (.slice (some ⟨g5, 0, none⟩) 1 1) [cod0])) hl8 hf8)
   clear hl8 hf8
   refine hK.out _ _ trivial (still_one (.inl rfl)) ?_
   clear hK K
   (try simp only [Act.put])
   repeat (first | (refine ts_take (v := ?_) rfl rfl (fun w' hw' => ?_) ?_; rotate_left; (focus (have q0 := hw'; (try simp only [Act.put, sA, sB, sC]); go_simp; (try go_bits); (try (with_reducible rfl)))); (try simp only [Act.put, sA, sB, sC])))
   refine ts_done ?_
   go_wp2_with fail
   go_meet
   exact ⟨(modQ (.slice (some ⟨g3, 0, none⟩) 3 3) (typW g1 g2) (.slice (some ⟨g4, 0, none⟩) 1 1) [0] nilV [] nilV [] nilV [] v7 [exp0, (⟨bst (List.replicate N 0), 0, 0⟩ : Exp)] (.slice (some ⟨g5, 0, none⟩) 1 1) [cod0]), 64, 0, rfl, rfl, S8.out.x, modQ_ok (typ_ok (lies_frT HG.out.p S8.out.f (by decide)) (lies_frT HG.out.q S8.out.f (by decide)) (lies_frT HG.out.t S8.out.f (by decide))) (fun_ok (lies_frT HG.out.f S8.out.f (by decide))) nil_ok nil_ok nil_ok ⟨own_sl (L := [exp0, (⟨bst (List.replicate N 0), 0, 0⟩ : Exp)]) Exp.len R8.out, fun y hy => (by rcases List.mem_cons.1 hy with rfl | hy; exact ⟨(by show (0 : Nat) < 4294967296; decide), (by show (4 : Nat) ≤ 1048576; decide)⟩; obtain rfl := List.mem_singleton.1 hy; exact ⟨(by show (0 : Nat) < 4294967296; decide), (by show (List.replicate N (0 : UInt8)).toArray.size ≤ 1048576; simp; omega)⟩), (by show (2 : Nat) ≤ 1048576; decide)⟩ (cod_ok (lies_frT HG.out.c S8.out.f (by decide)) cod0_ok), rs4 _ _ _ _ _ _ _ N (by simp [nmL, bst]), S8.out.b, by decide, by decide⟩
  by_cases h5 : k = 5
  ·subst h5
   have x10 : w3.cell? ⟨Bm, 10, none⟩ = some (.slice (some ⟨g5, 0, none⟩) 1 1) := S3.out.x.cell 10
   have C3 := zh HG.out.c
   go_wp2_with (first | (refine wl_bsN (e := 82) (d := 101) rfl rfl (Gr.Loc.cs ⟨N, 126⟩) rfl (fun w => by kernel_rfl) (fun w4 hb4 hl4 => ?_); obtain ⟨gb, hg4⟩ : ∃ g, g = w3.heap.size := ⟨_, rfl⟩; rw [← hg4] at hl4 ⊢; have S4 := zh (S3.out.grow hb4); have L4 := zh hl4; have C4 := zh (C3.out.below hb4 C3.out.lt); clear hb4 hl4 hg4; (try simp only [Act.put, sA, sB, sC])) | (refine wl_fld (c0 := cod0.cs) C4.out _ _ rfl rfl rfl rfl [(.slice (some ⟨gb, 0, none⟩) 1 1)] (⟨(.slice (some ⟨gb, 0, none⟩) 1 1), [⟨N, 126⟩], nilV, []⟩ : Cod).cs rfl (by kernel_rfl) (by intro u hu; obtain rfl := List.mem_singleton.1 hu; rfl) (by simp [Cod.cs]) rfl (fun w5 hl5 hf5 => ?_); have L5 := zh (lies_frT L4.out (FrT.field C4.out hf5) (by decide)); have S5 := zh (S4.out.at C4.out hf5 (by decide) HGB.out.2.2.2.2.1); have C5 := zh hl5; clear hl5 hf5; (try simp only [Act.put])))
   go_meet
   exact ⟨(mQ g1 g2 g3 g4 g5 g6 [(⟨(.slice (some ⟨gb, 0, none⟩) 1 1), [⟨N, 126⟩], nilV, []⟩ : Cod)]), 256, 0, rfl, rfl, S5.out.x, modQ_ok (typ_ok (lies_frT HG.out.p S5.out.f (by decide)) (lies_frT HG.out.q S5.out.f (by decide)) (lies_frT HG.out.t S5.out.f (by decide))) (fun_ok (lies_frT HG.out.f S5.out.f (by decide))) nil_ok nil_ok nil_ok (exp_ok (lies_frT HG.out.e S5.out.f (by decide))) (cod_ok C5.out ⟨⟨sl_one (x := (⟨N, 126⟩ : Gr.Loc)) L5.out, fun y hy => (by obtain rfl := List.mem_singleton.1 hy; show N < 4294967296; omega), (by show (1 : Nat) ≤ 1048576; decide)⟩, nil_ok⟩), rs5 _ _ _ _ _ _ _ N, S5.out.b, by decide, by decide⟩
  by_cases h6 : k = 6
  ·subst h6
   have C3 := zh HG.out.c
   go_upto_region 31 with fail
   refine wp_region_t [(0, 1), (1, 1), (2, 1), (3, 0), (4, 1), (5, 1), (6, 0), (7, 1)] (fun w' => w'.cell? ⟨Bm, 10, none⟩ = some (.slice (some ⟨g5, 0, none⟩) 1 1)) [] [] rfl (by kernel_rfl) (by kernel_rfl) (fun _ _ d _ _ h => by cases d <;> exact h) (S3.out.drew.x.cell 10) (fun p hp => by cases hp) ?_
   have S4 := zh S3.out.drew
   have C4 := zh (C3.out.below (below_drew w3) C3.out.lt)
   generalize w3.drew = w4 at S4 C4 ⊢
   repeat (first | (refine ts_take (v := ?_) rfl rfl (fun w' hw' => ?_) ?_; rotate_left; (focus (have q0 := hw'; (try simp only [Act.put, sA, sB, sC]); go_simp; (try go_bits); (try (with_reducible rfl)))); (try simp only [Act.put, sA, sB, sC])))
   refine ts_run1 rfl rfl (fun K hK => ?_)
   refine wp_mk (t := 46) (e := 57) (zs := unr0.cs) _ _ rfl Tryz.underlying46 infz_in (by decide) rfl rfl (by show N * 5 ≤ 16777216; omega) (by omega) (by omega) (fun w5 hb5 hl5 => ?_)
   obtain ⟨gb, hg5⟩ : ∃ g, g = w4.heap.size := ⟨_, rfl⟩
   rw [← hg5] at hl5 ⊢
   have S5 := zh (S4.out.grow hb5)
   have L5 := zh hl5
   have C5 := zh (C4.out.below hb5 C4.out.lt)
   have HGb := zh (show W.heap.size ≤ gb from by rw [hg5]; exact S4.out.b.size)
   clear hb5 hl5 hg5
   refine hK.out _ _ (S5.out.x.cell 10) (still_none _ _) ?_
   clear hK K
   (try simp only [Act.put, sA, sB, sC])
   repeat (first | (refine ts_take (v := ?_) rfl rfl (fun w' hw' => ?_) ?_; rotate_left; (focus (have q0 := hw'; (try simp only [Act.put, sA, sB, sC]); go_simp; (try go_bits); (try (with_reducible rfl)))); (try simp only [Act.put, sA, sB, sC])))
   refine ts_run1 rfl rfl (fun K hK => ?_)
   refine wp_fld (c0 := cod0.cs) C5.out _ _ rfl rfl rfl [(.slice (some ⟨gb, 0, none⟩) N N)] (⟨nilV, [], (.slice (some ⟨gb, 0, none⟩) N N), []⟩ : Cod).cs rfl (by kernel_rfl) (by intro u hu; obtain rfl := List.mem_singleton.1 hu; exact rfl) (by simp [Cod.cs]) rfl (fun w6 hl6 hf6 => ?_)
   have L6 := zh (lies_frT L5.out (FrT.field C5.out hf6) (by decide))
   have S6 := zh (S5.out.at C5.out hf6 (by decide) HGB.out.2.2.2.2.1)
   have C6 := zh hl6
   clear hl6 hf6
   refine hK.out _ _ (S6.out.x.cell 10) (still_none _ _) ?_
   clear hK K
   (try simp only [Act.put])
   repeat (first | (refine ts_take (v := ?_) rfl rfl (fun w' hw' => ?_) ?_; rotate_left; (focus (have q0 := hw'; (try simp only [Act.put, sA, sB, sC]); go_simp; (try go_bits); (try (with_reducible rfl)))); (try simp only [Act.put, sA, sB, sC])))
   refine ts_done ?_
   have J6 := zh (show Stg W w3 [48, 57] Bm (mQ g1 g2 g3 g4 g5 g6 [cod0]) w6 ∧ Lies w6 g5 48 (⟨nilV, [], (.slice (some ⟨gb, 0, none⟩) N N), []⟩ : Cod).cs.toArray ∧ Lies w6 gb 57 ((List.replicate 0 nop0 ++ List.replicate (N - 0) unr0).flatMap Ins.cs).toArray from ⟨S6.out.sub (by decide), C6.out, by rw [Nat.sub_zero, List.replicate_zero, List.nil_append, show (List.replicate N unr0).flatMap Ins.cs = (List.replicate N unr0.cs).flatten from by rw [List.flatMap, List.map_replicate]]; exact L6.out⟩)
   clear S4 S5 S6 C4 C5 C6 L5 L6
   go_wp2_with fail
   go_loopw [113] (fun iv wr => ∃ i : Nat, i ≤ N ∧ iv = .int .i64 i ∧ Stg W w3 [48, 57] Bm (mQ g1 g2 g3 g4 g5 g6 [cod0]) wr ∧ Lies wr g5 48 (⟨nilV, [], (.slice (some ⟨gb, 0, none⟩) N N), []⟩ : Cod).cs.toArray ∧ Lies wr gb 57 ((List.replicate i nop0 ++ List.replicate (N - i) unr0).flatMap Ins.cs).toArray) (fun iv _ => N - (RowKit.intOf iv).toNat)
   case atStart => exact ⟨0, Nat.zero_le _, rfl, J6.out⟩
   case round =>
    obtain ⟨i, hi, rfl, hs, hc, hl⟩ := hrel
    have S7 := zh hs
    have C7 := zh hc
    have L7 := zh hl
    clear hs hc hl
    by_cases hlt : i < N
    ·have x10 : wr.cell? ⟨Bm, 10, none⟩ = some (.slice (some ⟨g5, 0, none⟩) 1 1) := S7.out.x.cell 10
     have y1 : wr.cell? ⟨g5, 1, none⟩ = some (.slice (some ⟨gb, 0, none⟩) N N) := C7.out.cell 1
     have hlt2 : (i : Int) < (N : Int) := by omega
     go_wp2_with (refine wl_fld (c0 := ((List.replicate i nop0 ++ List.replicate (N - i) unr0).flatMap Ins.cs)) (o := i * 5) L7.out _ _ rfl rfl rfl rfl [.int .u8 1] ((List.replicate (i + 1) nop0 ++ List.replicate (N - (i + 1)) unr0).flatMap Ins.cs) rfl (by kernel_rfl) (by intro u hu; obtain rfl := List.mem_singleton.1 hu; rfl) (nop_len hlt) (nop_at hlt) (fun w8 hl8 hf8 => ?_); have S8 := zh (S7.out.at L7.out hf8 (by decide) HGb.out); have C8 := zh (lies_frT C7.out (FrT.field L7.out hf8) (by decide)); have L8 := zh hl8; clear hl8 hf8; (try simp only [Act.put]))
     go_roundw
     case rel => exact ⟨i + 1, hlt, by go_num, S8.out.sub (by decide), C8.out, L8.out⟩
     case measure => simp [RowKit.intOf]; omega
    ·have HIN := zh (show i = N from by omega)
     have hge : ¬ (i : Int) < (N : Int) := by omega
     have L9 := zh (show Lies wr gb 57 ((List.replicate N nop0).flatMap Ins.cs).toArray from by have h := L7.out; rw [HIN.out, Nat.sub_self, List.replicate_zero, List.append_nil] at h; exact h)
     have S9 := S7
     go_wp2_with fail
     go_meet
     exact ⟨(mQ g1 g2 g3 g4 g5 g6 [(⟨nilV, [], (.slice (some ⟨gb, 0, none⟩) N N), List.replicate N nop0⟩ : Cod)]), 8192, 0, rfl, rfl, S9.out.x, modQ_ok (typ_ok (lies_frT HG.out.p S9.out.f (by decide)) (lies_frT HG.out.q S9.out.f (by decide)) (lies_frT HG.out.t S9.out.f (by decide))) (fun_ok (lies_frT HG.out.f S9.out.f (by decide))) nil_ok nil_ok nil_ok (exp_ok (lies_frT HG.out.e S9.out.f (by decide))) (cod_ok (c := (⟨nilV, [], (.slice (some ⟨gb, 0, none⟩) N N), List.replicate N nop0⟩ : Cod)) C7.out ⟨nil_ok, nops_sl L9.out, fun y hy => (by rw [List.eq_of_mem_replicate hy]; exact ins_nil (by decide)), by rw [List.length_replicate]; show N ≤ 1048576; omega⟩), rs6 _ _ _ _ _ _ _ N, S9.out.b, by decide, by decide⟩
  by_cases h7 : k = 7
  ·subst h7
   have J3 := zh (show Stg W w3 [57, 48] Bm (mQ g1 g2 g3 g4 g5 g6 [cod0]) w3 ∧ Lies w3 g5 48 (⟨nilV, [], nilV, []⟩ : Cod).cs.toArray ∧ Sl w3 5 Ins.cs nilV (BE 0) from ⟨S3.out.sub (by simp), HG.out.c, Sl.nil _ _ _ _⟩)
   go_wp2_with fail
   go_loopw [128] (fun iv wr => ∃ (i : Nat) (bv : Value), i ≤ N ∧ 2 * i ≤ 400 ∧ iv = .int .i64 i ∧ Stg W w3 [57, 48] Bm (mQ g1 g2 g3 g4 g5 g6 [cod0]) wr ∧ Lies wr g5 48 (⟨nilV, [], bv, []⟩ : Cod).cs.toArray ∧ Sl wr 5 Ins.cs bv (BE i)) (fun iv _ => N - (RowKit.intOf iv).toNat)
   case atStart => exact ⟨0, nilV, Nat.zero_le _, by decide, rfl, J3.out⟩
   case round =>
    obtain ⟨i, bv, hi, hi4, rfl, hs, hc, hb⟩ := hrel
    obtain ⟨w4, hw4⟩ : ∃ w4, w4 = wr := ⟨_, rfl⟩
    rw [← hw4] at hs hc hb ⊢
    clear hw4
    have S4 := zh hs
    have C4 := zh hc
    have B4 := zh hb
    clear hs hc hb
    by_cases hlt : i < N
    ·have hlt2 : (i : Int) < (N : Int) := by omega
     go_upto_region 41 with fail
     refine wp_region_f (.step 0 1 (.step 1 1 (.step 2 1 (.step 4 1 (.step 5 1 (.step 6 1 (.step 7 1 (.step 8 2 (.step 10 1 (.fork 3 (.fork 9 (.step 11 0 (.step 12 0 (.step 13 1 (.step 14 1 (.step 15 0 .done))))) 11 (.step 9 0 (.step 12 0 (.step 13 1 (.step 14 1 (.step 15 0 .done)))))) 11 (.step 3 0 (.step 9 0 (.step 12 0 (.step 13 1 (.step 14 1 (.step 15 0 .done)))))))))))))))) (fun w' => w'.cell? ⟨Bm, 10, none⟩ = some (.slice (some ⟨g5, 0, none⟩) 1 1)) [(15, fun w' => w'.cell? ⟨g5, 1, none⟩ = some bv)] [15] rfl (by kernel_rfl) (by kernel_rfl) (fun _ _ d _ _ h => by cases d <;> exact h) (S4.out.drew.x.cell 10) (fun p hp => by obtain rfl := List.mem_singleton.1 hp; exact (C4.out.below (below_drew w4) C4.out.lt).cell 1) ?_
     have S5 := zh S4.out.drew
     have C5 := zh (C4.out.below (below_drew w4) C4.out.lt)
     have B5 := zh (B4.out.later (below_drew w4))
     generalize w4.drew = w5 at S5 C5 B5 ⊢
     repeat (first | (refine fs_take (v := ?_) rfl rfl (fun w' hw' => ?_) ?_; rotate_left; (focus (have q0 := hw'; (try simp only [Act.put, sA, sB, sC]); go_simp; (try go_bits); (try (with_reducible rfl)))); (try simp only [Act.put, sA, sB, sC])) | (refine fs_take2 (v := ?_) rfl rfl (fun w' hw' hst => ?_) ?_; rotate_left; (focus (have q0 := hst.one rfl; (try simp only [Act.put, sA, sB, sC]); go_simp; (try go_bits); (try (with_reducible rfl)))); (try simp only [Act.put, sA, sB, sC])))
     refine fs_fork rfl rfl rfl rfl (fun K hK => ?_) (fun K hK => ?_)
     ·skip
      refine wp_bsN (e := 57) (d := 133) rfl rfl blk0.cs (fun w => by kernel_rfl) (fun w6 hb6 hl6 => ?_)
      obtain ⟨ga, hg6⟩ : ∃ g, g = w5.heap.size := ⟨_, rfl⟩
      have HGa := zh (show W.heap.size ≤ ga from by rw [hg6]; exact S5.out.b.size)
      rw [← hg6] at hl6 ⊢
      have S6 := zh (S5.out.grow hb6)
      have C6 := zh (C5.out.below hb6 C5.out.lt)
      have B6 := zh (B5.out.later hb6)
      have A6 := zh hl6
      clear hb6 hl6 hg6
      refine hK.out _ _ (S6.out.x.cell 10) (still_one (.inr (C6.out.cell 1))) ?_
      clear hK K
      (try simp only [Act.put, sA, sB, sC])
      refine fs_fork rfl rfl rfl rfl (fun K hK => ?_) (fun K hK => ?_)
      ·skip
       refine wp_app (by_ := 48) _ _ rfl Tryz.underlying46 inf_in (by decide) rfl (row_lies (n := 1) (sz := 5) A6.out HGa.out rfl (by unfold maxLen; omega)) Ins.len rfl B6.out (fun y hy => by rcases BE_lv hy with rfl | rfl <;> exact ins_one rfl) (by rw [BE_len]; unfold maxLen; omega) (by rw [BE_len]; omega) S6.out.b.size (fun v7 w7 hr7 hg7 hv7 => ?_)
       have S7 := zh (S6.out.row (row_lies (n := 1) (sz := 5) A6.out HGa.out rfl (by unfold maxLen; omega)) hg7 (by decide))
       have C7 := zh (lies_frT C6.out (FrT.grown (row_lies (n := 1) (sz := 5) A6.out HGa.out rfl (by unfold maxLen; omega)) hg7) (by decide))
       have V7 := zh hr7
       obtain ⟨va, hva⟩ : ∃ va, va = v7 := ⟨_, rfl⟩
       rw [← hva] at V7 ⊢
       clear hr7 hg7 hv7 hva
       refine hK.out _ _ (S7.out.x.cell 10) (still_one (.inr (C7.out.cell 1))) ?_
       clear hK K
       (try simp only [Act.put, sA, sB, sC])
       refine fs_run1 rfl rfl (fun K hK => ?_)
       refine wp_bsN (e := 57) (d := 141) rfl rfl end0.cs (fun w => by kernel_rfl) (fun w8 hb8 hl8 => ?_)
       obtain ⟨gb, hg8⟩ : ∃ g, g = w7.heap.size := ⟨_, rfl⟩
       rw [← hg8] at hl8 ⊢
       have S8 := zh (S7.out.grow hb8)
       have C8 := zh (C7.out.below hb8 C7.out.lt)
       have V8 := zh (ownsRow_keep V7.out hb8)
       have E8 := zh hl8
       clear hb8 hl8 hg8
       refine hK.out _ _ (S8.out.x.cell 10) (still_one (.inr (C8.out.cell 1))) ?_
       clear hK K
       (try simp only [Act.put, sA, sB, sC])
       refine fs_run1 rfl rfl (fun K hK => ?_)
       refine wp_app (by_ := 48) _ _ rfl Tryz.underlying46 inf_in (by decide) rfl V8.out Ins.len rfl (sl_one E8.out) (fun y hy u hu => by obtain rfl := List.mem_singleton.1 hy; exact ins_one rfl u hu) (by rw [BE_len]; unfold maxLen; simp <;> omega) (by rw [BE_len]; simp <;> omega) S8.out.b.size (fun v9 w9 hr9 hg9 hv9 => ?_)
       have S9 := zh (S8.out.row V8.out hg9 (by decide))
       have C9 := zh (lies_frT C8.out (FrT.grown V8.out hg9) (by decide))
       have V9 := zh (be_row hr9)
       have HV9 := zh (row_cells hr9)
       clear hr9 hg9 hv9
       refine hK.out _ _ (S9.out.x.cell 10) (still_one (.inr (C9.out.cell 1))) ?_
       clear hK K
       (try simp only [Act.put, sA, sB, sC])
       repeat (first | (refine fs_take (v := ?_) rfl rfl (fun w' hw' => ?_) ?_; rotate_left; (focus (have q0 := hw'; (try simp only [Act.put, sA, sB, sC]); go_simp; (try go_bits); (try (with_reducible rfl)))); (try simp only [Act.put, sA, sB, sC])))
       refine fs_run1 rfl rfl (fun K hK => ?_)
       refine wp_fld (c0 := (⟨nilV, [], bv, []⟩ : Cod).cs) C9.out _ _ rfl rfl rfl [v9] (⟨nilV, [], v9, []⟩ : Cod).cs HV9.out.1 (by kernel_rfl) (by intro u hu; obtain rfl := List.mem_singleton.1 hu; exact HV9.out.2) (by simp [Cod.cs]) rfl (fun w10 hl10 hf10 => ?_)
       have V10 := zh (row_frT V9.out (FrT.field C9.out hf10) (by decide))
       have S10 := zh (S9.out.at C9.out hf10 (by decide) HGB.out.2.2.2.2.1)
       have C10 := zh hl10
       clear hl10 hf10
       refine hK.out _ _ (S10.out.x.cell 10) (still_one (.inl rfl)) ?_
       clear hK K
       (try simp only [Act.put])
       refine fs_done ?_
       obtain ⟨s, cap, hv, _, _⟩ := row_form V10.out
       subst hv
       have x10 : w10.cell? ⟨Bm, 10, none⟩ = some (.slice (some ⟨g5, 0, none⟩) 1 1) := S10.out.x.cell 10
       have y1 : w10.cell? ⟨g5, 1, none⟩ = some (.slice s (2 * (i + 1)) cap) := C10.out.cell 1
       by_cases h4 : 400 < 2 * (i + 1)
       ·have h42 : (400 : Int) < ((2 * (i + 1) : Nat) : Int) := by omega
        go_wp2_with fail
        go_ret
        exact ⟨rfl, S10.out.b⟩
       ·have h42 : ¬ (400 : Int) < ((2 * (i + 1) : Nat) : Int) := by omega
        go_wp2_with fail
        go_roundw
        case rel => exact ⟨i + 1, .slice s (2 * (i + 1)) cap, hlt, by omega, by go_num, S10.out.sub (by simp), C10.out, own_sl Ins.len (by rw [BE_len]; exact V10.out)⟩
        case measure => simp [RowKit.intOf]; omega
      ·skip
       refine wp_bsN (e := 57) (d := 141) rfl rfl end0.cs (fun w => by kernel_rfl) (fun w7 hb7 hl7 => ?_)
       obtain ⟨gb, hg7⟩ : ∃ g, g = w6.heap.size := ⟨_, rfl⟩
       have HNE := zh (show ¬ gb = ga from fun e => by have := A6.out.lt; omega)
       rw [← hg7] at hl7 ⊢
       have S7 := zh (S6.out.grow hb7)
       have C7 := zh (C6.out.below hb7 C6.out.lt)
       have B7 := zh (B6.out.later hb7)
       have A7 := zh (A6.out.below hb7 A6.out.lt)
       have E7 := zh hl7
       clear hb7 hl7 hg7
       refine hK.out _ _ (S7.out.x.cell 10) (still_one (.inr (C7.out.cell 1))) ?_
       clear hK K
       (try simp only [Act.put, sA, sB, sC])
       refine fs_run1 rfl rfl (fun K hK => ?_)
       refine wp_app (by_ := 48) _ _ rfl Tryz.underlying46 inf_in (by decide) rfl (row_lies (n := 1) (sz := 5) A7.out HGa.out rfl (by unfold maxLen; omega)) Ins.len rfl B7.out (fun y hy => by rcases BE_lv hy with rfl | rfl <;> exact ins_one rfl) (by rw [BE_len]; unfold maxLen; omega) (by rw [BE_len]; omega) S7.out.b.size (fun v8 w8 hr8 hg8 hv8 => ?_)
       have S8 := zh (S7.out.row (row_lies (n := 1) (sz := 5) A7.out HGa.out rfl (by unfold maxLen; omega)) hg8 (by decide))
       have C8 := zh (lies_frT C7.out (FrT.grown (row_lies (n := 1) (sz := 5) A7.out HGa.out rfl (by unfold maxLen; omega)) hg8) (by decide))
       have V8 := zh hr8
       have E8 := zh (E7.out.kept hg8 (fun e => HNE.out (Option.some.inj e)))
       obtain ⟨va, hva⟩ : ∃ va, va = v8 := ⟨_, rfl⟩
       rw [← hva] at V8 ⊢
       clear hr8 hg8 hv8 hva
       refine hK.out _ _ (S8.out.x.cell 10) (still_one (.inr (C8.out.cell 1))) ?_
       clear hK K
       (try simp only [Act.put, sA, sB, sC])
       refine fs_run1 rfl rfl (fun K hK => ?_)
       refine wp_app (by_ := 48) _ _ rfl Tryz.underlying46 inf_in (by decide) rfl V8.out Ins.len rfl (sl_one E8.out) (fun y hy u hu => by obtain rfl := List.mem_singleton.1 hy; exact ins_one rfl u hu) (by rw [BE_len]; unfold maxLen; simp <;> omega) (by rw [BE_len]; simp <;> omega) S8.out.b.size (fun v9 w9 hr9 hg9 hv9 => ?_)
       have S9 := zh (S8.out.row V8.out hg9 (by decide))
       have C9 := zh (lies_frT C8.out (FrT.grown V8.out hg9) (by decide))
       have V9 := zh (be_row hr9)
       have HV9 := zh (row_cells hr9)
       clear hr9 hg9 hv9
       refine hK.out _ _ (S9.out.x.cell 10) (still_one (.inr (C9.out.cell 1))) ?_
       clear hK K
       (try simp only [Act.put, sA, sB, sC])
       repeat (first | (refine fs_take (v := ?_) rfl rfl (fun w' hw' => ?_) ?_; rotate_left; (focus (have q0 := hw'; (try simp only [Act.put, sA, sB, sC]); go_simp; (try go_bits); (try (with_reducible rfl)))); (try simp only [Act.put, sA, sB, sC])))
       refine fs_run1 rfl rfl (fun K hK => ?_)
       refine wp_fld (c0 := (⟨nilV, [], bv, []⟩ : Cod).cs) C9.out _ _ rfl rfl rfl [v9] (⟨nilV, [], v9, []⟩ : Cod).cs HV9.out.1 (by kernel_rfl) (by intro u hu; obtain rfl := List.mem_singleton.1 hu; exact HV9.out.2) (by simp [Cod.cs]) rfl (fun w10 hl10 hf10 => ?_)
       have V10 := zh (row_frT V9.out (FrT.field C9.out hf10) (by decide))
       have S10 := zh (S9.out.at C9.out hf10 (by decide) HGB.out.2.2.2.2.1)
       have C10 := zh hl10
       clear hl10 hf10
       refine hK.out _ _ (S10.out.x.cell 10) (still_one (.inl rfl)) ?_
       clear hK K
       (try simp only [Act.put])
       refine fs_done ?_
       obtain ⟨s, cap, hv, _, _⟩ := row_form V10.out
       subst hv
       have x10 : w10.cell? ⟨Bm, 10, none⟩ = some (.slice (some ⟨g5, 0, none⟩) 1 1) := S10.out.x.cell 10
       have y1 : w10.cell? ⟨g5, 1, none⟩ = some (.slice s (2 * (i + 1)) cap) := C10.out.cell 1
       by_cases h4 : 400 < 2 * (i + 1)
       ·have h42 : (400 : Int) < ((2 * (i + 1) : Nat) : Int) := by omega
        go_wp2_with fail
        go_ret
        exact ⟨rfl, S10.out.b⟩
       ·have h42 : ¬ (400 : Int) < ((2 * (i + 1) : Nat) : Int) := by omega
        go_wp2_with fail
        go_roundw
        case rel => exact ⟨i + 1, .slice s (2 * (i + 1)) cap, hlt, by omega, by go_num, S10.out.sub (by simp), C10.out, own_sl Ins.len (by rw [BE_len]; exact V10.out)⟩
        case measure => simp [RowKit.intOf]; omega
     ·skip
      refine wp_bsN (e := 57) (d := 141) rfl rfl end0.cs (fun w => by kernel_rfl) (fun w6 hb6 hl6 => ?_)
      obtain ⟨gb, hg6⟩ : ∃ g, g = w5.heap.size := ⟨_, rfl⟩
      rw [← hg6] at hl6 ⊢
      have S6 := zh (S5.out.grow hb6)
      have C6 := zh (C5.out.below hb6 C5.out.lt)
      have B6 := zh (B5.out.later hb6)
      have E6 := zh hl6
      clear hb6 hl6 hg6
      refine hK.out _ _ (S6.out.x.cell 10) (still_one (.inr (C6.out.cell 1))) ?_
      clear hK K
      (try simp only [Act.put, sA, sB, sC])
      refine fs_run1 rfl rfl (fun K hK => ?_)
      refine wp_bsN (e := 57) (d := 133) rfl rfl blk0.cs (fun w => by kernel_rfl) (fun w7 hb7 hl7 => ?_)
      obtain ⟨ga, hg7⟩ : ∃ g, g = w6.heap.size := ⟨_, rfl⟩
      have HGa := zh (show W.heap.size ≤ ga from by rw [hg7]; exact S6.out.b.size)
      have HNE := zh (show ¬ gb = ga from fun e => by have := E6.out.lt; omega)
      rw [← hg7] at hl7 ⊢
      have S7 := zh (S6.out.grow hb7)
      have C7 := zh (C6.out.below hb7 C6.out.lt)
      have B7 := zh (B6.out.later hb7)
      have E7 := zh (E6.out.below hb7 E6.out.lt)
      have A7 := zh hl7
      clear hb7 hl7 hg7
      refine hK.out _ _ (S7.out.x.cell 10) (still_one (.inr (C7.out.cell 1))) ?_
      clear hK K
      (try simp only [Act.put, sA, sB, sC])
      refine fs_run1 rfl rfl (fun K hK => ?_)
      refine wp_app (by_ := 48) _ _ rfl Tryz.underlying46 inf_in (by decide) rfl (row_lies (n := 1) (sz := 5) A7.out HGa.out rfl (by unfold maxLen; omega)) Ins.len rfl B7.out (fun y hy => by rcases BE_lv hy with rfl | rfl <;> exact ins_one rfl) (by rw [BE_len]; unfold maxLen; omega) (by rw [BE_len]; omega) S7.out.b.size (fun v8 w8 hr8 hg8 hv8 => ?_)
      have S8 := zh (S7.out.row (row_lies (n := 1) (sz := 5) A7.out HGa.out rfl (by unfold maxLen; omega)) hg8 (by decide))
      have C8 := zh (lies_frT C7.out (FrT.grown (row_lies (n := 1) (sz := 5) A7.out HGa.out rfl (by unfold maxLen; omega)) hg8) (by decide))
      have V8 := zh hr8
      have E8 := zh (E7.out.kept hg8 (fun e => HNE.out (Option.some.inj e)))
      obtain ⟨va, hva⟩ : ∃ va, va = v8 := ⟨_, rfl⟩
      rw [← hva] at V8 ⊢
      clear hr8 hg8 hv8 hva
      refine hK.out _ _ (S8.out.x.cell 10) (still_one (.inr (C8.out.cell 1))) ?_
      clear hK K
      (try simp only [Act.put, sA, sB, sC])
      refine fs_run1 rfl rfl (fun K hK => ?_)
      refine wp_app (by_ := 48) _ _ rfl Tryz.underlying46 inf_in (by decide) rfl V8.out Ins.len rfl (sl_one E8.out) (fun y hy u hu => by obtain rfl := List.mem_singleton.1 hy; exact ins_one rfl u hu) (by rw [BE_len]; unfold maxLen; simp <;> omega) (by rw [BE_len]; simp <;> omega) S8.out.b.size (fun v9 w9 hr9 hg9 hv9 => ?_)
      have S9 := zh (S8.out.row V8.out hg9 (by decide))
      have C9 := zh (lies_frT C8.out (FrT.grown V8.out hg9) (by decide))
      have V9 := zh (be_row hr9)
      have HV9 := zh (row_cells hr9)
      clear hr9 hg9 hv9
      refine hK.out _ _ (S9.out.x.cell 10) (still_one (.inr (C9.out.cell 1))) ?_
      clear hK K
      (try simp only [Act.put, sA, sB, sC])
      repeat (first | (refine fs_take (v := ?_) rfl rfl (fun w' hw' => ?_) ?_; rotate_left; (focus (have q0 := hw'; (try simp only [Act.put, sA, sB, sC]); go_simp; (try go_bits); (try (with_reducible rfl)))); (try simp only [Act.put, sA, sB, sC])))
      refine fs_run1 rfl rfl (fun K hK => ?_)
      refine wp_fld (c0 := (⟨nilV, [], bv, []⟩ : Cod).cs) C9.out _ _ rfl rfl rfl [v9] (⟨nilV, [], v9, []⟩ : Cod).cs HV9.out.1 (by kernel_rfl) (by intro u hu; obtain rfl := List.mem_singleton.1 hu; exact HV9.out.2) (by simp [Cod.cs]) rfl (fun w10 hl10 hf10 => ?_)
      have V10 := zh (row_frT V9.out (FrT.field C9.out hf10) (by decide))
      have S10 := zh (S9.out.at C9.out hf10 (by decide) HGB.out.2.2.2.2.1)
      have C10 := zh hl10
      clear hl10 hf10
      refine hK.out _ _ (S10.out.x.cell 10) (still_one (.inl rfl)) ?_
      clear hK K
      (try simp only [Act.put])
      refine fs_done ?_
      obtain ⟨s, cap, hv, _, _⟩ := row_form V10.out
      subst hv
      have x10 : w10.cell? ⟨Bm, 10, none⟩ = some (.slice (some ⟨g5, 0, none⟩) 1 1) := S10.out.x.cell 10
      have y1 : w10.cell? ⟨g5, 1, none⟩ = some (.slice s (2 * (i + 1)) cap) := C10.out.cell 1
      by_cases h4 : 400 < 2 * (i + 1)
      ·have h42 : (400 : Int) < ((2 * (i + 1) : Nat) : Int) := by omega
       go_wp2_with fail
       go_ret
       exact ⟨rfl, S10.out.b⟩
      ·have h42 : ¬ (400 : Int) < ((2 * (i + 1) : Nat) : Int) := by omega
       go_wp2_with fail
       go_roundw
       case rel => exact ⟨i + 1, .slice s (2 * (i + 1)) cap, hlt, by omega, by go_num, S10.out.sub (by simp), C10.out, own_sl Ins.len (by rw [BE_len]; exact V10.out)⟩
       case measure => simp [RowKit.intOf]; omega
    ·have HIN := zh (show i = N from by omega)
     have hge : ¬ (i : Int) < (N : Int) := by omega
     have T4 := zh (show Sl w4 5 Ins.cs bv (List.replicate N blk0 ++ List.replicate N end0) from by rw [← HIN.out]; exact B4.out)
     go_wp2_with fail
     go_meet
     exact ⟨(mQ g1 g2 g3 g4 g5 g6 [(⟨nilV, [], bv, List.replicate N blk0 ++ List.replicate N end0⟩ : Cod)]), 64, 0, rfl, rfl, S4.out.x, modQ_ok (typ_ok (lies_frT HG.out.p S4.out.f (by decide)) (lies_frT HG.out.q S4.out.f (by decide)) (lies_frT HG.out.t S4.out.f (by decide))) (fun_ok (lies_frT HG.out.f S4.out.f (by decide))) nil_ok nil_ok nil_ok (exp_ok (lies_frT HG.out.e S4.out.f (by decide))) (cod_ok (c := (⟨nilV, [], bv, List.replicate N blk0 ++ List.replicate N end0⟩ : Cod)) C4.out ⟨nil_ok, T4.out, fun y hy => (by rcases List.mem_append.1 hy with hy | hy <;> (rw [List.eq_of_mem_replicate hy]; exact ins_nil (by decide))), by rw [List.length_append, List.length_replicate, List.length_replicate]; show N + N ≤ 1048576; omega⟩), rs7 _ _ _ _ _ _ _ N (by omega), S4.out.b, by decide, by decide⟩
  by_cases h8 : k = 8
  ·subst h8
   have J3 := zh (show Stg W w3 [57, 48] Bm (mQ g1 g2 g3 g4 g5 g6 [cod0]) w3 ∧ Lies w3 g5 48 (⟨nilV, [], nilV, []⟩ : Cod).cs.toArray ∧ w3.ownsRow W.heap.size 57 5 nilV 0 ((List.replicate 0 cst0).flatMap Ins.cs) from ⟨S3.out.sub (by simp), HG.out.c, World.ownsRow_nil _ _ _ _⟩)
   go_wp2_with fail
   go_loopw [156] (fun iv wr => ∃ (i : Nat) (bv : Value), i ≤ N ∧ iv = .int .i64 i ∧ Stg W w3 [57, 48] Bm (mQ g1 g2 g3 g4 g5 g6 [cod0]) wr ∧ Lies wr g5 48 (⟨nilV, [], bv, []⟩ : Cod).cs.toArray ∧ wr.ownsRow W.heap.size 57 5 bv i ((List.replicate i cst0).flatMap Ins.cs)) (fun iv _ => N - (RowKit.intOf iv).toNat)
   case atStart => exact ⟨0, nilV, Nat.zero_le _, rfl, J3.out⟩
   case round =>
    obtain ⟨i, bv, hi, rfl, hs, hc, hr⟩ := hrel
    obtain ⟨w4, hw4⟩ : ∃ w4, w4 = wr := ⟨_, rfl⟩
    rw [← hw4] at hs hc hr ⊢
    clear hw4
    have S4 := zh hs
    have C4 := zh hc
    have R4 := zh hr
    clear hs hc hr
    by_cases hlt : i < N
    ·have hlt2 : (i : Int) < (N : Int) := by omega
     go_upto_region 49 with fail
     refine wp_region_t [(0, 1), (1, 1), (2, 1), (3, 1), (4, 1), (5, 1), (6, 2), (7, 1), (8, 0), (9, 0), (10, 1), (11, 1), (12, 0)] (fun w' => w'.cell? ⟨Bm, 10, none⟩ = some (.slice (some ⟨g5, 0, none⟩) 1 1)) [(12, fun w' => w'.cell? ⟨g5, 1, none⟩ = some bv)] [12] rfl (by kernel_rfl) (by kernel_rfl) (fun _ _ d _ _ h => by cases d <;> exact h) (S4.out.drew.x.cell 10) (fun p hp => by obtain rfl := List.mem_singleton.1 hp; exact (C4.out.below (below_drew w4) C4.out.lt).cell 1) ?_
     have S5 := zh S4.out.drew
     have C5 := zh (C4.out.below (below_drew w4) C4.out.lt)
     have R5 := zh (ownsRow_keep R4.out (below_drew w4))
     generalize w4.drew = w5 at S5 C5 R5 ⊢
     repeat (first | (refine ts_take (v := ?_) rfl rfl (fun w' hw' => ?_) ?_; rotate_left; (focus (have q0 := hw'; (try simp only [Act.put, sA, sB, sC]); go_simp; (try go_bits); (try (with_reducible rfl)))); (try simp only [Act.put, sA, sB, sC])) | (refine ts_take2 (v := ?_) rfl rfl (fun w' hw' hst => ?_) ?_; rotate_left; (focus (have q0 := hst.one rfl; (try simp only [Act.put, sA, sB, sC]); go_simp; (try go_bits); (try (with_reducible rfl)))); (try simp only [Act.put, sA, sB, sC])))
     refine ts_run1 rfl rfl (fun K hK => ?_)
     refine wp_bsN (e := 57) (d := 166) rfl rfl cst0.cs (fun w => by kernel_rfl) (fun w6 hb6 hl6 => ?_)
     obtain ⟨gb, hg6⟩ : ∃ g, g = w5.heap.size := ⟨_, rfl⟩
     rw [← hg6] at hl6 ⊢
     have S6 := zh (S5.out.grow hb6)
     have L6 := zh hl6
     have C6 := zh (C5.out.below hb6 C5.out.lt)
     have R6 := zh (ownsRow_keep R5.out hb6)
     clear hb6 hl6 hg6
     refine hK.out _ _ (S6.out.x.cell 10) (still_one (.inr (C6.out.cell 1))) ?_
     clear hK K
     (try simp only [Act.put, sA, sB, sC])
     refine ts_run1 rfl rfl (fun K hK => ?_)
     refine wp_app (by_ := 48) _ _ rfl Tryz.underlying46 inf_in (by decide) rfl R6.out Ins.len rfl (sl_one L6.out) (fun y hy u hu => by obtain rfl := List.mem_singleton.1 hy; exact ins_one rfl u hu) (by unfold maxLen; simp <;> omega) (by simp <;> omega) S6.out.b.size (fun v7 w7 hr7 hg7 hv7 => ?_)
     have S7 := zh (S6.out.row R6.out hg7 (by decide))
     have HV7 := zh (row_cells hr7)
     have R7 := zh hr7
     have C7 := zh (lies_frT C6.out (FrT.grown R6.out hg7) (by decide))
     clear hr7 hg7 hv7
     refine hK.out _ _ (S7.out.x.cell 10) (still_one (.inr (C7.out.cell 1))) ?_
     clear hK K
     (try simp only [Act.put, sA, sB, sC])
     repeat (first | (refine ts_take (v := ?_) rfl rfl (fun w' hw' => ?_) ?_; rotate_left; (focus (have q0 := hw'; (try simp only [Act.put, sA, sB, sC]); go_simp; (try go_bits); (try (with_reducible rfl)))); (try simp only [Act.put, sA, sB, sC])))
     refine ts_run1 rfl rfl (fun K hK => ?_)
     refine wp_fld (c0 := (⟨nilV, [], bv, []⟩ : Cod).cs) C7.out _ _ rfl rfl rfl [v7] (⟨nilV, [], v7, []⟩ : Cod).cs HV7.out.1 (by kernel_rfl) (by intro u hu; obtain rfl := List.mem_singleton.1 hu; exact HV7.out.2) (by simp [Cod.cs]) rfl (fun w8 hl8 hf8 => ?_)
     have R8 := zh (row_frT R7.out (FrT.field C7.out hf8) (by decide))
     have S8 := zh (S7.out.at C7.out hf8 (by decide) HGB.out.2.2.2.2.1)
     have C8 := zh hl8
     clear hl8 hf8
     refine hK.out _ _ (S8.out.x.cell 10) (still_one (.inl rfl)) ?_
     clear hK K
     (try simp only [Act.put])
     refine ts_done ?_
     clear S5 S6 S7 C5 C6 C7 R5 R6 R7 L6
     go_wp2_with fail
     go_roundw
     case rel => exact ⟨i + 1, v7, hlt, by go_num, S8.out.sub (by simp), C8.out, rep_row R8.out⟩
     case measure => simp [RowKit.intOf]; omega
    ·have HIN := zh (show i = N from by omega)
     have hge : ¬ (i : Int) < (N : Int) := by omega
     go_upto_region 51 with fail
     refine wp_region_t [(0, 1), (1, 1), (2, 1), (3, 1), (4, 1), (5, 1), (6, 2), (7, 1), (8, 0), (9, 0), (10, 1), (11, 1), (12, 0)] (fun w' => w'.cell? ⟨Bm, 10, none⟩ = some (.slice (some ⟨g5, 0, none⟩) 1 1)) [(12, fun w' => w'.cell? ⟨g5, 1, none⟩ = some bv)] [12] rfl (by kernel_rfl) (by kernel_rfl) (fun _ _ d _ _ h => by cases d <;> exact h) (S4.out.drew.x.cell 10) (fun p hp => by obtain rfl := List.mem_singleton.1 hp; exact (C4.out.below (below_drew w4) C4.out.lt).cell 1) ?_
     have S5 := zh S4.out.drew
     have C5 := zh (C4.out.below (below_drew w4) C4.out.lt)
     have R5 := zh (ownsRow_keep R4.out (below_drew w4))
     generalize w4.drew = w5 at S5 C5 R5 ⊢
     repeat (first | (refine ts_take (v := ?_) rfl rfl (fun w' hw' => ?_) ?_; rotate_left; (focus (have q0 := hw'; (try simp only [Act.put, sA, sB, sC]); go_simp; (try go_bits); (try (with_reducible rfl)))); (try simp only [Act.put, sA, sB, sC])) | (refine ts_take2 (v := ?_) rfl rfl (fun w' hw' hst => ?_) ?_; rotate_left; (focus (have q0 := hst.one rfl; (try simp only [Act.put, sA, sB, sC]); go_simp; (try go_bits); (try (with_reducible rfl)))); (try simp only [Act.put, sA, sB, sC])))
     refine ts_run1 rfl rfl (fun K hK => ?_)
     refine wp_bsN (e := 57) (d := 179) rfl rfl unr0.cs (fun w => by kernel_rfl) (fun w6 hb6 hl6 => ?_)
     obtain ⟨gb, hg6⟩ : ∃ g, g = w5.heap.size := ⟨_, rfl⟩
     rw [← hg6] at hl6 ⊢
     have S6 := zh (S5.out.grow hb6)
     have L6 := zh hl6
     have C6 := zh (C5.out.below hb6 C5.out.lt)
     have R6 := zh (ownsRow_keep R5.out hb6)
     clear hb6 hl6 hg6
     refine hK.out _ _ (S6.out.x.cell 10) (still_one (.inr (C6.out.cell 1))) ?_
     clear hK K
     (try simp only [Act.put, sA, sB, sC])
     refine ts_run1 rfl rfl (fun K hK => ?_)
     refine wp_app (by_ := 48) _ _ rfl Tryz.underlying46 inf_in (by decide) rfl R6.out Ins.len rfl (sl_one L6.out) (fun y hy u hu => by obtain rfl := List.mem_singleton.1 hy; exact ins_one rfl u hu) (by unfold maxLen; simp <;> omega) (by simp <;> omega) S6.out.b.size (fun v7 w7 hr7 hg7 hv7 => ?_)
     have S7 := zh (S6.out.row R6.out hg7 (by decide))
     have HV7 := zh (row_cells hr7)
     have R7 := zh hr7
     have C7 := zh (lies_frT C6.out (FrT.grown R6.out hg7) (by decide))
     clear hr7 hg7 hv7
     refine hK.out _ _ (S7.out.x.cell 10) (still_one (.inr (C7.out.cell 1))) ?_
     clear hK K
     (try simp only [Act.put, sA, sB, sC])
     repeat (first | (refine ts_take (v := ?_) rfl rfl (fun w' hw' => ?_) ?_; rotate_left; (focus (have q0 := hw'; (try simp only [Act.put, sA, sB, sC]); go_simp; (try go_bits); (try (with_reducible rfl)))); (try simp only [Act.put, sA, sB, sC])))
     refine ts_run1 rfl rfl (fun K hK => ?_)
     refine wp_fld (c0 := (⟨nilV, [], bv, []⟩ : Cod).cs) C7.out _ _ rfl rfl rfl [v7] (⟨nilV, [], v7, []⟩ : Cod).cs HV7.out.1 (by kernel_rfl) (by intro u hu; obtain rfl := List.mem_singleton.1 hu; exact HV7.out.2) (by simp [Cod.cs]) rfl (fun w8 hl8 hf8 => ?_)
     have R8 := zh (row_frT R7.out (FrT.field C7.out hf8) (by decide))
     have S8 := zh (S7.out.at C7.out hf8 (by decide) HGB.out.2.2.2.2.1)
     have C8 := zh hl8
     clear hl8 hf8
     refine hK.out _ _ (S8.out.x.cell 10) (still_one (.inl rfl)) ?_
     clear hK K
     (try simp only [Act.put])
     refine ts_done ?_
     clear S5 S6 S7 C5 C6 C7 R5 R6 R7 L6
     by_cases h4 : 4000 < N
     ·have h42 : (4000 : Int) < (N : Int) := by omega
      go_wp2_with fail
      go_ret
      exact ⟨rfl, S8.out.b⟩
     ·have h42 : ¬ (4000 : Int) < (N : Int) := by omega
      have T8 := zh (show w8.ownsRow W.heap.size 57 5 v7 (List.replicate N cst0 ++ [unr0]).length ((List.replicate N cst0 ++ [unr0]).flatMap Ins.cs) from by rw [← HIN.out, List.length_append, List.length_replicate, List.flatMap_append]; exact R8.out)
      go_wp2_with fail
      go_meet
      exact ⟨(mQ g1 g2 g3 g4 g5 g6 [(⟨nilV, [], v7, List.replicate N cst0 ++ [unr0]⟩ : Cod)]), 512, 0, rfl, rfl, S8.out.x, modQ_ok (typ_ok (lies_frT HG.out.p S8.out.f (by decide)) (lies_frT HG.out.q S8.out.f (by decide)) (lies_frT HG.out.t S8.out.f (by decide))) (fun_ok (lies_frT HG.out.f S8.out.f (by decide))) nil_ok nil_ok nil_ok (exp_ok (lies_frT HG.out.e S8.out.f (by decide))) (cod_ok (c := (⟨nilV, [], v7, List.replicate N cst0 ++ [unr0]⟩ : Cod)) C8.out ⟨nil_ok, own_sl Ins.len T8.out, fun y hy => (by rcases List.mem_append.1 hy with hy | hy; rw [List.eq_of_mem_replicate hy]; exact ins_nil (by decide); obtain rfl := List.mem_singleton.1 hy; exact ins_nil (by decide)), by rw [List.length_append, List.length_replicate]; show N + 1 ≤ 1048576; omega⟩), rs8 _ _ _ _ _ _ _ N (by omega), S8.out.b, by decide, by decide⟩
  by_cases h9 : k = 9
  ·subst h9
   have C3 := zh HG.out.c
   go_upto_region 55 with fail
   refine wp_region_t [(0, 1), (1, 1), (2, 1), (3, 1), (4, 0), (5, 1), (6, 0), (7, 1), (8, 1), (9, 0), (10, 1)] (fun w' => w'.cell? ⟨Bm, 10, none⟩ = some (.slice (some ⟨g5, 0, none⟩) 1 1)) [] [] rfl (by kernel_rfl) (by kernel_rfl) (fun _ _ d _ _ h => by cases d <;> exact h) (S3.out.drew.x.cell 10) (fun p hp => by cases hp) ?_
   have S4 := zh S3.out.drew
   have C4 := zh (C3.out.below (below_drew w3) C3.out.lt)
   generalize w3.drew = w4 at S4 C4 ⊢
   repeat (first | (refine ts_take (v := ?_) rfl rfl (fun w' hw' => ?_) ?_; rotate_left; (focus (have q0 := hw'; (try simp only [Act.put, sA, sB, sC]); go_simp; (try go_bits); (try (with_reducible rfl)))); (try simp only [Act.put, sA, sB, sC])))
   refine ts_run1 rfl rfl (fun K hK => ?_)
   refine wp_mk (t := 24) (e := 28) (zs := (u32c 0)) _ _ rfl Tryz.underlying24 infz_u32 (by decide) rfl rfl (by show N * 1 ≤ 16777216; omega) (by omega) (by omega) (fun w5 hb5 hl5 => ?_)
   obtain ⟨gl, hg5⟩ : ∃ g, g = w4.heap.size := ⟨_, rfl⟩
   rw [← hg5] at hl5 ⊢
   have S5 := zh (S4.out.grow hb5)
   have L5 := zh hl5
   have C5 := zh (C4.out.below hb5 C4.out.lt)
   clear hb5 hl5 hg5
   refine hK.out _ _ (S5.out.x.cell 10) (still_none _ _) ?_
   clear hK K
   (try simp only [Act.put, sA, sB, sC])
   repeat (first | (refine ts_take (v := ?_) rfl rfl (fun w' hw' => ?_) ?_; rotate_left; (focus (have q0 := hw'; (try simp only [Act.put, sA, sB, sC]); go_simp; (try go_bits); (try (with_reducible rfl)))); (try simp only [Act.put, sA, sB, sC])))
   refine ts_run1 rfl rfl (fun K hK => ?_)
   refine wp_bsN (e := 57) (d := 193) rfl rfl ([cst0, brt0 (.slice (some ⟨gl, 0, none⟩) N N) N].flatMap Ins.cs) (fun w => by kernel_rfl) (fun w6 hb6 hl6 => ?_)
   obtain ⟨gb, hg6⟩ : ∃ g, g = w5.heap.size := ⟨_, rfl⟩
   rw [← hg6] at hl6 ⊢
   have S6 := zh (S5.out.grow hb6)
   have L6 := zh hl6
   have C6 := zh (C5.out.below hb6 C5.out.lt)
   have M6 := zh (L5.out.below hb6 L5.out.lt)
   clear hb6 hl6 hg6
   refine hK.out _ _ (S6.out.x.cell 10) (still_none _ _) ?_
   clear hK K
   (try simp only [Act.put, sA, sB, sC])
   repeat (first | (refine ts_take (v := ?_) rfl rfl (fun w' hw' => ?_) ?_; rotate_left; (focus (have q0 := hw'; (try simp only [Act.put, sA, sB, sC]); go_simp; (try go_bits); (try (with_reducible rfl)))); (try simp only [Act.put, sA, sB, sC])))
   refine ts_run1 rfl rfl (fun K hK => ?_)
   refine wp_fld (c0 := cod0.cs) C6.out _ _ rfl rfl rfl [(.slice (some ⟨gb, 0, none⟩) 2 2)] (⟨nilV, [], (.slice (some ⟨gb, 0, none⟩) 2 2), [cst0, brt0 (.slice (some ⟨gl, 0, none⟩) N N) N]⟩ : Cod).cs rfl (by kernel_rfl) (by intro u hu; obtain rfl := List.mem_singleton.1 hu; exact rfl) (by simp [Cod.cs]) rfl (fun w7 hl7 hf7 => ?_)
   have L7 := zh (lies_frT L6.out (FrT.field C6.out hf7) (by decide))
   have M7 := zh (lies_frT M6.out (FrT.field C6.out hf7) (by decide))
   have S7 := zh (S6.out.at C6.out hf7 (by decide) HGB.out.2.2.2.2.1)
   have C7 := zh hl7
   clear hl7 hf7
   refine hK.out _ _ (S7.out.x.cell 10) (still_none _ _) ?_
   clear hK K
   (try simp only [Act.put])
   repeat (first | (refine ts_take (v := ?_) rfl rfl (fun w' hw' => ?_) ?_; rotate_left; (focus (have q0 := hw'; (try simp only [Act.put, sA, sB, sC]); go_simp; (try go_bits); (try (with_reducible rfl)))); (try simp only [Act.put, sA, sB, sC])))
   refine ts_done ?_
   go_wp2_with fail
   go_meet
   exact ⟨(mQ g1 g2 g3 g4 g5 g6 [(⟨nilV, [], (.slice (some ⟨gb, 0, none⟩) 2 2), [cst0, brt0 (.slice (some ⟨gl, 0, none⟩) N N) N]⟩ : Cod)]), 256, 0, rfl, rfl, S7.out.x, modQ_ok (typ_ok (lies_frT HG.out.p S7.out.f (by decide)) (lies_frT HG.out.q S7.out.f (by decide)) (lies_frT HG.out.t S7.out.f (by decide))) (fun_ok (lies_frT HG.out.f S7.out.f (by decide))) nil_ok nil_ok nil_ok (exp_ok (lies_frT HG.out.e S7.out.f (by decide))) (cod_ok C7.out ⟨nil_ok, sl_many (L := [cst0, brt0 (.slice (some ⟨gl, 0, none⟩) N N) N]) Ins.len L7.out, fun y hy => (by rcases List.mem_cons.1 hy with rfl | hy; exact ins_nil (by decide); obtain rfl := List.mem_singleton.1 hy; exact ⟨(by show (0 : Nat) < 4294967296; decide), (by show (0 : Nat) < 4294967296; decide), (by show (-9223372036854775808 : Int) ≤ 0 ∧ (0 : Int) ≤ 9223372036854775807; decide), brt_ls M7.out hN⟩), (by show (2 : Nat) ≤ 1048576; decide)⟩), rs9 _ _ _ _ _ _ _ _ N, S7.out.b, by decide, by decide⟩
  by_cases h10 : k = 10
  ·subst h10
   go_wp2_with (first | (refine wl_bsN (e := 84) (d := 201) rfl rfl (⟨N, -1⟩ : Lim).cs rfl (fun w => by kernel_rfl) (fun w4 hb4 hl4 => ?_); obtain ⟨gb, hg4⟩ : ∃ g, g = w3.heap.size := ⟨_, rfl⟩; rw [← hg4] at hl4 ⊢; have S4 := zh (S3.out.grow hb4); have L4 := zh hl4; clear hb4 hl4 hg4; (try simp only [Act.put, sA, sB, sC])) | (refine wl_fld (c0 := (mQ g1 g2 g3 g4 g5 g6 [cod0]).cs) S4.out.x _ _ rfl rfl rfl rfl [(.slice (some ⟨gb, 0, none⟩) 1 1)] (modQ (.slice (some ⟨g3, 0, none⟩) 3 3) (typW g1 g2) (.slice (some ⟨g4, 0, none⟩) 1 1) [0] (.slice (some ⟨gb, 0, none⟩) 1 1) [⟨N, -1⟩] nilV [] nilV [] (.slice (some ⟨g6, 0, none⟩) 1 1) [exp0] (.slice (some ⟨g5, 0, none⟩) 1 1) [cod0]).cs rfl (by kernel_rfl) (by intro u hu; obtain rfl := List.mem_singleton.1 hu; exact rfl) (by simp [modQ, Mod.cs]) rfl (fun w5 hl5 hf5 => ?_); have L5 := zh (lies_frT L4.out (FrT.field S4.out.x hf5) (by decide)); have S5 := zh (S4.out.set (m' := (modQ (.slice (some ⟨g3, 0, none⟩) 3 3) (typW g1 g2) (.slice (some ⟨g4, 0, none⟩) 1 1) [0] (.slice (some ⟨gb, 0, none⟩) 1 1) [⟨N, -1⟩] nilV [] nilV [] (.slice (some ⟨g6, 0, none⟩) 1 1) [exp0] (.slice (some ⟨g5, 0, none⟩) 1 1) [cod0])) hl5 hf5); clear hl5 hf5; (try simp only [Act.put])))
   go_meet
   exact ⟨(modQ (.slice (some ⟨g3, 0, none⟩) 3 3) (typW g1 g2) (.slice (some ⟨g4, 0, none⟩) 1 1) [0] (.slice (some ⟨gb, 0, none⟩) 1 1) [⟨N, -1⟩] nilV [] nilV [] (.slice (some ⟨g6, 0, none⟩) 1 1) [exp0] (.slice (some ⟨g5, 0, none⟩) 1 1) [cod0]), 1024, 0, rfl, rfl, S5.out.x, modQ_ok (typ_ok (lies_frT HG.out.p S5.out.f (by decide)) (lies_frT HG.out.q S5.out.f (by decide)) (lies_frT HG.out.t S5.out.f (by decide))) (fun_ok (lies_frT HG.out.f S5.out.f (by decide))) ⟨sl_one (x := (⟨N, -1⟩ : Lim)) L5.out, fun y hy => (by obtain rfl := List.mem_singleton.1 hy; show N < 4294967296; omega), (by show (1 : Nat) ≤ 1048576; decide)⟩ nil_ok nil_ok (exp_ok (lies_frT HG.out.e S5.out.f (by decide))) (cod_ok (lies_frT HG.out.c S5.out.f (by decide)) cod0_ok), rs10 _ _ _ _ _ _ _ N hN, S5.out.b, by decide, by decide⟩
  by_cases h11 : k = 11
  ·subst h11
   go_wp2_with (first | (refine wl_bsN (e := 84) (d := 208) rfl rfl (⟨N, -1⟩ : Lim).cs rfl (fun w => by kernel_rfl) (fun w4 hb4 hl4 => ?_); obtain ⟨gb, hg4⟩ : ∃ g, g = w3.heap.size := ⟨_, rfl⟩; rw [← hg4] at hl4 ⊢; have S4 := zh (S3.out.grow hb4); have L4 := zh hl4; clear hb4 hl4 hg4; (try simp only [Act.put, sA, sB, sC])) | (refine wl_fld (c0 := (mQ g1 g2 g3 g4 g5 g6 [cod0]).cs) S4.out.x _ _ rfl rfl rfl rfl [(.slice (some ⟨gb, 0, none⟩) 1 1)] (modQ (.slice (some ⟨g3, 0, none⟩) 3 3) (typW g1 g2) (.slice (some ⟨g4, 0, none⟩) 1 1) [0] nilV [] (.slice (some ⟨gb, 0, none⟩) 1 1) [⟨N, -1⟩] nilV [] (.slice (some ⟨g6, 0, none⟩) 1 1) [exp0] (.slice (some ⟨g5, 0, none⟩) 1 1) [cod0]).cs rfl (by kernel_rfl) (by intro u hu; obtain rfl := List.mem_singleton.1 hu; exact rfl) (by simp [modQ, Mod.cs]) rfl (fun w5 hl5 hf5 => ?_); have L5 := zh (lies_frT L4.out (FrT.field S4.out.x hf5) (by decide)); have S5 := zh (S4.out.set (m' := (modQ (.slice (some ⟨g3, 0, none⟩) 3 3) (typW g1 g2) (.slice (some ⟨g4, 0, none⟩) 1 1) [0] nilV [] (.slice (some ⟨gb, 0, none⟩) 1 1) [⟨N, -1⟩] nilV [] (.slice (some ⟨g6, 0, none⟩) 1 1) [exp0] (.slice (some ⟨g5, 0, none⟩) 1 1) [cod0])) hl5 hf5); clear hl5 hf5; (try simp only [Act.put])))
   go_meet
   exact ⟨(modQ (.slice (some ⟨g3, 0, none⟩) 3 3) (typW g1 g2) (.slice (some ⟨g4, 0, none⟩) 1 1) [0] nilV [] (.slice (some ⟨gb, 0, none⟩) 1 1) [⟨N, -1⟩] nilV [] (.slice (some ⟨g6, 0, none⟩) 1 1) [exp0] (.slice (some ⟨g5, 0, none⟩) 1 1) [cod0]), 16, 0, rfl, rfl, S5.out.x, modQ_ok (typ_ok (lies_frT HG.out.p S5.out.f (by decide)) (lies_frT HG.out.q S5.out.f (by decide)) (lies_frT HG.out.t S5.out.f (by decide))) (fun_ok (lies_frT HG.out.f S5.out.f (by decide))) nil_ok ⟨sl_one (x := (⟨N, -1⟩ : Lim)) L5.out, fun y hy => (by obtain rfl := List.mem_singleton.1 hy; show N < 4294967296; omega), (by show (1 : Nat) ≤ 1048576; decide)⟩ nil_ok (exp_ok (lies_frT HG.out.e S5.out.f (by decide))) (cod_ok (lies_frT HG.out.c S5.out.f (by decide)) cod0_ok), rs11 _ _ _ _ _ _ _ N hN, S5.out.b, by decide, by decide⟩
  go_wp2_with fail
  go_ret
  exact ⟨rfl, S3.out.b⟩
 case rest =>
  obtain ⟨m, lim, own, rfl, rfl, hm, hok, hrc, hbw, hlim, hown⟩ := hcut
  obtain ⟨w9, hw9⟩ : ∃ w9, w9 = wc := ⟨_, rfl⟩
  rw [← hw9] at hm hok hbw ⊢
  have HM9 := zh hm
  have HK9 := zh hok
  have HR9 := zh hrc
  have HB9 := zh hbw
  clear hm hok hrc hbw hw9
  by_cases hle : N + own ≤ lim
  ·have hle2 : ¬ (lim : Int) < (N : Int) + (own : Int) := by omega
   go_wp2_with (refine wl_loadw (lies_range HM9.out) _ rfl rfl rfl Tryz.underlying33 rfl sizeMod ?_; (try simp only [Act.put, sA, sB, sC]))
   refine (rcheck_any HK9.out).mono ?_
   rintro en w10 ⟨rfl, hb⟩
   have HB10 := zh (bt HB9.out hb)
   clear hb
   rw [HR9.out, if_pos hle]
   go_wp2_with fail
   go_ret
   exact ⟨rfl, HB10.out⟩
  ·have hle2 : (lim : Int) < (N : Int) + (own : Int) := by omega
   go_wp2_with (refine wl_loadw (lies_range HM9.out) _ rfl rfl rfl Tryz.underlying33 rfl sizeMod ?_; (try simp only [Act.put, sA, sB, sC]))
   refine (rcheck_any HK9.out).mono ?_
   rintro en w10 ⟨rfl, hb⟩
   have HB10 := zh (bt HB9.out hb)
   clear hb
   rw [HR9.out, if_neg hle]
   go_wp2_with fail
   go_ret
   exact ⟨rfl, HB10.out⟩
end Go.Proofs.YtmgjcaikldeioaaGreat.Ru
namespace Go.Proofs.YtmgjcaikldeioaaGreat.lwSizes
open Go Go.ChangeShapes Go.WideShapes Go.ChangeAt Go.RowKit Ru
theorem laidOut : laidOutB Tryz.prog = true := by kernel_rfl
theorem readable : (Tryz.f6.params.toList.all fun t => Tryz.prog.readableRec t && decide (t < Tryz.prog.types.size)) = true := by kernel_rfl
set_option maxRecDepth 100000 in
theorem contract (H : Type) (enc : TypeId × Value → H) (W : World) (base : Nat) (args : Array Value) (ds gs : List (DataW H)) (before : List MemPlace)
  (hval : ∀ (j : Nat) t v, Tryz.f6.params[j]? = some t → args[j]? = some v → Value.okWide Tryz.prog W .any base t v)
  (hW : DataW.Whole enc Tryz.prog Tryz.f6.params.toList Rows.ruleSizesSpec.vars false W args.toList ds gs before) :
  Calls Tryz.prog 6 args W fun e W' => ∃ v, e = .returned v ∧ Rows.ruleSizesSpec.post enc Tryz.prog Tryz.f6 false true false false W args v W' := by
 have hW' := hW
 obtain ⟨p, q, hA0, hV, rfl, hfz, hnd⟩ := hW
 have hA : DataW.TrodAll enc Tryz.prog W 0 (fun _ => true) true Tryz.f6.params.toList args.toList ds p := hA0
 rw [Tryz.params6] at hA hval
 obtain ⟨v0, vs0, d0, ds0, p0, q0, hargs0, rfl, rfl, h0, r0⟩ := trodAll_cons hA
 obtain ⟨v1, vs1, d1, ds1, p1, q1, hargs1, rfl, rfl, h1, r1⟩ := trodAll_cons r0
 obtain ⟨rfl, rfl, rfl⟩ := trodAll_nil r1
 obtain rfl : args = #[v0, v1] := by cases args; simp_all
 obtain ⟨rfl, rfl⟩ := trodVars_none hV
 obtain ⟨x0, rfl, _, _⟩ := open_int Tryz.underlying5 (hval 0 _ v0 rfl rfl) h0
 obtain ⟨x1, rfl, _, _⟩ := open_int Tryz.underlying3 (hval 1 _ v1 rfl rfl) h1
 refine (law_sizes x0 x1 W).mono fun e W' ⟨he, hb⟩ => ?_
 subst he
 exact ⟨_, rfl, Rw.law_post laidOut readable rfl Tryz.underlying4 rfl (fun _ => rfl) (fun _ => rfl) (fun _ => rfl) hW' hb⟩
set_option maxRecDepth 100000 in
theorem reads (os : Os) {H : Type} (enc : TypeId × Value → H) : ∃ places, DataW.whole enc Tryz.prog ((Rw.plainWorld os).forCall (fun _ _ => 0) ⟨#[], #[.int .u8 0, .int .i64 0], []⟩).memory Tryz.f6.params.toList Rows.ruleSizesSpec.vars false (#[.int .u8 0, .int .i64 0] : Array Value).toList 8 = some ([.lit (.int .u8 0), .lit (.int .i64 0)], [], places) :=
 ⟨[], by kernel_rfl⟩
set_option maxRecDepth 100000 in
theorem lifted (os : Os) (started : os.Started) (H : Type) (enc : TypeId × Value → H) (F : Stop.Interp) :
  ReturnsInHanded {} Tryz.checked os 6 .any ((OpenSpec.ofChange Rows.ruleSizesSpec).preRow enc Tryz.prog Tryz.f6 Rows.ruleSizesRow.domain false Rows.ruleSizesRow.laid) (((OpenSpec.ofChange Rows.ruleSizesSpec).at F).post enc Tryz.prog Tryz.f6 false true false false) := by
 obtain ⟨places, hx⟩ := reads os enc
 refine returnsInHanded_of_row (C := Tryz.checked) (s := OpenSpec.ofChange Rows.ruleSizesSpec) Rw.own started (by kernel_rfl) Tryz.func6
  (witness_row_at (enc := enc) (C := Tryz.checked) false (Rw.plainWorld os) #[.int .u8 0, .int .i64 0] rfl (by kernel_rfl) (by kernel_rfl) (by kernel_rfl)
   (OpenSpec.preRow_of_cond 8 hx (by kernel_rfl) (fun k hk => by cases hk) (by kernel_rfl) (Rw.met_nil _))) ?_
 intro W base args ds gs before hval hW _ _ _ _ _ _
 exact contract H enc W base args ds gs before hval hW
theorem said : Rows.RuleSizesSaid :=
 OpenClaim.holds_of_cond 6 Tryz.f6 rfl rfl rfl rfl rfl rfl rfl ⟨rfl, rfl, rfl, rfl, rfl⟩ rfl rfl rfl rfl rfl (by kernel_rfl) Tryz.func6 (by kernel_rfl)
  (of_decide_eq_true (by kernel_rfl)) (by unfold Func.isWrapper; first | (rw [if_pos (by decide +kernel)]; kernel_rfl) | (rw [if_neg (by decide +kernel)]; exact ⟨rfl, rfl⟩))
  (fun os started H enc _ F => by rw [OpenClaim.pre_eq_preRow]; exact lifted os started H enc F)
#print axioms said
end Go.Proofs.YtmgjcaikldeioaaGreat.lwSizes
