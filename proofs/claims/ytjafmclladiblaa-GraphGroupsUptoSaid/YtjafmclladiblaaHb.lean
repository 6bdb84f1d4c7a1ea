/- Graph: gabellelaw39.row: a module of own functions, each of which calls some. -/
import Derived.Test.YtjafmclladiblaaGh
import Derived.Test.YtjafmclladiblaaRi
import Derived.Test.YtjafmclladiblaaGo
namespace Go.Proofs.Ytjafmclladiblaa.Gr
open Go Go.RowKit Go.Lib Kt Fm

theorem wl_bld {P : Program} {ops : Array Oper} {rest : List Oper} {op : Oper} {a : Act} {w : World} {Q : Exit → Act → World → Prop} {t : TypeId} {ps : Array (Nat × Operand)} {vs : Array (Nat × Value)} (v : Value) (hb : ∀ w, (Instr.build t vs).run P w = .ok v w) (hgd : op.guard = none) (ho : op.op = .build t ps)
    (hv : ps.map (fun p => (p.1, a.eval p.2)) = vs) (hk : wpList P ops Q rest (a.put op.dst v) w) : wpList P ops Q (op :: rest) a w := by
  refine wpList_plain hgd fun _ hK => ?_
  have := hb w
  subst hv
  unfold Oper.wp execOp
  simp only [ho, this, Sem.run_bind, Sem.run_pure, Result.andThen_ok]
  exact hK _ _ hk
theorem wl_bs1 {P : Program} {ops : Array Oper} {rest : List Oper} {op : Oper} {a : Act} {w : World} {Q : Exit → Act → World → Prop} {t e : TypeId} (v : Value) (cs : List Value) (hb : ∀ w, (Instr.buildSlice t 1 #[(0, v)]).run P w = .ok (.slice (some ⟨w.heap.size, 0, none⟩) 1 1) (w.alloc (.cells cs.toArray e))) (p0 : Operand) (hgd : op.guard = none) (ho : op.op = .buildSlice t 1 #[(0, p0)]) (h0 : a.eval p0 = v)
    (hK : ∀ w1, Below w.heap.size w w1 → Lies w1 w.heap.size e cs.toArray → wpList P ops Q rest (a.put op.dst (.slice (some ⟨w.heap.size, 0, none⟩) 1 1)) w1) : wpList P ops Q (op :: rest) a w :=
  wpList_plain hgd fun _ hK' => wp_bs1 v cs hb p0 ho h0 fun w1 h1 h2 => hK' _ _ (hK w1 h1 h2)
theorem wl_app {P : Program} {ops : Array Oper} {rest : List Oper} {op : Oper} {a : Act} {w : World} {Q : Exit → Act → World → Prop} {base : Nat} {t e : TypeId} {sz by_ : Nat} (p q : Operand) (hgd : op.guard = none) (ho : op.op = .call { callee := .builtin .append, args := #[p, q], argTypes := #[t, t] }) (ht : P.underlying t = some (.slice e)) (hi : (P.info? e).map (fun i => (i.zero.map (·.cells.size), i.size, i.bytes)) = some (some sz, sz, by_)) (hsz : 0 < sz)
    {v : Value} {n : Nat} {xs : List Value} (hv : a.eval p = v) (hown : w.ownsRow base e sz v n xs) {α : Type} {en : α → List Value} (hlen : ∀ x, (en x).length = sz) {x : Value} {L : List α} (hq : a.eval q = x) (hx : Sl w sz en x L) (h1 : ∀ y ∈ L, ∀ u ∈ en y, u.oneCell' = true)
    (h63 : n + L.length ≤ maxLen) (hbytes : (n + L.length) * by_ ≤ 140737488355328) (hbase : base ≤ w.heap.size)
    (hK : ∀ v' w', w'.ownsRow base e sz v' (n + L.length) (xs ++ L.flatMap en) → w.grownBy w' v.ownBlock → (v'.ownBlock = v.ownBlock ∨ v'.ownBlock = some w.heap.size) → wpList P ops Q rest (a.put op.dst v') w') : wpList P ops Q (op :: rest) a w :=
  wpList_plain hgd fun _ hK' => wp_app p q ho ht hi hsz hv hown hlen hq hx h1 h63 hbytes hbase fun v' w' h1 h2 h3 => hK' _ _ (hK v' w' h1 h2 h3)
/-- A call of a function by number. -/
def callI (f : Nat) : Ins := ⟨16, f, 0, 0, .slice none 0 0⟩
def nilT : Ft := ⟨.slice none 0 0, [], .slice none 0 0, []⟩
def nilC : Cod := ⟨.slice none 0 0, .slice none 0 0, []⟩
def mainE : Exp := ⟨⟨#[109, 97, 105, 110]⟩, 0, 0⟩
def mcs (tv fv ev cv : Value) : List Value := [tv, .slice none 0 0, fv, .slice none 0 0, .slice none 0 0, .slice none 0 0, ev, .bool false, .int .u32 0, .slice none 0 0, cv, .slice none 0 0]
theorem bld_ft (w : World) : (Instr.build 78 #[]).run Try.prog w = .ok (.agg nilT.cs.toArray) w := by kernel_rfl
theorem bld_cd (w : World) : (Instr.build 63 #[]).run Try.prog w = .ok (.agg nilC.cs.toArray) w := by kernel_rfl
theorem bld_ex (w : World) : (Instr.build 84 #[(0, .string ⟨#[109, 97, 105, 110]⟩), (1, .int .u8 0)]).run Try.prog w = .ok (.agg mainE.cs.toArray) w := by kernel_rfl
theorem bld_mod (s1 s2 : Option Addr) (n1 n2 c1 c2 : Nat) (w : World) : (Instr.build 33 #[(0, .slice s1 n1 c1), (6, .slice s2 n2 c2)]).run Try.prog w = .ok (.agg (mcs (.slice s1 n1 c1) (.slice none 0 0) (.slice s2 n2 c2) (.slice none 0 0)).toArray) w := by kernel_rfl
theorem bld_in (f : Nat) (w : World) : (Instr.build 75 #[(0, .int .u8 16), (1, .int .u32 f)]).run Try.prog w = .ok (.agg (callI f).cs.toArray) w := by kernel_rfl
theorem bs_ex (w : World) : (Instr.buildSlice 27 1 #[(0, .agg mainE.cs.toArray)]).run Try.prog w = .ok (.slice (some ⟨w.heap.size, 0, none⟩) 1 1) (w.alloc (.cells mainE.cs.toArray 84)) := by kernel_rfl
theorem bs_cd (x : Cod) (w : World) : (Instr.buildSlice 30 1 #[(0, .agg x.cs.toArray)]).run Try.prog w = .ok (.slice (some ⟨w.heap.size, 0, none⟩) 1 1) (w.alloc (.cells x.cs.toArray 63)) := by kernel_rfl
theorem bs_in (x : Ins) (w : World) : (Instr.buildSlice 61 1 #[(0, .agg x.cs.toArray)]).run Try.prog w = .ok (.slice (some ⟨w.heap.size, 0, none⟩) 1 1) (w.alloc (.cells x.cs.toArray 75)) := by kernel_rfl
theorem info_cd : (Try.prog.info? 63).map (fun i => (i.zero.map (·.cells.size), i.size, i.bytes)) = some (some 2, 2, 48) := by kernel_rfl
theorem info_in : (Try.prog.info? 75).map (fun i => (i.zero.map (·.cells.size), i.size, i.bytes)) = some (some 5, 5, 48) := by kernel_rfl
theorem und_lc : Try.prog.underlying 30 = some (.slice 63) := by kernel_rfl
theorem und_li : Try.prog.underlying 61 = some (.slice 75) := by kernel_rfl
theorem und_lu : Try.prog.underlying 24 = some (.slice 28) := by kernel_rfl
/-- What was asked: a module whose functions call those of the rows. -/
structure RowOf (m : Mod) (R : List (List Nat)) : Prop where
  types : m.types = [nilT]
  imps : m.imps = []
  funcs : m.funcs = R.map fun _ => 0
  exps : m.exps = [mainE]
  hs : m.hs = false
  elems : m.elems = []
  codes : m.codes.map (·.body) = R.map (·.map callI)

/-! ### while it is made -/
/-- What stays as it is. -/
structure Rb (w : World) (H MB TB EB : Nat) (c0 : Array Value) (CS : List Cod) : Prop where
  tt : Lies w TB 78 nilT.cs.toArray
  ee : Lies w EB 84 mainE.cs.toArray
  res : Lies w H 33 c0
  bd : ∀ x ∈ CS, x.lv = .slice none 0 0 ∧ w.ownsRow H 75 5 x.bv x.body.length (x.body.flatMap Ins.cs)
section
variable {w w' V : World} {H MB CB TB EB : Nat} {c0 : Array Value} {CS : List Cod} {c : Cod} {f : Nat → Bool} {tv : Nat → Value} {fv cv : Value} {sv : Nat → Option Value}
theorem Rb.frT {es : List TypeId} (h : Rb w H MB TB EB c0 CS) (hf : FrT es w w') (h1 : 78 ∉ es) (h2 : 84 ∉ es) (h3 : 75 ∉ es) (h4 : 33 ∉ es) : Rb w' H MB TB EB c0 CS :=
  ⟨lies_frT h.tt hf h1, lies_frT h.ee hf h2, lies_frT h.res hf h4, fun x hx => ⟨(h.bd x hx).1, row_frT (h.bd x hx).2 hf h3⟩⟩
theorem Rb.later (h : Rb w H MB TB EB c0 CS) (hb : Below w.heap.size w w') : Rb w' H MB TB EB c0 CS :=
  h.frT (es := []) (FrT.below hb []) (by simp) (by simp) (by simp) (by simp)
theorem Rb.mb {cs : Array Value} (h : Rb w H MB TB EB c0 CS) (hl : Lies w MB 33 cs) (hf : Fr w w' (fun k => k = MB)) (hne : H ≠ MB) : Rb w' H MB TB EB c0 CS := by
  have hT := FrT.field hl hf
  exact ⟨lies_frT h.tt hT (by decide), lies_frT h.ee hT (by decide), lies_fr h.res hf hne, fun x hx => ⟨(h.bd x hx).1, row_frT (h.bd x hx).2 hT (by decide)⟩⟩
/-- A slice of the one element of a block. -/
def sl1 (g : Nat) : Value := .slice (some ⟨g, 0, none⟩) 1 1
/-- Between the rounds. -/
structure Rw (w : World) (H MB TB EB : Nat) (c0 : Array Value) (fv cv : Value) (CS : List Cod) : Prop where
  st : Rb w H MB TB EB c0 CS
  lies : Lies w MB 33 (mcs (sl1 TB) fv (sl1 EB) cv).toArray
  fr : w.ownsRow H 28 1 fv CS.length ((CS.map fun _ => 0).flatMap u32c)
  cr : w.ownsRow H 63 2 cv CS.length (CS.flatMap Cod.cs)
theorem Rw.later (h : Rw w H MB TB EB c0 fv cv CS) (hb : Below w.heap.size w w') : Rw w' H MB TB EB c0 fv cv CS :=
  ⟨h.st.later hb, h.lies.below hb h.lies.lt, ownsRow_keep h.fr hb, ownsRow_keep h.cr hb⟩
/-- What comes ahead of what. -/
structure Ordr (f : Nat → Bool) : Prop where
  h3 : f 3 = true → f 1 = true
  h7 : f 7 = true → f 6 = true
  h8 : f 8 = true → f 5 = true ∧ f 6 = true
theorem on_mono {i k : Nat} (h : f k = true) : on f i k = true := by simp [on, h]
theorem Ordr.on {i : Nat} (h : Ordr f) (h3 : i = 3 → f 1 = true) (h7 : i = 7 → f 6 = true) (h8 : i = 8 → f 5 = true ∧ f 6 = true) : Ordr (on f i) := by
  refine ⟨fun e => on_mono ?_, fun e => on_mono ?_, fun e => ?_⟩
  · by_cases h0 : 3 = i
    · exact h3 h0.symm
    · rw [on_ne h0] at e; exact h.h3 e
  · by_cases h0 : 7 = i
    · exact h7 h0.symm
    · rw [on_ne h0] at e; exact h.h7 e
  · by_cases h0 : 8 = i
    · exact ⟨on_mono (h8 h0.symm).1, on_mono (h8 h0.symm).2⟩
    · rw [on_ne h0] at e; exact ⟨on_mono (h.h8 e).1, on_mono (h.h8 e).2⟩
/-- While one more comes, in whatever order. -/
structure Rx (V : World) (H MB CB TB EB : Nat) (c0 : Array Value) (fv cv : Value) (CS : List Cod) (c : Cod) (sv : Nat → Option Value) (f : Nat → Bool) (tv : Nat → Value) (w : World) : Prop where
  sim : ∀ i v, f i = true → sv i = some v → tv i = v
  st : Rb w H MB TB EB c0 (CS ++ [c])
  bel : Below H V w
  hH : H ≤ w.heap.size
  lies : Lies w MB 33 (mcs (sl1 TB) (if f 10 = true then tv 3 else fv) (sl1 EB) (if f 12 = true then tv 8 else cv)).toArray
  cb : f 8 = false → Lies w CB 63 c.cs.toArray
  r0 : f 3 = false → w.ownsRow H 28 1 fv CS.length ((CS.map fun _ => 0).flatMap u32c)
  r3 : f 3 = true → w.ownsRow H 28 1 (tv 3) (CS.length + 1) ((CS.map fun _ => 0).flatMap u32c ++ [0].flatMap u32c)
  q0 : f 8 = false → w.ownsRow H 63 2 cv CS.length (CS.flatMap Cod.cs)
  q8 : f 8 = true → w.ownsRow H 63 2 (tv 8) (CS.length + 1) (CS.flatMap Cod.cs ++ [c].flatMap Cod.cs)
  r2 : f 2 = true → ∃ g, tv 2 = sl1 g ∧ (f 3 = false → Lies w g 28 (u32c 0).toArray)
  r7 : f 7 = true → ∃ g, tv 7 = sl1 g ∧ (f 8 = false → Lies w g 63 c.cs.toArray)
  o10 : f 10 = true → f 3 = true
  o12 : f 12 = true → f 8 = true
  ord : Ordr f
theorem Rx.zero (h : Rw w H MB TB EB c0 fv cv CS) (hb : Below H V w) (hH : H ≤ w.heap.size) (hc : Lies w CB 63 c.cs.toArray) (hcl : c.lv = .slice none 0 0) (hcb : w.ownsRow H 75 5 c.bv c.body.length (c.body.flatMap Ins.cs)) (sv : Nat → Option Value) (tv : Nat → Value) : Rx V H MB CB TB EB c0 fv cv CS c sv (fun _ => false) tv w := by
  refine ⟨fun i v e => (by cases e), ⟨h.st.tt, h.st.ee, h.st.res, fun x hx => ?_⟩, hb, hH, h.lies, fun _ => hc, fun _ => h.fr, fun e => (by cases e), fun _ => h.cr, fun e => (by cases e), fun e => (by cases e), fun e => (by cases e), fun e => (by cases e), fun e => (by cases e), ⟨fun e => (by cases e), fun e => (by cases e), fun e => (by cases e)⟩⟩
  rcases List.mem_append.1 hx with hx | hx
  · exact h.st.bd x hx
  · obtain rfl := List.mem_singleton.1 hx
    exact ⟨hcl, hcb⟩
theorem Rx.simple {i : Nat} {v : Value} (h : Rx V H MB CB TB EB c0 fv cv CS c sv f tv w) (hv : sv i = some v) (n2 : 2 ≠ i) (n3 : 3 ≠ i) (n7 : 7 ≠ i) (n8 : 8 ≠ i) (n10 : 10 ≠ i) (n12 : 12 ≠ i) : Rx V H MB CB TB EB c0 fv cv CS c sv (on f i) (upd tv i v) w := by
  refine ⟨fun k u hk hc => ?_, h.st, h.bel, h.hH, ?_, ?_, ?_, ?_, ?_, ?_, ?_, ?_, ?_, ?_, h.ord.on (fun e => absurd e.symm n3) (fun e => absurd e.symm n7) (fun e => absurd e.symm n8)⟩
  · by_cases e : k = i
    · subst e; rw [upd_eq]; rw [hv] at hc; exact Option.some.inj hc
    · rw [upd_ne e]; rw [on_ne e] at hk; exact h.sim k u hk hc
  all_goals simp only [on_ne n2, on_ne n3, on_ne n7, on_ne n8, on_ne n10, on_ne n12, upd_ne n2, upd_ne n3, upd_ne n7, upd_ne n8]
  · exact h.lies
  · exact h.cb
  · exact h.r0
  · exact h.r3
  · exact h.q0
  · exact h.q8
  · exact h.r2
  · exact h.r7
  · exact h.o10
  · exact h.o12
theorem sim_on {i : Nat} {v : Value} (h : ∀ k u, f k = true → sv k = some u → tv k = u) (hs : sv i = none) : ∀ k u, on f i k = true → sv k = some u → upd tv i v k = u := fun k u hk hc => by
  by_cases e : k = i
  · subst e; rw [hs] at hc; cases hc
  · rw [upd_ne e]; rw [on_ne e] at hk; exact h k u hk hc
/-- A block is new: what stays. -/
theorem Rx.low (h : Rx V H MB CB TB EB c0 fv cv CS c sv f tv w) (hb : Below w.heap.size w w') : Rx V H MB CB TB EB c0 fv cv CS c sv f tv w' := by
  refine ⟨h.sim, h.st.later hb, h.bel.trans (hb.mono h.hH), Nat.le_trans h.hH hb.size, h.lies.below hb h.lies.lt, fun e => (h.cb e).below hb (h.cb e).lt, fun e => ownsRow_keep (h.r0 e) hb, fun e => ownsRow_keep (h.r3 e) hb, fun e => ownsRow_keep (h.q0 e) hb, fun e => ownsRow_keep (h.q8 e) hb, fun e => ?_, fun e => ?_, h.o10, h.o12, h.ord⟩
  · obtain ⟨g, e1, h1⟩ := h.r2 e
    exact ⟨g, e1, fun e => (h1 e).below hb (h1 e).lt⟩
  · obtain ⟨g, e1, h1⟩ := h.r7 e
    exact ⟨g, e1, fun e => (h1 e).below hb (h1 e).lt⟩
theorem Rx.s2 (h : Rx V H MB CB TB EB c0 fv cv CS c sv f tv w) (hs : sv 2 = none) (hb : Below w.heap.size w w') (hl : Lies w' w.heap.size 28 (u32c 0).toArray) : Rx V H MB CB TB EB c0 fv cv CS c sv (on f 2) (upd tv 2 (sl1 w.heap.size)) w' := by
  have h := h.low hb
  refine ⟨sim_on h.sim hs, h.st, h.bel, h.hH, h.lies, h.cb, h.r0, h.r3, h.q0, h.q8, fun _ => ⟨_, rfl, fun _ => hl⟩, h.r7, h.o10, h.o12, h.ord.on (fun e => (by cases e)) (fun e => (by cases e)) (fun e => (by cases e))⟩
theorem Rx.s7 (h : Rx V H MB CB TB EB c0 fv cv CS c sv f tv w) (hs : sv 7 = none) (h6 : f 6 = true) (hb : Below w.heap.size w w') (hl : Lies w' w.heap.size 63 c.cs.toArray) : Rx V H MB CB TB EB c0 fv cv CS c sv (on f 7) (upd tv 7 (sl1 w.heap.size)) w' := by
  have h := h.low hb
  refine ⟨sim_on h.sim hs, h.st, h.bel, h.hH, h.lies, h.cb, h.r0, h.r3, h.q0, h.q8, h.r2, fun _ => ⟨_, rfl, fun _ => hl⟩, h.o10, h.o12, h.ord.on (fun e => (by cases e)) (fun _ => h6) (fun e => (by cases e))⟩
theorem Rx.s3 {v' : Value} (h : Rx V H MB CB TB EB c0 fv cv CS c sv f tv w) (hs : sv 3 = none) (h1 : f 1 = true) (h3 : f 3 = false) (hr : w'.ownsRow H 28 1 v' (CS.length + 1) ((CS.map fun _ => 0).flatMap u32c ++ [0].flatMap u32c)) (hg : w.grownBy w' fv.ownBlock) : Rx V H MB CB TB EB c0 fv cv CS c sv (on f 3) (upd tv 3 v') w' := by
  have hf : FrT [28] w w' := FrT.grown (h.r0 h3) hg
  have hn : ¬ f 10 = true := fun e => by rw [h.o10 e] at h3; cases h3
  refine ⟨sim_on h.sim hs, h.st.frT hf (by decide) (by decide) (by decide) (by decide), h.bel.grown hg h.hH (fun k hk => (row_block (h.r0 h3) hk).1), Nat.le_trans h.hH hg.size, ?_, fun e => lies_frT (h.cb e) hf (by decide), fun e => (by cases e), fun _ => hr, fun e => row_frT (h.q0 e) hf (by decide), fun e => row_frT (h.q8 e) hf (by decide), fun e => ?_, fun e => ?_, fun _ => rfl, h.o12, h.ord.on (fun _ => h1) (fun e => (by cases e)) (fun e => (by cases e))⟩
  · have := lies_frT h.lies hf (by decide)
    rw [if_neg hn] at this
    simp only [on_ne (f := f) (show 10 ≠ 3 by decide), on_ne (f := f) (show 12 ≠ 3 by decide), upd_ne (tv := tv) (v := v') (show 8 ≠ 3 by decide)]
    rw [if_neg hn]
    exact this
  · obtain ⟨g, e1, _⟩ := h.r2 e
    exact ⟨g, e1, fun e => (by cases e)⟩
  · obtain ⟨g, e1, h1⟩ := h.r7 e
    exact ⟨g, e1, fun e => lies_frT (h1 e) hf (by decide)⟩
theorem Rx.s8 {v' : Value} (h : Rx V H MB CB TB EB c0 fv cv CS c sv f tv w) (hs : sv 8 = none) (h5 : f 5 = true) (h7 : f 7 = true) (h8 : f 8 = false) (hr : w'.ownsRow H 63 2 v' (CS.length + 1) (CS.flatMap Cod.cs ++ [c].flatMap Cod.cs)) (hg : w.grownBy w' cv.ownBlock) : Rx V H MB CB TB EB c0 fv cv CS c sv (on f 8) (upd tv 8 v') w' := by
  have hf : FrT [63] w w' := FrT.grown (h.q0 h8) hg
  have hn : ¬ f 12 = true := fun e => by rw [h.o12 e] at h8; cases h8
  refine ⟨sim_on h.sim hs, h.st.frT hf (by decide) (by decide) (by decide) (by decide), h.bel.grown hg h.hH (fun k hk => (row_block (h.q0 h8) hk).1), Nat.le_trans h.hH hg.size, ?_, fun e => (by cases e), fun e => row_frT (h.r0 e) hf (by decide), fun e => row_frT (h.r3 e) hf (by decide), fun e => (by cases e), fun _ => hr, fun e => ?_, fun e => ?_, h.o10, fun _ => rfl, h.ord.on (fun e => (by cases e)) (fun e => (by cases e)) (fun _ => ⟨h5, h.ord.h7 h7⟩)⟩
  · have := lies_frT h.lies hf (by decide)
    rw [if_neg hn] at this
    simp only [on_ne (f := f) (show 10 ≠ 8 by decide), on_ne (f := f) (show 12 ≠ 8 by decide), upd_ne (tv := tv) (v := v') (show 3 ≠ 8 by decide)]
    rw [if_neg hn]
    exact this
  · obtain ⟨g, e1, h1⟩ := h.r2 e
    exact ⟨g, e1, fun e => lies_frT (h1 e) hf (by decide)⟩
  · obtain ⟨g, e1, _⟩ := h.r7 e
    exact ⟨g, e1, fun e => (by cases e)⟩
theorem Rx.store (h : Rx V H MB CB TB EB c0 fv cv CS c sv f tv w) (hne : H < MB) {cs : Array Value} (hl : Lies w' MB 33 cs) (hf : Fr w w' (fun k => k = MB)) (f' : Nat → Bool) (tv' : Nat → Value) (h10 : f' 10 = true → f' 3 = true) (h12 : f' 12 = true → f' 8 = true) (hor : Ordr f')
    (hs : ∀ k u, f' k = true → sv k = some u → tv' k = u) (hcs : cs = (mcs (sl1 TB) (if f' 10 = true then tv 3 else fv) (sl1 EB) (if f' 12 = true then tv 8 else cv)).toArray) (e2 : tv' 2 = tv 2) (e3 : tv' 3 = tv 3) (e7 : tv' 7 = tv 7) (e8 : tv' 8 = tv 8) (f2 : f' 2 = f 2) (f3 : f' 3 = f 3) (f7 : f' 7 = f 7) (f8 : f' 8 = f 8) : Rx V H MB CB TB EB c0 fv cv CS c sv f' tv' w' := by
  have hT := FrT.field h.lies hf
  refine ⟨hs, h.st.mb h.lies hf (by omega), h.bel.trans (hf.below h.hH (fun k hk => by omega)), Nat.le_trans h.hH hf.size, ?_, ?_, ?_, ?_, ?_, ?_, ?_, ?_, h10, h12, hor⟩
  · rw [e3, e8, ← hcs]; exact hl
  all_goals simp only [e2, e3, e7, e8, f2, f3, f7, f8]
  · exact fun e => lies_frT (h.cb e) hT (by decide)
  · exact fun e => row_frT (h.r0 e) hT (by decide)
  · exact fun e => row_frT (h.r3 e) hT (by decide)
  · exact fun e => row_frT (h.q0 e) hT (by decide)
  · exact fun e => row_frT (h.q8 e) hT (by decide)
  · intro e
    obtain ⟨g, e1, h1⟩ := h.r2 e
    exact ⟨g, e1, fun e => lies_frT (h1 e) hT (by decide)⟩
  · intro e
    obtain ⟨g, e1, h1⟩ := h.r7 e
    exact ⟨g, e1, fun e => lies_frT (h1 e) hT (by decide)⟩
theorem Rx.s10 (h : Rx V H MB CB TB EB c0 fv cv CS c sv f tv w) (hne : H < MB) (hs : sv 10 = none) (h3 : f 3 = true) (u : Value) (hl : Lies w' MB 33 (mcs (sl1 TB) (tv 3) (sl1 EB) (if f 12 = true then tv 8 else cv)).toArray) (hf : Fr w w' (fun k => k = MB)) : Rx V H MB CB TB EB c0 fv cv CS c sv (on f 10) (upd tv 10 u) w' :=
  h.store hne hl hf _ _ (fun _ => h3) h.o12 (h.ord.on (fun e => (by cases e)) (fun e => (by cases e)) (fun e => (by cases e))) (sim_on h.sim hs) rfl rfl rfl rfl rfl rfl rfl rfl rfl
theorem Rx.s12 (h : Rx V H MB CB TB EB c0 fv cv CS c sv f tv w) (hne : H < MB) (hs : sv 12 = none) (h8 : f 8 = true) (u : Value) (hl : Lies w' MB 33 (mcs (sl1 TB) (if f 10 = true then tv 3 else fv) (sl1 EB) (tv 8)).toArray) (hf : Fr w w' (fun k => k = MB)) : Rx V H MB CB TB EB c0 fv cv CS c sv (on f 12) (upd tv 12 u) w' :=
  h.store hne hl hf _ _ h.o10 (fun _ => h8) (h.ord.on (fun e => (by cases e)) (fun e => (by cases e)) (fun e => (by cases e))) (sim_on h.sim hs) rfl rfl rfl rfl rfl rfl rfl rfl rfl
theorem Rx.end (h : Rx V H MB CB TB EB c0 fv cv CS c sv f tv w) (h3 : f 3 = true) (h8 : f 8 = true) (h10 : f 10 = true) (h12 : f 12 = true) : Rw w H MB TB EB c0 (tv 3) (tv 8) (CS ++ [c]) := by
  have hl := h.lies
  rw [if_pos h10, if_pos h12] at hl
  refine ⟨h.st, hl, ?_, ?_⟩
  · have := h.r3 h3
    rw [← List.flatMap_append] at this
    rw [List.length_append, List.map_append]
    exact this
  · have := h.q8 h8
    rw [← List.flatMap_append] at this
    rw [List.length_append]
    exact this
end

/-! ### the walk -/
theorem und_llu : Try.prog.underlying 95 = some (.slice 24) := by kernel_rfl
theorem ones_in (f : Nat) : ∀ y ∈ [callI f], ∀ u ∈ y.cs, u.oneCell' = true := by
  intro y hy u hu
  obtain rfl := List.mem_singleton.1 hy
  simp [callI, Ins.cs] at hu
  rcases hu with rfl | rfl | rfl | rfl | rfl <;> rfl
theorem ones_u32 : ∀ y ∈ [0], ∀ u ∈ u32c y, u.oneCell' = true := by
  intro y hy u hu
  obtain rfl := List.mem_singleton.1 hy
  simp [u32c] at hu
  subst hu
  rfl
theorem len_ins (x : Ins) : x.cs.length = 5 := rfl
theorem len_cod (x : Cod) : x.cs.length = 2 := rfl
theorem oneMcs (a b : Nat) (s1 s2 : Option Addr) (n1 n2 c1 c2 : Nat) : ((mcs (sl1 a) (.slice s1 n1 c1) (sl1 b) (.slice s2 n2 c2)).toArray.all (·.oneCell')) = true := by simp [mcs, sl1, Value.oneCell']
theorem sizeMcs : (Try.prog.info? 33).map (·.size) = some 12 := by kernel_rfl
theorem size_lu : (Try.prog.info? 24).map (·.size) = some 1 := by kernel_rfl
theorem size_lc : (Try.prog.info? 30).map (·.size) = some 1 := by kernel_rfl
theorem size_lins : (Try.prog.info? 61).map (·.size) = some 1 := by kernel_rfl
set_option maxRecDepth 100000 in
set_option maxHeartbeats 16000000 in
theorem row_any {W : World} {v : Value} {OV : List Value} {R : List (List Nat)} (hv : Sl W 1 vc v OV) (hl : OV.length = R.length) (hR : R.length ≤ 1000) (ho : ∀ (i : Nat) (u : Value) (l : List Nat), OV[i]? = some u → R[i]? = some l → Sl W 1 u32c u l ∧ l.length ≤ 1000 ∧ ∀ y ∈ l, y < 4294967296) :
    Calls Try.prog 27 #[v] W fun e w' => ∃ m, e = .returned (.agg m.cs.toArray) ∧ ModOk w' m ∧ RowOf m R ∧ Below W.heap.size W w' := by
  have HV := Lib.hid hv
  have HO := Lib.hid ho
  obtain ⟨s0, cap0, rfl, hs0⟩ := hv.form
  have HOL := Lib.hid hl
  obtain ⟨k, hk⟩ : ∃ k, k = OV.length := ⟨_, rfl⟩
  have hkR : k ≤ 1000 := by omega
  have HKO := Lib.hid hk
  rw [← hk]
  clear hv ho hl hR hk
  go_enter Try.func27, Try.ntmps27
  go_upto_region 1 with fail
  obtain ⟨W0, hW0⟩ : ∃ W0, W0 = W.alloc (.cells #[.slice none 0 0, .slice none 0 0, .slice none 0 0, .slice none 0 0, .slice none 0 0, .slice none 0 0, .slice none 0 0, .bool false, .int .u32 0, .slice none 0 0, .slice none 0 0, .slice none 0 0] 33) := ⟨_, rfl⟩
  have HB0 := Lib.hid (show Below W.heap.size W W0 from hW0 ▸ (Below.refl _ _).alloc (Nat.le_refl _) _)
  have HL0 := Lib.hid (show Lies W0 W.heap.size 33 _ from hW0 ▸ Lies.new _ _ _)
  rw [← hW0]
  clear hW0
  go_upto_region 2 with (first | (refine wl_bld _ bld_ft rfl rfl rfl ?_; simp only [Act.put, List.setIfInBounds_toArray, List.set_cons_zero, List.set_cons_succ]) | (refine wl_bld _ bld_ex rfl rfl rfl ?_; simp only [Act.put, List.setIfInBounds_toArray, List.set_cons_zero, List.set_cons_succ]) | (refine wl_bld _ (bld_mod _ _ _ _ _ _) rfl rfl rfl ?_; simp only [Act.put, List.setIfInBounds_toArray, List.set_cons_zero, List.set_cons_succ]) | (refine wl_bs1 _ _ (bs_ft nilT) _ rfl rfl rfl (fun w1 hb1 hl1 => ?_); have HB1 := Lib.hid hb1; have HL1 := Lib.hid hl1; clear hb1 hl1; simp only [Act.put, List.setIfInBounds_toArray, List.set_cons_zero, List.set_cons_succ]) | (refine wl_bs1 _ _ bs_ex _ rfl rfl rfl (fun w2 hb2 hl2 => ?_); have HB2 := Lib.hid hb2; have HL2 := Lib.hid hl2; clear hb2 hl2; simp only [Act.put, List.setIfInBounds_toArray, List.set_cons_zero, List.set_cons_succ]))
  obtain ⟨w5, hw5⟩ : ∃ w5, w5 = w2.alloc (.cells (mcs (sl1 W0.heap.size) (.slice none 0 0) (sl1 w1.heap.size) (.slice none 0 0)).toArray 33) := ⟨_, rfl⟩
  have hb5 : Below w2.heap.size w2 w5 := hw5 ▸ (Below.refl _ _).alloc (Nat.le_refl _) _
  have hl5 : Lies w5 w2.heap.size 33 (mcs (sl1 W0.heap.size) (.slice none 0 0) (sl1 w1.heap.size) (.slice none 0 0)).toArray := hw5 ▸ Lies.new _ _ _
  rw [show w2.alloc (.cells #[.slice (some ⟨W0.heap.size, 0, none⟩) 1 1, .slice none 0 0, .slice none 0 0, .slice none 0 0, .slice none 0 0, .slice none 0 0, .slice (some ⟨w1.heap.size, 0, none⟩) 1 1, .bool false, .int .u32 0, .slice none 0 0, .slice none 0 0, .slice none 0 0] 33) = w5 from hw5.symm]
  clear hw5
  have hb15 := bt HB2.out hb5
  have hb05 := bt HB1.out hb15
  have HS5 := Lib.hid (show Rw w5 W.heap.size w2.heap.size W0.heap.size w1.heap.size #[.slice none 0 0, .slice none 0 0, .slice none 0 0, .slice none 0 0, .slice none 0 0, .slice none 0 0, .slice none 0 0, .bool false, .int .u32 0, .slice none 0 0, .slice none 0 0, .slice none 0 0] (.slice none 0 0) (.slice none 0 0) [] from
    ⟨⟨HL1.out.below hb15 HL1.out.lt, HL2.out.below hb5 HL2.out.lt, HL0.out.below hb05 HL0.out.lt, fun x hx => (by cases hx)⟩, hl5, World.ownsRow_nil _ _ _ _, World.ownsRow_nil _ _ _ _⟩)
  have HW5 := Lib.hid (bt HB0.out hb05)
  have hMB : W.heap.size < w2.heap.size := Nat.lt_of_lt_of_le HL0.out.lt (Nat.le_trans HB1.out.size HB2.out.size)
  clear hb5 hl5 hb15 hb05 HB0 HL0 HB1 HL1 HB2 HL2
  generalize w2.heap.size = MB at HS5 hMB ⊢
  generalize W0.heap.size = TB at HS5 ⊢
  generalize w1.heap.size = EB at HS5 ⊢
  obtain ⟨H, hH⟩ : ∃ H, H = W.heap.size := ⟨_, rfl⟩
  have HH := Lib.hid hH
  rw [← hH] at HS5 hMB ⊢
  clear hH
  clear w2 w1 W0
  go_wp2_with fail
  go_loopw [5, 6, 8, 16] (fun _ _ _ iv wr => ∃ (j : Nat) (fv cv : Value) (CS : List Cod), j ≤ k ∧ iv = .int .i64 j ∧ CS.length = j ∧ CS.map (·.body) = (R.take j).map (·.map callI) ∧ Rw wr H MB TB EB #[.slice none 0 0, .slice none 0 0, .slice none 0 0, .slice none 0 0, .slice none 0 0, .slice none 0 0, .slice none 0 0, .bool false, .int .u32 0, .slice none 0 0, .slice none 0 0, .slice none 0 0] fv cv CS ∧ Below H W wr)
    (fun _ _ _ iv _ => k - (intOf iv).toNat)
  case atStart => exact ⟨0, _, _, [], Nat.zero_le _, rfl, rfl, rfl, HS5.out, by rw [HH.out]; exact HW5.out⟩
  case round =>
    clear HS5 HW5
    obtain ⟨j, fv, cv, CS, hj, rfl, hCS, hbody, hR, hB⟩ := hrel
    have HR := Lib.hid hR
    have HB := Lib.hid hB
    have HC := Lib.hid hCS
    have HBD := Lib.hid hbody
    clear hR hB hCS hbody
    by_cases hlt : j < k
    · obtain ⟨u, hu⟩ : ∃ u, OV[j]? = some u := ⟨_, List.getElem?_eq_getElem (by rw [← HKO.out]; exact hlt)⟩
      obtain ⟨l, hl⟩ : ∃ l, R[j]? = some l := ⟨_, List.getElem?_eq_getElem (by rw [← HOL.out, ← HKO.out]; exact hlt)⟩
      obtain ⟨hsu, hll, _⟩ := HO.out j u l hu hl
      obtain ⟨su, cu, rfl, hsu2⟩ := hsu.form
      have HSU := Lib.hid hsu
      obtain ⟨g, off, rfl, _⟩ := hs0 (by intro e; rw [e] at hu; simp at hu)
      have hB0 : Below W.heap.size W wr := by rw [← HH.out]; exact HB.out
      have hcu := (HV.out.later hB0).cell hu (j := 0) rfl
      rw [Nat.mul_one, Nat.add_zero] at hcu
      have HL := Lib.hid hl
      clear hsu hl hu hB0
      go_upto_block 2 with (first | (refine wl_bld _ bld_cd rfl rfl rfl ?_; simp only [Act.put, List.setIfInBounds_toArray, List.set_cons_zero, List.set_cons_succ]))
      obtain ⟨w6, hw6⟩ : ∃ w6, w6 = wr.alloc (.cells nilC.cs.toArray 63) := ⟨_, rfl⟩
      have HL6 := Lib.hid (show Lies w6 wr.heap.size 63 nilC.cs.toArray from hw6 ▸ Lies.new _ _ _)
      have HB6 := Lib.hid (show Below wr.heap.size wr w6 from hw6 ▸ (Below.refl _ _).alloc (Nat.le_refl _) _)
      rw [show wr.alloc (.cells #[.slice none 0 0, .slice none 0 0] 63) = w6 from hw6.symm]
      clear hw6 hcu
      have HCB : H ≤ wr.heap.size := by rw [HH.out]; exact HB.out.size
      obtain ⟨CB, hCB⟩ : ∃ CB, CB = wr.heap.size := ⟨_, rfl⟩
      have HC5 := Lib.hid hCB
      rw [← hCB] at HL6 HB6 HCB ⊢
      clear hCB
      obtain ⟨wo, rfl⟩ : ∃ wo : World, wo = wr := ⟨_, rfl⟩
      go_wp2_with fail
      go_loopw [8, 23] (fun _ iv wx => ∃ (i : Nat) (bv : Value), i ≤ l.length ∧ iv = .int .i64 i ∧ Lies wx CB 63 #[.slice none 0 0, bv] ∧ wx.ownsRow CB 75 5 bv i (((l.take i).map callI).flatMap Ins.cs) ∧ Below CB wo wx)
        (fun _ iv _ => l.length - (intOf iv).toNat)
      case atStart => exact ⟨0, _, Nat.zero_le _, rfl, HL6.out, World.ownsRow_nil _ _ _ _, HB6.out⟩
      case round =>
        clear HL6 HB6
        obtain ⟨i, bv, hi, rfl, hlc, hrow, hB6⟩ := hrel
        have HLC := Lib.hid hlc
        have HRO := Lib.hid hrow
        have HB6 := Lib.hid hB6
        clear hlc hrow hB6
        by_cases hil : i < l.length
        · obtain ⟨x, hx⟩ : ∃ x, l[i]? = some x := ⟨_, List.getElem?_eq_getElem hil⟩
          obtain ⟨g2, off2, rfl, _⟩ := hsu2 (by intro e; rw [e] at hx; simp at hx)
          have hB7 : Below W.heap.size W wr := by
            have := HB6.out
            rw [HC5.out] at this
            exact bt (by rw [← HH.out]; exact HB.out) this
          have hcx := (HSU.out.later hB7).cell hx (j := 0) rfl
          rw [Nat.mul_one, Nat.add_zero] at hcx
          have hcb1 : wr.cell? ⟨CB, 1, none⟩ = some bv := HLC.out.cell 1
          have HX := Lib.hid hx
          clear hx hB7
          obtain ⟨sb, cb, rfl, _, _⟩ := row_form HRO.out
          go_wp2_with (first | (refine wl_bld _ (bld_in x) rfl rfl rfl ?_; simp only [Act.put, List.setIfInBounds_toArray, List.set_cons_zero, List.set_cons_succ]) | (refine wl_bs1 _ _ (bs_in (callI x)) _ rfl rfl rfl (fun w7 hb7 hl7 => ?_); have HB7 := Lib.hid hb7; have HL7 := Lib.hid hl7; clear hb7 hl7; simp only [Act.put, List.setIfInBounds_toArray, List.set_cons_zero, List.set_cons_succ]) | (refine wl_app (by_ := 48) _ _ rfl rfl und_li info_in (by decide) rfl (ownsRow_keep HRO.out HB7.out) len_ins rfl (sl_one HL7.out) (ones_in x) (by simp [maxLen]; omega) (by simp; omega) (Nat.le_trans (Nat.le_of_lt HLC.out.lt) HB7.out.size) (fun v8 w8 hr8 hg8 _ => ?_); obtain ⟨s8, c8, rfl, _, _⟩ := row_form hr8; have HR8 := Lib.hid hr8; have HG8 := Lib.hid hg8; have HLC8 := Lib.hid (lies_frT (HLC.out.below HB7.out HLC.out.lt) (FrT.grown (ownsRow_keep HRO.out HB7.out) hg8) (by decide)); clear hr8 hg8; simp only [Act.put, List.setIfInBounds_toArray, List.set_cons_zero, List.set_cons_succ]) | (refine wl_fld (c0 := [.slice none 0 0, .slice sb i cb]) HLC8.out _ _ rfl rfl rfl rfl [.slice s8 (i + [callI x].length) c8] [.slice none 0 0, .slice s8 (i + [callI x].length) c8] rfl size_lins (by simp [Value.oneCell']) (by simp) rfl (fun w9 hl9 hf9 => ?_); have HL9 := Lib.hid hl9; have HF9 := Lib.hid hf9; clear hl9 hf9; try simp only [Act.put]))
          have hCBl : CB ≤ w7.heap.size := Nat.le_trans (Nat.le_of_lt HLC.out.lt) HB7.out.size
          have hCBr : CB ≤ wr.heap.size := Nat.le_of_lt HLC.out.lt
          have hRO7 := ownsRow_keep HRO.out HB7.out
          refine ⟨⟨i + 1, .slice s8 (i + [callI x].length) c8, by omega, by go_num, HL9.out, ?_, ?_⟩, by simp [intOf]; omega⟩
          · have := row_frT HR8.out (FrT.field HLC8.out HF9.out) (by decide)
            rw [← List.flatMap_append] at this
            rw [List.take_add_one, HX.out, Option.toList_some, List.map_append]
            exact this
          · exact (((HB6.out.trans (HB7.out.mono hCBr)).grown HG8.out hCBl (fun k hk => (row_block hRO7 hk).1)).trans (HF9.out.below (Nat.le_trans hCBl HG8.out.size) (fun k hk => by omega)))
        · obtain rfl : i = l.length := by omega
          have hrow := HRO.out
          rw [List.take_length] at hrow
          have HRO := Lib.hid hrow
          clear hrow hil hi
          go_wp2_with fail
          have hbd := below_drew wr
          have HBX := Lib.hid (show Below wo.heap.size wo wr.drew by have := HB6.out; rw [HC5.out] at this; exact bt this hbd)
          have hHw : H ≤ wr.drew.heap.size := Nat.le_trans HCB (by rw [HC5.out]; exact HBX.out.size)
          obtain ⟨sb, cb, rfl, _, _⟩ := row_form HRO.out
          obtain ⟨sf, cf, rfl, _, _⟩ := row_form HR.out.fr
          obtain ⟨sc, cc, rfl, _, _⟩ := row_form HR.out.cr
          have HRX := Lib.hid (Rx.zero (V := W) (c := (⟨.slice none 0 0, (.slice sb l.length cb), l.map callI⟩ : Cod)) (HR.out.later HBX.out) (HB.out.trans (HBX.out.mono (by rw [HH.out]; exact HB.out.size))) hHw (HLC.out.below hbd HLC.out.lt) rfl (by have := ownsRow_base (ownsRow_keep HRO.out hbd) HCB; simpa using this) (fun i => match i with | 0 => some (.pointer (some ⟨MB, 2, none⟩)) | 1 => some (.slice sf CS.length cf) | 4 => some (.pointer (some ⟨MB, 10, none⟩)) | 5 => some (.slice sc CS.length cc) | 6 => some (.agg (Cod.cs (⟨.slice none 0 0, (.slice sb l.length cb), l.map callI⟩ : Cod)).toArray) | 9 => some (.pointer (some ⟨MB, 2, none⟩)) | 11 => some (.pointer (some ⟨MB, 10, none⟩)) | _ => none) (fun i => match i with | 0 => u35 | 1 => u36 | 2 => u37 | 3 => u38 | 4 => u39 | 5 => u40 | 6 => u41 | 7 => u42 | 8 => u43 | 9 => u44 | 11 => u45 | _ => undef))
          refine region_inv (fun f act w' => ∃ tv : Nat → Value, act = { tmps := #[.slice (some ⟨g, off, none⟩) k cap0, undef, .pointer (some ⟨H, 0, none⟩), .pointer (some ⟨MB, 0, none⟩), undef, .slice su l.length cu, .pointer (some ⟨CB, 0, none⟩), undef, u8, .agg #[.slice none 0 0, .slice none 0 0], .slice (some ⟨TB, 0, none⟩) 1 1, .agg #[.string ⟨#[109, 97, 105, 110]⟩, .int .u8 0, .int .u32 0], .slice (some ⟨EB, 0, none⟩) 1 1, .agg #[.slice (some ⟨TB, 0, none⟩) 1 1, .slice none 0 0, .slice none 0 0, .slice none 0 0, .slice none 0 0, .slice none 0 0, .slice (some ⟨EB, 0, none⟩) 1 1, .bool false, .int .u32 0, .slice none 0 0, .slice none 0 0, .slice none 0 0], .slice (some ⟨g, off, none⟩) k cap0, .int .i64 k, .int .i64 j, .bool true, .pointer (some ⟨g, off + j, none⟩), .slice su l.length cu, .agg #[.slice none 0 0, .slice none 0 0], .slice su l.length cu, .int .i64 l.length, .int .i64 l.length, .bool false, u25, u26, u27, u28, u29, u30, u31, u32, u33, u34, tv 0, tv 1, tv 2, tv 3, tv 4, tv 5, tv 6, tv 7, tv 8, tv 9, tv 11, u46, undef], defers := [] } ∧ Rx W H MB CB TB EB #[.slice none 0 0, .slice none 0 0, .slice none 0 0, .slice none 0 0, .slice none 0 0, .slice none 0 0, .slice none 0 0, .bool false, .int .u32 0, .slice none 0 0, .slice none 0 0, .slice none 0 0] (.slice sf CS.length cf) (.slice sc CS.length cc) CS (⟨.slice none 0 0, (.slice sb l.length cb), l.map callI⟩ : Cod) (fun i => match i with | 0 => some (.pointer (some ⟨MB, 2, none⟩)) | 1 => some (.slice sf CS.length cf) | 4 => some (.pointer (some ⟨MB, 10, none⟩)) | 5 => some (.slice sc CS.length cc) | 6 => some (.agg (Cod.cs (⟨.slice none 0 0, (.slice sb l.length cb), l.map callI⟩ : Cod)).toArray) | 9 => some (.pointer (some ⟨MB, 2, none⟩)) | 11 => some (.pointer (some ⟨MB, 10, none⟩)) | _ => none) f tv w') rfl (by kernel_rfl) ⟨_, rfl, HRX.out⟩ (fun f act w' i o hi hf hall hI KK hKK => ?_) (fun f act w' hall hI => ?_)
          · obtain ⟨tv, rfl, hP⟩ := hI
            clear HRX HRO HLC HB6
            have hkl : CS.length ≤ 1000 := by rw [HC.out]; omega
            rcases i with _ | _ | _ | _ | _ | _ | _ | _ | _ | _ | _ | _ | _ | i
            all_goals (simp only [List.getElem?_cons_zero, List.getElem?_cons_succ, List.getElem?_nil, Option.some.injEq, reduceCtorEq] at hi)
            all_goals (try subst hi)
            all_goals (try simp [Region.binds] at hall)
            all_goals (try rw [if_pos (c := Region.wanted _ _ = true) rfl])
            · refine wp_exec (v := .pointer (some ⟨MB, 2, none⟩)) (w' := w') ?_ (hKK _ _ ⟨upd tv 0 _, rfl, hP.simple rfl (by decide) (by decide) (by decide) (by decide) (by decide) (by decide)⟩)
              go_simp
              (try go_bits)
              (try (with_reducible rfl))
            · have q : tv 0 = .pointer (some ⟨MB, 2, none⟩) := hP.sim 0 _ (by simp_all) rfl
              have hn : ¬ f 10 = true := fun e => by rw [hP.ord.h3 (hP.o10 e)] at hf; cases hf
              have hc0 : w'.cell? ⟨MB, 2, none⟩ = some (.slice sf CS.length cf) := by have := hP.lies.cell 2; rw [if_neg hn] at this; exact this
              refine wp_exec (v := .slice sf CS.length cf) (w' := w') ?_ (hKK _ _ ⟨upd tv 1 _, rfl, hP.simple rfl (by decide) (by decide) (by decide) (by decide) (by decide) (by decide)⟩)
              rw [q]
              go_simp
              (try go_bits)
              (try (with_reducible rfl))
            · refine wp_bs1 _ _ (bs_u32 0) _ rfl rfl (fun w7 hb7 hl7 => ?_)
              exact hKK _ _ ⟨upd tv 2 _, rfl, hP.s2 rfl hb7 hl7⟩
            · have q1 : tv 1 = .slice sf CS.length cf := hP.sim 1 _ (by simp_all) rfl
              obtain ⟨g2, q2, hl2⟩ := hP.r2 (by simp_all)
              refine wp_app (by_ := 4) (.tmp 36) (.tmp 37) rfl und_lu info_u32 (by decide) (v := .slice sf CS.length cf) q1 (hP.r0 hf) (en := u32c) (fun _ => rfl) (L := [0]) q2 (sl_one (hl2 hf)) ones_u32 (by simp [maxLen]; omega) (by simp; omega) hP.hH (fun v8 w8 hr8 hg8 _ => ?_)
              exact hKK _ _ ⟨upd tv 3 _, rfl, hP.s3 rfl (by simp_all) hf hr8 hg8⟩
            · refine wp_exec (v := .pointer (some ⟨MB, 10, none⟩)) (w' := w') ?_ (hKK _ _ ⟨upd tv 4 _, rfl, hP.simple rfl (by decide) (by decide) (by decide) (by decide) (by decide) (by decide)⟩)
              go_simp
              (try go_bits)
              (try (with_reducible rfl))
            · have q : tv 4 = .pointer (some ⟨MB, 10, none⟩) := hP.sim 4 _ (by simp_all) rfl
              have hn : ¬ f 12 = true := fun e => by rw [(hP.ord.h8 (hP.o12 e)).1] at hf; cases hf
              have hc0 : w'.cell? ⟨MB, 10, none⟩ = some (.slice sc CS.length cc) := by have := hP.lies.cell 10; rw [if_neg hn] at this; exact this
              refine wp_exec (v := .slice sc CS.length cc) (w' := w') ?_ (hKK _ _ ⟨upd tv 5 _, rfl, hP.simple rfl (by decide) (by decide) (by decide) (by decide) (by decide) (by decide)⟩)
              rw [q]
              go_simp
              (try go_bits)
              (try (with_reducible rfl))
            · have hn : f 8 = false := by
                cases h8 : f 8 with
                | false => rfl
                | true => rw [(hP.ord.h8 h8).2] at hf; cases hf
              exact wp_exec (exec_load (lies_range (hP.cb hn)) (.tmp 6) rfl rfl Try.underlying63 rfl sizeCod) (hKK _ _ ⟨upd tv 6 _, rfl, hP.simple rfl (by decide) (by decide) (by decide) (by decide) (by decide) (by decide)⟩)
            · have q6 : tv 6 = .agg (⟨.slice none 0 0, .slice sb l.length cb, l.map callI⟩ : Cod).cs.toArray := hP.sim 6 _ (by simp_all) rfl
              refine wp_bs1 _ _ (bs_cd (⟨.slice none 0 0, .slice sb l.length cb, l.map callI⟩ : Cod)) (.tmp 41) rfl q6 (fun w7 hb7 hl7 => ?_)
              exact hKK _ _ ⟨upd tv 7 _, rfl, hP.s7 rfl (by simp_all) hb7 hl7⟩
            · have q5 : tv 5 = .slice sc CS.length cc := hP.sim 5 _ (by simp_all) rfl
              obtain ⟨g2, q7, hl2⟩ := hP.r7 (by simp_all)
              refine wp_app (by_ := 48) (.tmp 40) (.tmp 42) rfl und_lc info_cd (by decide) (v := .slice sc CS.length cc) q5 (hP.q0 hf) (en := Cod.cs) len_cod (L := [(⟨.slice none 0 0, .slice sb l.length cb, l.map callI⟩ : Cod)]) q7 (sl_one (hl2 hf)) (by simp [Cod.cs, Value.oneCell']) (by simp [maxLen]; omega) (by simp; omega) hP.hH (fun v8 w8 hr8 hg8 _ => ?_)
              exact hKK _ _ ⟨upd tv 8 _, rfl, hP.s8 rfl (by simp_all) (by simp_all) hf hr8 hg8⟩
            · refine wp_exec (v := .pointer (some ⟨MB, 2, none⟩)) (w' := w') ?_ (hKK _ _ ⟨upd tv 9 _, rfl, hP.simple rfl (by decide) (by decide) (by decide) (by decide) (by decide) (by decide)⟩)
              go_simp
              (try go_bits)
              (try (with_reducible rfl))
            · have q9 : tv 9 = .pointer (some ⟨MB, 2, none⟩) := hP.sim 9 _ (by simp_all) rfl
              have h3 : f 3 = true := by simp_all
              obtain ⟨sx, cx, q3, _, _⟩ := row_form (hP.r3 h3)
              refine wp_fld hP.lies (.tmp 44) (.tmp 38) rfl q9 q3 [_] (mcs (sl1 TB) (tv 3) (sl1 EB) (if f 12 = true then tv 8 else .slice sc CS.length cc)) rfl size_lu (by simp [Value.oneCell']) (by simp [mcs]) (by rw [q3]; rfl) (fun w9 hl9 hf9 => ?_)
              exact hKK _ _ ⟨upd tv 10 undef, rfl, hP.s10 hMB rfl h3 undef hl9 hf9⟩
            · refine wp_exec (v := .pointer (some ⟨MB, 10, none⟩)) (w' := w') ?_ (hKK _ _ ⟨upd tv 11 _, rfl, hP.simple rfl (by decide) (by decide) (by decide) (by decide) (by decide) (by decide)⟩)
              go_simp
              (try go_bits)
              (try (with_reducible rfl))
            · have q9 : tv 11 = .pointer (some ⟨MB, 10, none⟩) := hP.sim 11 _ (by simp_all) rfl
              have h3 : f 8 = true := by simp_all
              obtain ⟨sx, cx, q3, _, _⟩ := row_form (hP.q8 h3)
              refine wp_fld hP.lies (.tmp 45) (.tmp 43) rfl q9 q3 [_] (mcs (sl1 TB) (if f 10 = true then tv 3 else .slice sf CS.length cf) (sl1 EB) (tv 8)) rfl size_lc (by simp [Value.oneCell']) (by simp [mcs]) (by rw [q3]; rfl) (fun w9 hl9 hf9 => ?_)
              exact hKK _ _ ⟨upd tv 12 undef, rfl, hP.s12 hMB rfl h3 undef hl9 hf9⟩
          · obtain ⟨tv, rfl, hP⟩ := hI
            have hall' : ∀ i, i < 13 → f i = true := fun i hi => hall i (by simpa using hi)
            have HE := Lib.hid (hP.end (hall' 3 (by omega)) (hall' 8 (by omega)) (hall' 10 (by omega)) (hall' 12 (by omega)))
            have HBE := Lib.hid hP.bel
            clear hP hall hall' HRX HRO HLC HB6
            generalize tv 3 = t3 at HE ⊢
            generalize tv 8 = t8 at HE ⊢
            go_wp2_with fail
            exact ⟨⟨j + 1, t3, t8, CS ++ [_], by omega, by go_num, by rw [List.length_append, HC.out]; rfl, by rw [List.map_append, HBD.out, List.take_add_one, HL.out, Option.toList_some, List.map_append]; rfl, HE.out, HBE.out⟩, by simp [intOf]; omega⟩
    · obtain rfl : j = k := by omega
      have hbd : CS.map (·.body) = R.map (·.map callI) := by rw [HBD.out, List.take_of_length_le (by rw [← HOL.out, ← HKO.out]; exact Nat.le_refl _)]
      have HBD := Lib.hid hbd
      clear hbd
      obtain ⟨w8, rfl⟩ : ∃ w8 : World, w8 = wr := ⟨_, rfl⟩
      have HB8 := Lib.hid (show Below W.heap.size W w8 by rw [← HH.out]; exact HB.out)
      obtain ⟨sf, cf, rfl, _, _⟩ := row_form HR.out.fr
      obtain ⟨sc, cc, rfl, _, _⟩ := row_form HR.out.cr
      go_wp2_with (first | (refine wpList_load_mid rfl 33 _ rfl MB 0 rfl (mcs (sl1 TB) (.slice sf CS.length cf) (sl1 EB) (.slice sc CS.length cc)) _ (lies_range HR.out.lies) Try.underlying33 rfl sizeMcs ?_; simp only [Act.put, List.setIfInBounds_toArray, List.set_cons_zero, List.set_cons_succ]) | (refine wl_put HR.out.st.res (mcs (sl1 TB) (.slice sf CS.length cf) (sl1 EB) (.slice sc CS.length cc)) _ _ rfl rfl rfl rfl rfl sizeMcs (oneMcs _ _ _ _ _ _ _ _) (fun w9 hL9 hF9 => ?_); have HF9 := Lib.hid hF9; have HL9 := Lib.hid hL9; clear hL9 hF9; try simp only [Act.put]))
      (try simp only [Exit.inBlock, Exit.then])
      have hb9 := HF9.out.below (B := W.heap.size) HB8.out.size (fun k hk => by rw [hk, HH.out]; exact Nat.le_refl _)
      have HBF := Lib.hid (HB8.out.trans hb9)
      have hT := FrT.field HR.out.st.res HF9.out
      have hty := lies_frT HR.out.st.tt hT (by decide)
      have hex := lies_frT HR.out.st.ee hT (by decide)
      have hfr := row_frT HR.out.fr hT (by decide)
      have hcr := row_frT HR.out.cr hT (by decide)
      have hbd := HBD.out
      have hCR : CS.length = R.length := by have := congrArg List.length hbd; simpa using this
      have hins : ∀ x ∈ CS, x.lv = .slice none 0 0 ∧ (∃ l : List Nat, l.length ≤ 1000 ∧ (∀ y ∈ l, y < 4294967296) ∧ x.body = l.map callI) ∧ Sl w9 5 Ins.cs x.bv x.body := fun x hx => by
        obtain ⟨h1, h2⟩ := HR.out.st.bd x hx
        refine ⟨h1, ?_, Fm.WRow.sl (own := fun _ => True) len_ins (WRow.of_own (row_frT h2 hT (by decide)) (fun _ _ => trivial))⟩
        have hm : x.body ∈ R.map (·.map callI) := by rw [← hbd]; exact List.mem_map.2 ⟨x, hx, rfl⟩
        obtain ⟨l, hl, e⟩ := List.mem_map.1 hm
        obtain ⟨i, hi, e2⟩ := List.getElem_of_mem hl
        obtain ⟨u, hu⟩ : ∃ u, OV[i]? = some u := ⟨_, List.getElem?_eq_getElem (by rw [HOL.out]; exact hi)⟩
        obtain ⟨_, h4, h5⟩ := HO.out i u l hu (by rw [List.getElem?_eq_getElem hi, e2])
        exact ⟨l, h4, h5, e.symm⟩
      have hRB : R.length ≤ Bd := Nat.le_trans (by rw [← hCR, HC.out]; exact hkR) (show (1000 : Nat) ≤ 1048576 by omega)
      have h1B : ∀ {n : Nat}, n ≤ 1000 → n ≤ Bd := fun h => Nat.le_trans h (show (1000 : Nat) ≤ 1048576 by omega)
      refine bodyPost_ret_by (results_c rfl _ _ H _ _ rfl HL9.out Try.underlying33 rfl sizeMcs) rfl ⟨⟨sl1 TB, [nilT], .slice none 0 0, [], .slice sf CS.length cf, CS.map (fun _ => 0), .slice none 0 0, [], .slice none 0 0, [], .slice none 0 0, [], sl1 EB, [mainE], false, 0, .slice none 0 0, [], .slice sc CS.length cc, CS, .slice none 0 0⟩, rfl, ?_, ?_, HBF.out⟩
      · refine ⟨⟨sl_one hty, fun y hy => ?_, h1B (by simp)⟩, ⟨Sl.nil _ _ _ _, by simp, by simp⟩, ⟨Fm.WRow.sl (own := fun _ => True) (fun _ => rfl) (by rw [List.length_map]; exact WRow.of_own hfr (fun _ _ => trivial)), fun y hy => by
          obtain ⟨z, _, rfl⟩ := List.mem_map.1 hy
          omega, by rw [List.length_map, hCR]; exact hRB⟩, ⟨Sl.nil _ _ _ _, by simp, by simp⟩, ⟨Sl.nil _ _ _ _, by simp, by simp⟩, ⟨Sl.nil _ _ _ _, by simp, by simp⟩, ⟨sl_one hex, fun y hy => ?_, h1B (by simp)⟩, (show (0 : Nat) < 4294967296 by omega), ⟨Sl.nil _ _ _ _, by simp, by simp⟩, ⟨Fm.WRow.sl (own := fun _ => True) len_cod (WRow.of_own hcr (fun _ _ => trivial)), fun y hy => ?_, by rw [hCR]; exact hRB⟩, ⟨_, _, _, rfl⟩⟩
        · obtain rfl := List.mem_singleton.1 hy
          exact ⟨⟨Sl.nil _ _ _ _, by simp, by simp [nilT]⟩, ⟨Sl.nil _ _ _ _, by simp, by simp [nilT]⟩⟩
        · obtain rfl := List.mem_singleton.1 hy
          show (0 : Nat) < 4294967296
          omega
        · obtain ⟨h1, ⟨l, h2, h3, h4⟩, h5⟩ := hins y hy
          refine ⟨⟨none, 0, 0, h1⟩, h5, fun z hz => ?_, by rw [h4, List.length_map]; exact h1B h2⟩
          rw [h4] at hz
          obtain ⟨f, hf, rfl⟩ := List.mem_map.1 hz
          exact ⟨h3 f hf, (show (0 : Nat) < 4294967296 by omega), ⟨none, 0, 0, rfl⟩⟩
      · refine ⟨rfl, rfl, ?_, rfl, rfl, rfl, hbd⟩
        show CS.map (fun _ => 0) = R.map (fun _ => 0)
        rw [List.map_const', List.map_const', hCR]
end Go.Proofs.Ytjafmclladiblaa.Gr
