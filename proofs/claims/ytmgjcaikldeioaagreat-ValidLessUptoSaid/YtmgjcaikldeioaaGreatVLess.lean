/- The statement ValidLessUpto: for every input of bulk at most 1048576 the call returns true (a valid module is valid without any of its exports, elements and data, and without its start; with one export twice it is not) and each argument reads behind it as it did: the row. Conditions: the bulk's bound alone. -/
import Derived.Test.YtmgjcaikldeioaaGreatNj
import Derived.Test.YtmgjcaikldeioaaGreatNa
import Derived.Test.YtmgjcaikldeioaaGreatRw
import Derived.Test.YtmgjcaikldeioaaGreatRwW
namespace Go.Proofs.YtmgjcaikldeioaaGreat.Va
open Gr Ty

/-- Names that are not yet there, each once. -/
def Once : List Exp → List (List UInt8) → Prop
  | [], _ => True
  | x :: r, ns => nmL x.nm ∉ ns ∧ Once r (ns ++ [nmL x.nm])
theorem once_sub {l : List Exp} : ∀ {ns ns' : List (List UInt8)}, (∀ b ∈ ns', b ∈ ns) → Once l ns → Once l ns' := by
  induction l with
  | nil => intro _ _ _ _; trivial
  | cons x r ih =>
    intro ns ns' h ho
    refine ⟨fun hm => ho.1 (h _ hm), ih (fun b hb => ?_) ho.2⟩
    rcases List.mem_append.1 hb with hb | hb
    · exact List.mem_append_left _ (h b hb)
    · exact List.mem_append_right _ hb
theorem once_erase : ∀ {l : List Exp} {ns : List (List UInt8)} (k : Nat), Once l ns → Once (l.take k ++ l.drop (k + 1)) ns
  | [], _, _, _ => by simp [Once]
  | x :: r, ns, 0, h => by
    simp only [List.take_zero, List.nil_append, List.drop_succ_cons, List.drop_zero]
    exact once_sub (fun b hb => List.mem_append_left _ hb) h.2
  | x :: r, ns, k + 1, h => ⟨h.1, once_erase k h.2⟩
section
variable {m m' : Mod}
theorem expE_iff : ∀ {l : List Exp} {ns : List (List UInt8)}, expE m l ns 0 = 0 ↔ (∀ x ∈ l, thereB m x.kind x.ix = true) ∧ Once l ns
  | [], ns => by simp [expE, Once]
  | x :: r, ns => by
    rw [expE, if_pos rfl]
    constructor
    · intro h
      have h1 := expE_back h
      have h2 := (mst_zero (by decide)).1 h1
      have h3 := (mst_zero (by decide)).1 h2.1
      rw [h1] at h
      obtain ⟨h4, h5⟩ := expE_iff.1 h
      refine ⟨fun y hy => ?_, ?_, h5⟩
      · rcases List.mem_cons.1 hy with rfl | hy
        · exact h3.2
        · exact h4 y hy
      · have := h2.2
        simpa using this
    · rintro ⟨h1, h2, h3⟩
      rw [h1 x (.head _), mst_true, show (!decide (nmL x.nm ∈ ns)) = true from by simpa using h2, mst_true]
      exact expE_iff.2 ⟨fun y hy => h1 y (.tail _ hy), h3⟩
/-- What a check of its parts asks is the same. -/
structure Like (m m' : Mod) : Prop where
  types : m'.types = m.types
  imps : m'.imps = m.imps
  funcs : m'.funcs = m.funcs
  tabs : m'.tabs = m.tabs
  mems : m'.mems = m.mems
  globs : m'.globs = m.globs
  codes : m'.codes = m.codes
theorem Like.ft (h : Like m m') : ftype m' = ftype m := by
  funext i
  unfold ftype ftyps fimps
  rw [h.imps, h.funcs, h.types]
theorem Like.fk (h : Like m m') (k : UInt8) : Gr.fk m' k = Gr.fk m k := by unfold Gr.fk; rw [h.imps]
theorem Like.bs (h : Like m m') : bsOf m' = bsOf m := by unfold bsOf; rw [h.fk, h.tabs]
theorem Like.ms (h : Like m m') : msOf m' = msOf m := by unfold msOf; rw [h.fk, h.mems]
theorem Like.gs (h : Like m m') : gsOf m' = gsOf m := by unfold gsOf; rw [h.fk, h.globs]
theorem Like.cnt (h : Like m m') : Gr.cnt m' = Gr.cnt m := by unfold Gr.cnt fimps; rw [h.imps, h.funcs]
theorem Like.there (h : Like m m') : thereB m' = thereB m := by
  funext k i
  unfold thereB cntK
  rw [h.cnt, h.bs, h.ms, h.gs]
theorem Like.cons (h : Like m m') : constE m' = constE m := by
  funext l t e
  unfold constE gl
  rw [h.fk, h.gs]
theorem Like.glb (h : Like m m') : glbE m' = glbE m := by funext g e; unfold glbE; rw [h.cons]
theorem Like.elm (h : Like m m') : elmE m' = elmE m := by funext g e; unfold elmE; rw [h.cons, h.there]
theorem Like.imp (h : Like m m') : impE m' = impE m := by funext g e; unfold impE; rw [h.types]
theorem Like.sto (h : Like m m') : storesE m' = storesE m := by funext e; unfold storesE; rw [h.bs, h.ms]
theorem Like.cod (h : Like m m') : codC m' = codC m := by
  funext i c
  unfold codC spX spcOf fnA
  rw [h.ft, h.types, h.gs, h.bs, h.ms, h.fk]
theorem Like.codE (h : Like m m') : ∀ (l : List Cod) (H : List Nat) (e : Nat), Va.codE m' l H e = Va.codE m l H e
  | [], _, _ => rfl
  | x :: r, H, e => by rw [Va.codE, Va.codE, h.cod, Like.codE h r]
theorem Like.expE (h : Like m m') : ∀ (l : List Exp) (ns : List (List UInt8)) (e : Nat), Va.expE m' l ns e = Va.expE m l ns e
  | [], _, _ => rfl
  | x :: r, ns, e => by rw [Va.expE, Va.expE, h.there, Like.expE h r]
/-- The errors ahead of the exports but those of the exports' kinds. -/
def mid (m : Mod) (e : Nat) : Nat := eachE (glbE m) m.globs (storesE m (eachE (fun t e => mst e (m.types[t]?).isSome 80) m.funcs (eachE (impE m) m.imps (eachE typE m.types e))))
theorem Like.mid (h : Like m m') : Va.mid m' = Va.mid m := by
  funext e
  unfold Va.mid
  rw [h.glb, h.globs, h.sto, h.types, h.funcs, h.imp, h.imps]
theorem fore9_eq (m : Mod) : fore9 m = expE m m.exps [] (mid m (eachE (fun x e => mst e (decide (x.kind ≤ 3)) 2) m.exps (eachE (fun x e => mst e (decide (x.kind ≤ 3)) 2) m.imps (mst 0 (m.codes.length == m.funcs.length) 2)))) := rfl
theorem mid_back {e : Nat} (h : mid m e = 0) : e = 0 := eachE_back (eachE_back (eachE_back (storesE_back (eachE_back h))))
/-- Less. -/
theorem vchk_less (h : (vchk m).2 = 0) (hl : Like m m') (hx : ∃ k, m'.exps = m.exps.take k ++ m.exps.drop (k + 1) ∨ m'.exps = m.exps) (he : ∀ x ∈ m'.elems, x ∈ m.elems) (hs : m'.hs = false) (hd : m'.datas = []) : (vchk m').2 = 0 ∧ (vchk m').1 = (vchk m).1 := by
  obtain ⟨h1, h2⟩ := vchk_zero h
  have h3 : (codE m m.codes [] (fore m)).2 = 0 := eachE_back h1
  have h4 : fore m = 0 := codE_back h3
  have h5 : fore9 m = 0 := start_back (eachE_back h4)
  rw [fore9_eq] at h5
  have h6 := expE_back h5
  have h7 := mid_back h6
  rw [h7] at h6
  have h8 := eachE_back h7
  rw [h7, h6] at h5
  obtain ⟨h9, h10⟩ := expE_iff.1 h5
  have hsub : ∀ x ∈ m'.exps, x ∈ m.exps := by
    obtain ⟨k, hk | hk⟩ := hx
    · rw [hk]
      intro x hx
      rcases List.mem_append.1 hx with hx | hx
      · exact List.mem_of_mem_take hx
      · exact List.mem_of_mem_drop hx
    · rw [hk]; exact fun _ h => h
  have hon : Once m'.exps [] := by
    obtain ⟨k, hk | hk⟩ := hx
    · rw [hk]; exact once_erase k h10
    · rw [hk]; exact h10
  have g1 : eachE (fun x e => mst e (decide (x.kind ≤ 3)) 2) m'.imps (mst 0 (m'.codes.length == m'.funcs.length) 2) = 0 := by rw [hl.imps, hl.codes, hl.funcs]; exact h8
  have hk := ((eachE_zero (f := fun (x : Exp) e => mst e (decide (x.kind ≤ 3)) 2) (fun x e => mst_back (by decide))).1 h7).2
  have g2 : eachE (fun x e => mst e (decide (x.kind ≤ 3)) 2) m'.exps 0 = 0 := (eachE_zero (f := fun (x : Exp) e => mst e (decide (x.kind ≤ 3)) 2) (fun x e => mst_back (by decide))).2 ⟨rfl, fun x hx => hk x (hsub x hx)⟩
  have g9 : fore9 m' = 0 := by
    rw [fore9_eq, g1, g2, hl.mid, h6, hl.expE]
    exact expE_iff.2 ⟨fun x hx => h9 x (hsub x hx), hon⟩
  have hel := ((eachE_zero (f := elmE m) (fun x e => elmE_back)).1 h4).2
  have gf : fore m' = 0 := by
    unfold fore
    rw [hs, g9, hl.elm]
    exact (eachE_zero (f := elmE m) (fun x e => elmE_back)).2 ⟨rfl, fun x hx => hel x (he x hx)⟩
  have gc : codE m' m'.codes [] (fore m') = codE m m.codes [] (fore m) := by rw [hl.codE, hl.codes, gf, h4]
  have gv : vchk m' = ((codE m m.codes [] (fore m)).1, 0) := by
    unfold vchk
    simp only [gc, hd]
    rw [show eachE (datE m') [] (codE m m.codes [] (fore m)).2 = 0 from h3, if_pos rfl]
  exact ⟨by rw [gv], by rw [gv, h2]⟩
/-- One export twice. -/
theorem vchk_more {x : Exp} (h : (vchk m).2 = 0) (hl : Like m m') (hx : x ∈ m.exps) (he : m'.exps = m.exps ++ [x]) : (vchk m').2 = 111 := by
  obtain ⟨h1, _⟩ := vchk_zero h
  have h4 : fore m = 0 := codE_back (eachE_back h1)
  have h5 : fore9 m = 0 := start_back (eachE_back h4)
  rw [fore9_eq] at h5
  have h6 := expE_back h5
  have h7 := mid_back h6
  rw [h7] at h6
  have h8 := eachE_back h7
  rw [h7, h6] at h5
  obtain ⟨h9, _⟩ := expE_iff.1 h5
  have g1 : eachE (fun x e => mst e (decide (x.kind ≤ 3)) 2) m'.imps (mst 0 (m'.codes.length == m'.funcs.length) 2) = 0 := by rw [hl.imps, hl.codes, hl.funcs]; exact h8
  have hk := ((eachE_zero (f := fun (x : Exp) e => mst e (decide (x.kind ≤ 3)) 2) (fun x e => mst_back (by decide))).1 h7).2
  have g2 : eachE (fun x e => mst e (decide (x.kind ≤ 3)) 2) m'.exps 0 = 0 := (eachE_zero (f := fun (x : Exp) e => mst e (decide (x.kind ≤ 3)) 2) (fun x e => mst_back (by decide))).2 ⟨rfl, fun y hy => by
    rw [he] at hy
    rcases List.mem_append.1 hy with hy | hy
    · exact hk y hy
    · obtain rfl := List.mem_singleton.1 hy
      exact hk y hx⟩
  have g9 : fore9 m' = 111 := by
    rw [fore9_eq, g1, g2, hl.mid, h6, hl.expE, he, expE_snoc x h5, h9 x hx, mst_true, List.nil_append]
    rw [show decide (nmL x.nm ∈ m.exps.map (fun y => nmL y.nm)) = true from decide_eq_true (List.mem_map.2 ⟨x, hx, rfl⟩)]
    rfl
  have gf : fore m' = 111 := by
    unfold fore
    rw [g9]
    cases m'.hs with
    | true =>
      rw [if_pos rfl, mst_ne (by decide)]
      exact eachE_ne (by decide)
    | false =>
      rw [if_neg (by decide)]
      exact eachE_ne (by decide)
  unfold vchk
  simp only [gf, codE_ne (show (111 : Nat) ≠ 0 by decide)]
  rw [eachE_ne (show (111 : Nat) ≠ 0 by decide)]
  rfl
end
end Go.Proofs.YtmgjcaikldeioaaGreat.Va
/- Parts of lists of exports, of elements; one of them made. -/
namespace Go.Proofs.YtmgjcaikldeioaaGreat.Va
open Go Go.RowKit Go.Lib Kt Fm Gr Ty

theorem sl_takeI {α : Type} {w : World} {sz : Nat} {en : α → List Value} {s : Option Addr} {n c k : Nat} {L : List α} (h : Sl w sz en (.slice s n c) L) (hk : k ≤ L.length) : Sl w sz en (.slice s k c) (L.take k) := by
  obtain ⟨s', c', e, h2⟩ := h
  injection e with e1 e2 e3
  subst e1
  refine ⟨s, c, by rw [List.length_take, Nat.min_eq_left hk], fun hne => ?_⟩
  have hL : L ≠ [] := fun e => hne (by rw [e]; simp)
  obtain ⟨g, off, e, hlt, hc⟩ := h2 hL
  refine ⟨g, off, e, hlt, fun i x hx j u hu => hc i x ?_ j u hu⟩
  rw [List.getElem?_take] at hx
  split at hx
  · exact hx
  · cases hx
theorem sl_dropI {α : Type} {w : World} {sz : Nat} {en : α → List Value} {g off n c c' k : Nat} {L : List α} (h : Sl w sz en (.slice (some ⟨g, off, none⟩) n c) L) : Sl w sz en (.slice (some ⟨g, off + k * sz, none⟩) (L.length - k) c') (L.drop k) := by
  obtain ⟨s', c2, e, h2⟩ := h
  injection e with e1 e2 e3
  subst e1
  refine ⟨_, c', by rw [List.length_drop], fun hne => ?_⟩
  have hL : L ≠ [] := fun e => hne (by rw [e]; simp)
  obtain ⟨g', off', e, hlt, hc⟩ := h2 hL
  injection e with e
  injection e with e4 e5
  subst e4 e5
  refine ⟨g, off + k * sz, rfl, hlt, fun i x hx j u hu => ?_⟩
  have := hc (k + i) x (by rw [List.getElem?_drop] at hx; exact hx) j u hu
  rw [show off + k * sz + i * sz + j = off + (k + i) * sz + j by rw [Nat.add_mul]; omega]
  exact this
/-- No more than there is room for, and less than the bound. -/
def CapOk (v : Value) : Prop := ∀ s n c, v = .slice s n c → n ≤ c ∧ n < 1048576
/-- What is behind the first k. -/
def dropV (sb : Option Addr) (n cb k : Nat) : Value := match sb with
  | none => .slice none (n - k) (cb - k)
  | some a => .slice (if cb = k then some a else some (a.add (k * 3))) (n - k) (cb - k)
theorem sl_dropV {w : World} {sb : Option Addr} {n cb k : Nat} {α : Type} {en : α → List Value} {L : List α} (h : Sl w 3 en (.slice sb n cb) L) (hn : n ≤ cb) : Sl w 3 en (dropV sb n cb k) (L.drop k) := by
  have hL : L.length = n := by
    obtain ⟨_, _, e, _⟩ := h.form
    injection e with _ e _
    exact e.symm
  by_cases he : L.drop k = []
  · rw [he]
    have h0 : n - k = 0 := by rw [← hL, ← List.length_drop, he]; rfl
    unfold dropV
    cases sb with
    | none => exact ⟨_, _, by rw [h0]; rfl, fun e => absurd rfl e⟩
    | some a => exact ⟨_, _, by simp only [h0]; rfl, fun e => absurd rfl e⟩
  · have hk : k < n := by
      have := List.length_pos_iff.2 he
      rw [List.length_drop] at this
      omega
    obtain ⟨s, c, e, hs⟩ := h.form
    injection e with e1 _ _
    subst e1
    obtain ⟨g, off, rfl, _⟩ := hs (fun e => by rw [e] at hL; simp at hL; omega)
    have := sl_dropI (k := k) (c' := cb - k) h
    unfold dropV
    simp only [if_neg (show ¬ cb = k by omega), Addr.add_lit]
    rw [← hL]
    exact this
theorem exec_sl1x {op : Oper} {act : Act} {w : World} {sb : Option Addr} {n cb k : Nat} (p : Operand) (t : Nat) (ho : op.op = .slice 27 p none (some (.tmp t)) none) (hp : act.eval p = .slice sb n cb) (hq : act.eval (.tmp t) = .int .i64 k) (hk : k ≤ cb) : (execOp act.eval op).run Tryz.prog w = .ok (.value (.slice sb k cb)) w := by
  have hk2 : (k : Int) ≤ (cb : Int) := by omega
  have hq' : act.tmps[t]?.getD undef = .int .i64 k := by simpa [Act.eval] using hq
  unfold execOp
  simp only [ho, hp]
  cases sb with
  | none => first | (go_simp; done) | (go_simp; simp [hq', hk])
  | some a => first | (go_simp; done) | (go_simp; simp [hq', hk])
theorem exec_sl2x {op : Oper} {act : Act} {w : World} {sb : Option Addr} {n cb k : Nat} (p : Operand) (t : Nat) (ho : op.op = .slice 27 p (some (.tmp t)) none none) (hp : act.eval p = .slice sb n cb) (hq : act.eval (.tmp t) = .int .i64 k) (hk : k ≤ n) (hn : n ≤ cb) : (execOp act.eval op).run Tryz.prog w = .ok (.value (dropV sb n cb k)) w := by
  have hk2 : (k : Int) ≤ (n : Int) := by omega
  have hk3 : (n : Int) ≤ (cb : Int) := by omega
  have hq' : act.tmps[t]?.getD undef = .int .i64 k := by simpa [Act.eval] using hq
  unfold execOp dropV
  simp only [ho, hp]
  cases sb with
  | none => go_simp
  | some a => go_simp
theorem und_x : Tryz.prog.underlying 27 = some (.slice 61) := by kernel_rfl
theorem inf_x : (Tryz.prog.info? 61).map (fun i => (i.zero.map (·.cells.size), i.size, i.bytes)) = some (some 3, 3, 24) := by kernel_rfl
theorem siz_x : (Tryz.prog.info? 27).map (·.size) = some 1 := by kernel_rfl
theorem bs_x0 (w : World) : (Instr.buildSlice 27 0 #[]).run Tryz.prog w = .ok (.slice (some ⟨w.heap.size, 0, none⟩) 0 0) (w.alloc (.cells #[] 61)) := by kernel_rfl
theorem row_x0 {w : World} {base g : Nat} (h : Lies w g 61 #[]) (hb : base ≤ g) : w.ownsRow base 61 3 (.slice (some ⟨g, 0, none⟩) 0 0) 0 [] :=
  ⟨rfl, .inr ⟨g, 0, #[], rfl, hb, h, Nat.le_refl _, Nat.zero_le _, rfl, rfl⟩⟩
theorem wp_x0 {op : Oper} {a : Act} {w : World} {K : Act → World → Prop} {Q : Exit → Act → World → Prop} (ho : op.op = .buildSlice 27 0 #[]) (hK : ∀ w1, Below w.heap.size w w1 → Lies w1 w.heap.size 61 #[] → K (a.put op.dst (.slice (some ⟨w.heap.size, 0, none⟩) 0 0)) w1) : op.wp Tryz.prog a w K Q := by
  have hb := bs_x0 w
  unfold Oper.wp execOp
  simp only [ho, List.map_toArray, List.map_nil, hb, Sem.run_bind, Sem.run_pure, Result.andThen_ok]
  exact hK _ ((Below.refl _ _).alloc (Nat.le_refl _) _) (Lies.new w _ _)
theorem bs_x1 (x : Exp) (w : World) : (Instr.buildSlice 27 1 #[(0, .agg x.cs.toArray)]).run Tryz.prog w = .ok (.slice (some ⟨w.heap.size, 0, none⟩) 1 1) (w.alloc (.cells x.cs.toArray 61)) := by kernel_rfl
theorem exec_sl1e {op : Oper} {act : Act} {w : World} {sb : Option Addr} {n cb k : Nat} (p : Operand) (t : Nat) (ho : op.op = .slice 29 p none (some (.tmp t)) none) (hp : act.eval p = .slice sb n cb) (hq : act.eval (.tmp t) = .int .i64 k) (hk : k ≤ cb) : (execOp act.eval op).run Tryz.prog w = .ok (.value (.slice sb k cb)) w := by
  have hk2 : (k : Int) ≤ (cb : Int) := by omega
  have hq' : act.tmps[t]?.getD undef = .int .i64 k := by simpa [Act.eval] using hq
  unfold execOp
  simp only [ho, hp]
  cases sb with
  | none => first | (go_simp; done) | (go_simp; simp [hq', hk])
  | some a => first | (go_simp; done) | (go_simp; simp [hq', hk])
theorem exec_sl2e {op : Oper} {act : Act} {w : World} {sb : Option Addr} {n cb k : Nat} (p : Operand) (t : Nat) (ho : op.op = .slice 29 p (some (.tmp t)) none none) (hp : act.eval p = .slice sb n cb) (hq : act.eval (.tmp t) = .int .i64 k) (hk : k ≤ n) (hn : n ≤ cb) : (execOp act.eval op).run Tryz.prog w = .ok (.value (dropV sb n cb k)) w := by
  have hk2 : (k : Int) ≤ (n : Int) := by omega
  have hk3 : (n : Int) ≤ (cb : Int) := by omega
  have hq' : act.tmps[t]?.getD undef = .int .i64 k := by simpa [Act.eval] using hq
  unfold execOp dropV
  simp only [ho, hp]
  cases sb with
  | none => go_simp
  | some a => go_simp
theorem und_e : Tryz.prog.underlying 29 = some (.slice 59) := by kernel_rfl
theorem inf_e : (Tryz.prog.info? 59).map (fun i => (i.zero.map (·.cells.size), i.size, i.bytes)) = some (some 3, 3, 56) := by kernel_rfl
theorem siz_e : (Tryz.prog.info? 29).map (·.size) = some 1 := by kernel_rfl
theorem bs_e0 (w : World) : (Instr.buildSlice 29 0 #[]).run Tryz.prog w = .ok (.slice (some ⟨w.heap.size, 0, none⟩) 0 0) (w.alloc (.cells #[] 59)) := by kernel_rfl
theorem row_e0 {w : World} {base g : Nat} (h : Lies w g 59 #[]) (hb : base ≤ g) : w.ownsRow base 59 3 (.slice (some ⟨g, 0, none⟩) 0 0) 0 [] :=
  ⟨rfl, .inr ⟨g, 0, #[], rfl, hb, h, Nat.le_refl _, Nat.zero_le _, rfl, rfl⟩⟩
theorem wp_e0 {op : Oper} {a : Act} {w : World} {K : Act → World → Prop} {Q : Exit → Act → World → Prop} (ho : op.op = .buildSlice 29 0 #[]) (hK : ∀ w1, Below w.heap.size w w1 → Lies w1 w.heap.size 59 #[] → K (a.put op.dst (.slice (some ⟨w.heap.size, 0, none⟩) 0 0)) w1) : op.wp Tryz.prog a w K Q := by
  have hb := bs_e0 w
  unfold Oper.wp execOp
  simp only [ho, List.map_toArray, List.map_nil, hb, Sem.run_bind, Sem.run_pure, Result.andThen_ok]
  exact hK _ ((Below.refl _ _).alloc (Nat.le_refl _) _) (Lies.new w _ _)
theorem bs_e1 (x : Elm) (w : World) : (Instr.buildSlice 29 1 #[(0, .agg x.cs.toArray)]).run Tryz.prog w = .ok (.slice (some ⟨w.heap.size, 0, none⟩) 1 1) (w.alloc (.cells x.cs.toArray 59)) := by kernel_rfl
end Go.Proofs.YtmgjcaikldeioaaGreat.Va
/- What the statements' rows ask: a module that came in, opened within the bound. -/
namespace Go.Proofs.YtmgjcaikldeioaaGreat.Va
open Go Go.RowKit Go.Lib Go.WideShapes Go.ChangeShapes Go.ChangeAt Kt Fm Gr

section
variable {H : Type} {enc : TypeId × Value → H} {w : World} {base : Nat} {spare : Nat → Bool} {held : Bool}
set_option maxRecDepth 100000 in
theorem small {ds : List (DataW H)} (h : Rows.uptoSmall H ds = true) {d : DataW H} (hd : d ∈ ds) : bulk d ≤ Bd := by
  unfold Rows.uptoSmall at h
  rw [decide_eq_true_eq] at h
  exact Nat.le_trans (bulk_mem hd) h
set_option maxRecDepth 100000 in
theorem open_mod {r : Reach} {b0 : Nat} {v : Value} {d : DataW H} {p : List MemPlace} (hv : Value.okWide Tryz.prog w r b0 33 v) (h : DataW.Trod enc Tryz.prog w base spare held 33 v d p) (hB : bulk d ≤ Bd) : ∃ m : Mod, v = .agg m.cs.toArray ∧ ModOk w m := by
  simp only [Value.okWide, Tryz.underlying33] at hv
  obtain ⟨cs, rfl, hsz, _⟩ := hv
  obtain ⟨fuel, hf⟩ := h
  obtain ⟨m, hm, hok⟩ := el_Mod fuel _ _ _ hf hB
  refine ⟨m, ?_, hok⟩
  have : cs = m.cs.toArray := by
    rw [← hm]
    simp [Value.cells]
  rw [this]
end
end Go.Proofs.YtmgjcaikldeioaaGreat.Va
/- A module that came in, its lists of exports and elements within their room. -/
namespace Go.Proofs.YtmgjcaikldeioaaGreat.Va
open Go Go.RowKit Go.Lib Go.WideShapes Go.ChangeShapes Go.ChangeAt Kt Fm Gr

section
variable {H : Type} {enc : TypeId × Value → H} {w : World} {base : Nat} {spare : Nat → Bool} {held : Bool}
set_option maxRecDepth 100000 in
theorem cap_ev {n : Nat} {d : DataW H} {p : List MemPlace} {x : Mod} (h : DataW.trod enc Tryz.prog w base spare held n 33 x.cs = some (d, p)) (hB : bulk d ≤ Bd) : CapOk x.ev := by
  obtain ⟨xs, m, _, hy, hl, hlen, hf⟩ := DataW.trod_struct Tryz.underlying33 h
  have hlen' : xs.length = 12 := hlen
  have hd : d = .agg (xs.map (·.1)) := by injection hy
  have b0 : bulk xs[6].1 ≤ Bd := Nat.le_trans (bulk_agg (List.mem_map.2 ⟨xs[6], List.getElem_mem (by omega), rfl⟩)) (by rw [← hd]; exact hB)
  have g1 : DataW.trod enc Tryz.prog w base spare held m 27 (x.cs.drop 6 |>.take (Tryz.prog.cellsOf 27)) = xs[6]? := hf 6 _ rfl
  rw [show Tryz.prog.cellsOf 27 = 1 from by kernel_rfl, List.getElem?_eq_getElem (by omega)] at g1
  have g2 : DataW.trod enc Tryz.prog w base spare held m 27 [x.ev] = some xs[6] := g1
  rcases Go.Deep.open_slice und_x g2 with ⟨hc, _⟩ | ⟨a, len, cap, m, n, D, Pl, hc, _, hle, _, hmm, hyy, _⟩
  · intro s n c e
    rw [(List.cons.inj hc).1] at e
    injection e with _ e1 e2
    constructor <;> omega
  · intro s n c e
    rw [(List.cons.inj hc).1] at e
    injection e with _ e1 e2
    rw [hyy] at b0
    have := bulk_slice ((List.range len).map D) ((List.range (m - len)).map fun j => D (len + j))
    rw [List.length_map, List.length_range] at this
    have hBd : Bd = 1048576 := rfl
    dsimp only at b0
    constructor <;> omega
set_option maxRecDepth 100000 in
theorem cap_ev2 {n : Nat} {d : DataW H} {p : List MemPlace} {x : Mod} (h : DataW.trod enc Tryz.prog w base spare held n 33 x.cs = some (d, p)) (hB : bulk d ≤ Bd) : CapOk x.ev2 := by
  obtain ⟨xs, m, _, hy, hl, hlen, hf⟩ := DataW.trod_struct Tryz.underlying33 h
  have hlen' : xs.length = 12 := hlen
  have hd : d = .agg (xs.map (·.1)) := by injection hy
  have b0 : bulk xs[9].1 ≤ Bd := Nat.le_trans (bulk_agg (List.mem_map.2 ⟨xs[9], List.getElem_mem (by omega), rfl⟩)) (by rw [← hd]; exact hB)
  have g1 : DataW.trod enc Tryz.prog w base spare held m 29 (x.cs.drop 9 |>.take (Tryz.prog.cellsOf 29)) = xs[9]? := hf 9 _ rfl
  rw [show Tryz.prog.cellsOf 29 = 1 from by kernel_rfl, List.getElem?_eq_getElem (by omega)] at g1
  have g2 : DataW.trod enc Tryz.prog w base spare held m 29 [x.ev2] = some xs[9] := g1
  rcases Go.Deep.open_slice und_e g2 with ⟨hc, _⟩ | ⟨a, len, cap, m, n, D, Pl, hc, _, hle, _, hmm, hyy, _⟩
  · intro s n c e
    rw [(List.cons.inj hc).1] at e
    injection e with _ e1 e2
    constructor <;> omega
  · intro s n c e
    rw [(List.cons.inj hc).1] at e
    injection e with _ e1 e2
    rw [hyy] at b0
    have := bulk_slice ((List.range len).map D) ((List.range (m - len)).map fun j => D (len + j))
    rw [List.length_map, List.length_range] at this
    have hBd : Bd = 1048576 := rfl
    dsimp only at b0
    constructor <;> omega
set_option maxRecDepth 100000 in
theorem open_modC {r : Reach} {b0 : Nat} {v : Value} {d : DataW H} {p : List MemPlace} (hv : Value.okWide Tryz.prog w r b0 33 v) (h : DataW.Trod enc Tryz.prog w base spare held 33 v d p) (hB : bulk d ≤ Bd) : ∃ x : Mod, v = .agg x.cs.toArray ∧ ModOk w x ∧ CapOk x.ev ∧ CapOk x.ev2 := by
  simp only [Value.okWide, Tryz.underlying33] at hv
  obtain ⟨cs, rfl, hsz, _⟩ := hv
  obtain ⟨fuel, hf⟩ := h
  obtain ⟨m, hm, hok⟩ := el_Mod fuel _ _ _ hf hB
  have : cs = m.cs.toArray := by
    rw [← hm]
    simp [Value.cells]
  have hf' : DataW.trod enc Tryz.prog w base spare held fuel 33 m.cs = some (d, p) := by
    rw [← hm]
    exact hf
  exact ⟨m, by rw [this], hok, cap_ev hf' hB, cap_ev2 hf' hB⟩
end
end Go.Proofs.YtmgjcaikldeioaaGreat.Va
/- gabellelaw11.ValidLess answers true. -/
namespace Go.Proofs.YtmgjcaikldeioaaGreat.Va
open Go Go.RowKit Go.Lib Kt Fm Gr Ty

theorem oneModL {w : World} {m : Mod} (h : ModOk w m) : (m.cs.toArray.all (·.oneCell')) = true := by
  obtain ⟨s0, c0, e0, _⟩ := h.1.1.form
  obtain ⟨s1, c1, e1, _⟩ := h.2.1.1.form
  obtain ⟨s2, c2, e2, _⟩ := h.2.2.1.1.form
  obtain ⟨s3, c3, e3, _⟩ := h.2.2.2.1.1.form
  obtain ⟨s4, c4, e4, _⟩ := h.2.2.2.2.1.1.form
  obtain ⟨s5, c5, e5, _⟩ := h.2.2.2.2.2.1.1.form
  obtain ⟨s6, c6, e6, _⟩ := h.2.2.2.2.2.2.1.1.form
  obtain ⟨s9, c9, e9, _⟩ := h.2.2.2.2.2.2.2.2.1.1.form
  obtain ⟨s10, c10, e10, _⟩ := h.2.2.2.2.2.2.2.2.2.1.1.form
  obtain ⟨s11, c11, e11, _⟩ := h.2.2.2.2.2.2.2.2.2.2.1.form
  simp [Mod.cs, e0, e1, e2, e3, e4, e5, e6, e9, e10, e11, Value.oneCell']
theorem oneExpL (x : Exp) : ∀ u ∈ x.cs, u.oneCell' = true := by simp [Exp.cs, Value.oneCell']
theorem row_two {α : Type} {en : α → List Value} {w : World} {base : Nat} {t : TypeId} {sz : Nat} {v : Value} {A B : List α} (h : w.ownsRow base t sz v (0 + A.length + B.length) ([] ++ A.flatMap en ++ B.flatMap en)) : w.ownsRow base t sz v (A ++ B).length ((A ++ B).flatMap en) := by
  rw [List.length_append, List.flatMap_append]
  rw [Nat.zero_add, List.nil_append] at h
  exact h
theorem exec_add1 {op : Oper} {act : Act} {w : World} {k : Nat} (p : Operand) (ho : op.op = .binOp .add 3 p (.const (.int .i64 1)) 3) (hp : act.eval p = .int .i64 k) (hk : k ≤ 1048576) : (execOp act.eval op).run Tryz.prog w = .ok (.value (.int .i64 ((k + 1 : Nat) : Int))) w := by
  have hw : IntKind.i64.wrap ((k : Int) + 1) = (k : Int) + 1 := by rw [IntKind.wrap_i64]; omega
  unfold execOp
  simp only [ho, hp]
  go_simp
  first | done | simp [hw] | rw [hw]
/-- Less, behind its exports. -/
structure Ex (W : World) (m : Mod) (Bm Bl : Nat) (ex : Value) (EX : List Exp) (wx : World) : Prop where
  bel : Below W.heap.size W wx
  md : Lies wx Bm 33 m.cs.toArray
  ls : Lies wx Bl 33 ({ m with ev := ex, exps := EX } : Mod).cs.toArray
  sl : Sl wx 3 Exp.cs ex EX
  row : (ex = m.ev ∧ EX = m.exps) ∨ wx.ownsRow W.heap.size 61 3 ex EX.length (EX.flatMap Exp.cs)
  how : ∃ k, EX = m.exps.take k ++ m.exps.drop (k + 1) ∨ EX = m.exps
/-- The exports that are left, in their row. -/
def RowE (W : World) (m : Mod) (ex : Value) (EX : List Exp) (w : World) : Prop := (ex = m.ev ∧ EX = m.exps) ∨ w.ownsRow W.heap.size 61 3 ex EX.length (EX.flatMap Exp.cs)
theorem RowE.later {W w w' : World} {m : Mod} {ex : Value} {EX : List Exp} (h : RowE W m ex EX w) (hb : Below w.heap.size w w') : RowE W m ex EX w' := h.imp id (fun h => ownsRow_keep h hb)
theorem RowE.frT {W w w' : World} {m : Mod} {ex : Value} {EX : List Exp} {es : List TypeId} (h : RowE W m ex EX w) (hf : FrT es w w') (he : 61 ∉ es) : RowE W m ex EX w' := h.imp id (fun h => row_frT h hf he)
theorem RowE.sl {W w : World} {m : Mod} {ex : Value} {EX : List Exp} (h : RowE W m ex EX w) (hm : ModOk W m) (hb : Below W.heap.size W w) : Sl w 3 Exp.cs ex EX := by
  rcases h with ⟨rfl, rfl⟩ | h
  · exact hm.2.2.2.2.2.2.1.1.later hb
  · exact own_sl Exp.len h
/-- The elements that are left, in their row. -/
def RowM (W : World) (m : Mod) (ey : Value) (EY : List Elm) (w : World) : Prop := (ey = m.ev2 ∧ EY = m.elems) ∨ w.ownsRow W.heap.size 59 3 ey EY.length (EY.flatMap Elm.cs)
theorem RowM.later {W w w' : World} {m : Mod} {ey : Value} {EY : List Elm} (h : RowM W m ey EY w) (hb : Below w.heap.size w w') : RowM W m ey EY w' := h.imp id (fun h => ownsRow_keep h hb)
theorem RowM.frT {W w w' : World} {m : Mod} {ey : Value} {EY : List Elm} {es : List TypeId} (h : RowM W m ey EY w) (hf : FrT es w w') (he : 59 ∉ es) : RowM W m ey EY w' := h.imp id (fun h => row_frT h hf he)
theorem RowM.sl {W w : World} {m : Mod} {ey : Value} {EY : List Elm} (h : RowM W m ey EY w) (hm : ModOk W m) (hb : Below W.heap.size W w) : Sl w 3 Elm.cs ey EY := by
  rcases h with ⟨rfl, rfl⟩ | h
  · exact hm.2.2.2.2.2.2.2.2.1.1.later hb
  · exact own_sl Elm.len h
theorem less_sub {α : Type} {A B : List α} (h : ∃ k, B = A.take k ++ A.drop (k + 1) ∨ B = A) : (∀ x ∈ B, x ∈ A) ∧ B.length ≤ A.length := by
  obtain ⟨k, rfl | rfl⟩ := h
  · refine ⟨fun x hx => ?_, by simp; omega⟩
    rcases List.mem_append.1 hx with hx | hx
    · exact List.mem_of_mem_take hx
    · exact List.mem_of_mem_drop hx
  · exact ⟨fun _ h => h, Nat.le_refl _⟩
theorem oneElmL {w : World} {x : Elm} (h : ElmOk w x) : ∀ u ∈ x.cs, u.oneCell' = true := by
  have := oneElm h
  simpa using this
/-- Less, behind its elements. -/
structure Ey (W : World) (m : Mod) (Bm Bl : Nat) (ex : Value) (EX : List Exp) (ey : Value) (EY : List Elm) (wx : World) : Prop where
  bel : Below W.heap.size W wx
  ls : Lies wx Bl 33 ({ m with ev := ex, exps := EX, ev2 := ey, elems := EY } : Mod).cs.toArray
  row : RowE W m ex EX wx
  rowY : RowM W m ey EY wx
  how : ∃ k, EY = m.elems.take k ++ m.elems.drop (k + 1) ∨ EY = m.elems
set_option maxRecDepth 100000 in
set_option maxHeartbeats 16000000 in
theorem law_less {W : World} {m : Mod} (hm : ModOk W m) (hcx : CapOk m.ev) (hce : CapOk m.ev2) (ik : Int) :
    Calls Tryz.prog 4 #[.agg m.cs.toArray, .int .i64 ik] W fun e w' => e = .returned (.bool true) ∧ Below W.heap.size W w' := by
  have HM := Lib.hid hm
  clear hm
  go_enter Tryz.func4, Tryz.ntmps4
  go_wp2_with (refine wl_box m.cs _ rfl rfl rfl (fun w1 hb1 hl1 => ?_); have HB1 := Lib.hid hb1; have HL1 := Lib.hid hl1; obtain ⟨Bm, hBm⟩ : ∃ Bm, Bm = W.heap.size := ⟨_, rfl⟩; rw [← hBm] at HL1 ⊢; clear hBm hb1 hl1; (try simp only [Act.put, List.setIfInBounds_toArray, List.set_cons_zero, List.set_cons_succ]))
  refine known_any.mono ?_
  rintro en w2 ⟨rfl, hb2⟩
  have HB2 := Lib.hid (bt HB1.out hb2)
  have HL2 := Lib.hid (HL1.out.below hb2 HL1.out.lt)
  clear hb2
  go_wp2_with (refine wpList_load_mid rfl 33 _ rfl Bm 0 rfl m.cs _ (lies_range HL2.out) Tryz.underlying33 rfl sizeMod ?_; (try simp only [Act.put, List.setIfInBounds_toArray, List.set_cons_zero, List.set_cons_succ]))
  refine (vcheck_any (HM.out.later HB2.out)).mono ?_
  rintro en w3 ⟨v, rfl, hv3, hb3⟩
  have HB3 := Lib.hid (bt HB2.out hb3)
  have HL3 := Lib.hid (HL2.out.below hb3 HL2.out.lt)
  obtain ⟨sh, ch, rfl, hsh⟩ := hv3.form
  clear hb3 hv3 hsh
  go_wp2_with (refine wpList_load_mid rfl 33 _ rfl Bm 0 rfl m.cs _ (lies_range HL3.out) Tryz.underlying33 rfl sizeMod ?_; (try simp only [Act.put, List.setIfInBounds_toArray, List.set_cons_zero, List.set_cons_succ]))
  refine (great7_any (HM.out.later HB3.out)).mono ?_
  rintro en w4 ⟨⟨bg, rfl⟩, hb4⟩
  have HB4 := Lib.hid (bt HB3.out hb4)
  have HL4 := Lib.hid (HL3.out.below hb4 HL3.out.lt)
  clear hb4
  obtain ⟨ev, hev⟩ : ∃ ev, ev = (vchk m).2 := ⟨_, rfl⟩
  rw [← hev]
  have HEV2 := Lib.hid hev
  clear hev
  cases bg with
  | true =>
    go_wp2_with fail
    go_ret
    exact ⟨rfl, HB4.out⟩
  | false =>
  by_cases he : ev = 0
  · subst he
    by_cases hi : ik < 0
    · go_wp2_with fail
      go_ret
      exact ⟨rfl, HB4.out⟩
    · obtain ⟨H, hH⟩ : ∃ H, H = (vchk m).1 := ⟨_, rfl⟩
      rw [← hH]
      have HHH := Lib.hid hH
      clear hH
      obtain ⟨sx, cx, hxv, hxs⟩ := HM.out.2.2.2.2.2.2.1.1.form
      have HXV := Lib.hid hxv
      have HXS := Lib.hid hxs
      clear hxv hxs
      go_upto_if 33 with (first | (refine wpList_load_mid rfl 33 _ rfl Bm 0 rfl m.cs _ (lies_range HL4.out) Tryz.underlying33 rfl sizeMod ?_; (try simp only [Act.put, List.setIfInBounds_toArray, List.set_cons_zero, List.set_cons_succ])) | (refine wl_put (Lies.new _ _ _) m.cs _ _ rfl rfl rfl rfl rfl sizeMod (oneModL HM.out) (fun w5 hlw5 hfw5 => ?_); have hbw5 : Below w4.heap.size w4 w5 := below_put ((Below.refl w4.heap.size w4).alloc (Nat.le_refl _) _) hfw5 (Nat.le_refl _); have HB5 := Lib.hid (bt HB4.out hbw5); have HS5 := Lib.hid hlw5; obtain ⟨Bl, hBw5⟩ : ∃ Bl, Bl = w4.heap.size := ⟨_, rfl⟩; rw [← hBw5] at HS5 ⊢; have HBE := Lib.hid hBw5; have HL5 := Lib.hid (HL4.out.below hbw5 HL4.out.lt); have xM6 : w5.cell? ⟨Bm, 6, none⟩ = some (.slice sx m.exps.length cx) := (HL5.out.cell 6).trans (congrArg some HXV.out); clear hBw5 hlw5 hfw5 hbw5 ; try simp only [Act.put]))
      go_cut [8, 9] from 33 to 67 (fun _ _ wx => ∃ ex EX, Ex W m Bm Bl ex EX wx)
      case first =>
        have HLS := Lib.hid HS5.out
        have HBL := Lib.hid (show W.heap.size ≤ Bl from by rw [HBE.out]; exact HB4.out.size)
        have HNE := Lib.hid (show ¬ Bm = Bl from fun e => by have := HL4.out.lt; have := HBE.out; omega)
        by_cases h0 : m.exps.length = 0
        · have h01 : ¬ 0 < m.exps.length := by omega
          go_wp2_with fail
          go_meet
          exact ⟨m.ev, m.exps, HB5.out, HL5.out, HLS.out, HM.out.2.2.2.2.2.2.1.1.later HB5.out, .inl ⟨rfl, rfl⟩, 0, .inr rfl⟩
        · have h01 : 0 < m.exps.length := by omega
          have h02 : ¬ (m.exps.length : Int) = 0 := by omega
          obtain ⟨kk, hkk⟩ : ∃ kk : Nat, ik % (m.exps.length : Int) = kk := ⟨(ik % (m.exps.length : Int)).toNat, by have := Int.emod_nonneg ik (show (m.exps.length : Int) ≠ 0 by omega); omega⟩
          have hkl : kk < m.exps.length := by have := Int.emod_lt_of_pos ik (show (0 : Int) < (m.exps.length : Int) by omega); omega
          have hll : m.exps.length ≤ 1048576 := HM.out.2.2.2.2.2.2.1.2.2
          have hcap : m.exps.length ≤ cx := (hcx _ _ _ HXV.out).1
          have hlt : m.exps.length < 1048576 := (hcx _ _ _ HXV.out).2
          go_wp2_with fail
          rw [hkk]
          clear hkk h0 h01 h02 xM6 hi
          have hd := below_drew w5
          have HB6 := Lib.hid (bt HB5.out hd)
          have HL6 := Lib.hid (HL5.out.below hd HL5.out.lt)
          have HS6 := Lib.hid (HLS.out.below hd HLS.out.lt)
          refine wp_region_t [(1, 1), (2, 1), (3, 1), (4, 1), (6, 1), (7, 1), (8, 1), (9, 1), (10, 1), (0, 0), (5, 0), (11, 0), (12, 1), (13, 0)] (fun w' => w'.cell? ⟨Bm, 6, none⟩ = some (.slice sx m.exps.length cx)) [] [] rfl (by kernel_rfl) (by kernel_rfl) (fun _ _ d _ _ h => by cases d <;> exact h) ((HL6.out.cell 6).trans (congrArg some HXV.out)) (fun p hp => by cases hp) ?_
          clear hd
          generalize w5.drew = w6 at HB6 HL6 HS6 ⊢
          repeat (first | (refine ts_take (v := .slice sx kk cx) rfl rfl (fun w' _ => exec_sl1x _ _ rfl rfl rfl (by omega)) ?_; (try simp only [Act.put, List.setIfInBounds_toArray, List.set_cons_zero, List.set_cons_succ])) | (refine ts_take (v := .int .i64 ((kk + 1 : Nat) : Int)) rfl rfl (fun w' _ => exec_add1 _ rfl rfl (by omega)) ?_; (try simp only [Act.put, List.setIfInBounds_toArray, List.set_cons_zero, List.set_cons_succ])) | (refine ts_take (v := dropV sx m.exps.length cx (kk + 1)) rfl rfl (fun w' _ => exec_sl2x _ _ rfl rfl rfl (by omega) hcap) ?_; (try simp only [Act.put, List.setIfInBounds_toArray, List.set_cons_zero, List.set_cons_succ])) | (refine ts_take (v := ?_) rfl rfl (fun w' hw' => ?_) ?_; rotate_left; (focus (have q0 := hw'; (try simp only [Act.put, List.setIfInBounds_toArray, List.set_cons_zero, List.set_cons_succ]); go_simp; (try go_bits); (try (with_reducible rfl)))); (try simp only [Act.put, List.setIfInBounds_toArray, List.set_cons_zero, List.set_cons_succ])))
          have HXL := Lib.hid (show Sl W 3 Exp.cs (.slice sx m.exps.length cx) m.exps from by rw [← HXV.out]; exact HM.out.2.2.2.2.2.2.1.1)
          have HONE := Lib.hid (show ∀ y ∈ m.exps, ∀ u ∈ y.cs, u.oneCell' = true from fun y hy => oneExpL y)
          refine ts_run1 rfl rfl (fun K hK => ?_)
          refine wp_x0 rfl (fun w7 hb7 hl7 => ?_)
          have HB7 := Lib.hid (bt HB6.out hb7)
          have HL7 := Lib.hid (HL6.out.below hb7 HL6.out.lt)
          have HS7 := Lib.hid (HS6.out.below hb7 HS6.out.lt)
          have HR7 := Lib.hid (row_x0 hl7 HB6.out.size)
          refine hK.out _ _ ((HL7.out.cell 6).trans (congrArg some HXV.out)) (still_none _ _) ?_
          clear hK K hb7 hl7
          (try simp only [Act.put, List.setIfInBounds_toArray, List.set_cons_zero, List.set_cons_succ])
          refine ts_run1 rfl rfl (fun K hK => ?_)
          refine wp_app (by_ := 24) _ _ rfl und_x inf_x (by decide) rfl HR7.out Exp.len rfl (sl_takeI (k := kk) (HXL.out.later HB7.out) (by omega)) (fun y hy => HONE.out y (List.mem_of_mem_take hy)) (by unfold maxLen; simp; omega) (by simp; omega) HB7.out.size (fun v8 w8 hr8 hg8 hv8 => ?_)
          have HB8 := Lib.hid (HB7.out.grown hg8 HB7.out.size (fun _ hk => (row_block HR7.out hk).1))
          have HL8 := Lib.hid (lies_frT HL7.out (FrT.grown HR7.out hg8) (by decide))
          have HS8 := Lib.hid (lies_frT HS7.out (FrT.grown HR7.out hg8) (by decide))
          have HR8 := Lib.hid hr8
          refine hK.out _ _ ((HL8.out.cell 6).trans (congrArg some HXV.out)) (still_none _ _) ?_
          clear hK K hr8 hg8 hv8
          (try simp only [Act.put, List.setIfInBounds_toArray, List.set_cons_zero, List.set_cons_succ])
          refine ts_run1 rfl rfl (fun K hK => ?_)
          refine wp_app (by_ := 24) _ _ rfl und_x inf_x (by decide) rfl HR8.out Exp.len rfl (sl_dropV (k := kk + 1) (HXL.out.later HB8.out) hcap) (fun y hy => HONE.out y (List.mem_of_mem_drop hy)) (by unfold maxLen; simp; omega) (by simp; omega) HB8.out.size (fun v9 w9 hr9 hg9 hv9 => ?_)
          have HB9 := Lib.hid (HB8.out.grown hg9 HB8.out.size (fun _ hk => (row_block HR8.out hk).1))
          have HL9 := Lib.hid (lies_frT HL8.out (FrT.grown HR8.out hg9) (by decide))
          have HS9 := Lib.hid (lies_frT HS8.out (FrT.grown HR8.out hg9) (by decide))
          have HR9 := Lib.hid (row_two hr9)
          obtain ⟨s9, c9, rfl, _, _⟩ := row_form hr9
          refine hK.out _ _ ((HL9.out.cell 6).trans (congrArg some HXV.out)) (still_none _ _) ?_
          clear hK K hr9 hg9 hv9
          (try simp only [Act.put, List.setIfInBounds_toArray, List.set_cons_zero, List.set_cons_succ])
          repeat (refine ts_take (v := ?_) rfl rfl (fun w' hw' => ?_) ?_; rotate_left; (focus (clear hw'; (try simp only [Act.put, List.setIfInBounds_toArray, List.set_cons_zero, List.set_cons_succ]); go_simp; (try go_bits); (try (with_reducible rfl)))); (try simp only [Act.put, List.setIfInBounds_toArray, List.set_cons_zero, List.set_cons_succ]))
          obtain ⟨n9, hn9⟩ : ∃ n9, n9 = 0 + (m.exps.take kk).length + (m.exps.drop (kk + 1)).length := ⟨_, rfl⟩
          rw [← hn9] at HR9 ⊢
          refine ts_run1 rfl rfl (fun K hK => ?_)
          refine wp_fld (c0 := m.cs) HS9.out _ _ rfl rfl rfl [.slice s9 n9 c9] ({ m with ev := .slice s9 n9 c9, exps := m.exps.take kk ++ m.exps.drop (kk + 1) } : Mod).cs rfl siz_x (by intro u hu; obtain rfl := List.mem_singleton.1 hu; rfl) (by simp [Mod.cs]) rfl (fun w10 hl10 hf10 => ?_)
          have HB10 := Lib.hid (HB9.out.trans (hf10.below HB9.out.size (fun k hk => by rw [hk]; exact HBL.out)))
          have HL10 := Lib.hid (lies_fr HL9.out hf10 HNE.out)
          have HR10 := Lib.hid (row_frT HR9.out (FrT.field HS9.out hf10) (by decide))
          have HS10 := Lib.hid hl10
          refine hK.out _ _ ((HL10.out.cell 6).trans (congrArg some HXV.out)) (still_none _ _) ?_
          clear hK K hl10 hf10
          (try simp only [Act.put])
          refine ts_done ?_
          obtain ⟨gx, ox, rfl, _⟩ := HXS.out (by intro e; rw [e] at hkl; simp at hkl)
          obtain ⟨x, hx⟩ : ∃ x, m.exps[kk]? = some x := ⟨_, List.getElem?_eq_getElem hkl⟩
          have HXX := Lib.hid hx
          clear hx
          go_upto_region 11 with (first | (refine wpList_load_mid rfl 33 _ rfl Bm 0 rfl m.cs _ (lies_range HL10.out) Tryz.underlying33 rfl sizeMod ?_; (try simp only [Act.put, List.setIfInBounds_toArray, List.set_cons_zero, List.set_cons_succ])) | (refine wl_put (Lies.new _ _ _) m.cs _ _ rfl rfl rfl rfl rfl sizeMod (oneModL HM.out) (fun w11 hlw11 hfw11 => ?_); have hbw11 : Below w10.heap.size w10 w11 := below_put ((Below.refl w10.heap.size w10).alloc (Nat.le_refl _) _) hfw11 (Nat.le_refl _); have HB11 := Lib.hid (bt HB10.out hbw11); have HQ11 := Lib.hid hlw11; obtain ⟨Bq, hBw11⟩ : ∃ Bq, Bq = w10.heap.size := ⟨_, rfl⟩; rw [← hBw11] at HQ11 ⊢; have HQE := Lib.hid hBw11; have HL11 := Lib.hid (HL10.out.below hbw11 HL10.out.lt); have HS11 := Lib.hid (HS10.out.below hbw11 HS10.out.lt); have HR11 := Lib.hid (ownsRow_keep HR10.out hbw11); clear hBw11 hlw11 hfw11 hbw11 ; try simp only [Act.put]))
          go_cut [] from 53 to 64 (fun wx => ∃ mv, Below W.heap.size W wx ∧ Lies wx Bm 33 m.cs.toArray ∧ Lies wx Bl 33 ({ m with ev := .slice s9 n9 c9, exps := m.exps.take kk ++ m.exps.drop (kk + 1) } : Mod).cs.toArray ∧ wx.ownsRow W.heap.size 61 3 (.slice s9 n9 c9) (m.exps.take kk ++ m.exps.drop (kk + 1)).length ((m.exps.take kk ++ m.exps.drop (kk + 1)).flatMap Exp.cs) ∧ Lies wx Bq 33 ({ m with ev := mv, exps := m.exps ++ [x] } : Mod).cs.toArray ∧ Sl wx 3 Exp.cs mv (m.exps ++ [x]))
          case first =>
            have hd := below_drew w11
            have HD0 := Lib.hid hd
            have hBq : W.heap.size ≤ Bq := by rw [HQE.out]; exact HB10.out.size
            have hNm : ¬ Bm = Bq := fun e => by have := HL10.out.lt; have := HQE.out; omega
            have hNl : ¬ Bl = Bq := fun e => by have := HS10.out.lt; have := HQE.out; omega
            have HSK := Lib.hid (show ∀ w', Below w11.heap.size w11 w' → (w'.cell? ⟨Bm, 6, none⟩ = some (.slice (some ⟨gx, ox, none⟩) m.exps.length cx) ∧ w'.rangeAt gx (ox + kk * 3) x.cs) from fun w' hb => ⟨((HL11.out.below hb HL11.out.lt).cell 6).trans (congrArg some HXV.out), Gr.sl_range (HXL.out.later (bt HB11.out hb)) HXX.out⟩)
            refine RP.region (RP.take 1 (RP.take 2 (RP.take 4 (RP.take 5 (RP.take 6 (RP.take 7 (RP.take 8 (RP.fork 0 9 (RP.fork 3 9 (RP.run 9 (RP.run 10 (RP.take 11 (RP.run 12 RP.done)))) (RP.run 3 (RP.run 10 (RP.take 11 (RP.run 12 RP.done))))) (RP.run 0 (RP.run 3 (RP.run 10 (RP.take 11 (RP.run 12 RP.done))))))))))))) (fun w' => w'.cell? ⟨Bm, 6, none⟩ = some (.slice (some ⟨gx, ox, none⟩) m.exps.length cx) ∧ w'.rangeAt gx (ox + kk * 3) x.cs) (by kernel_rfl) (by kernel_rfl) (fun _ _ d _ _ h => by cases d <;> exact h) (HSK.out _ hd) (fun _ => ?_)
            clear hd
            generalize w11.drew = r0 at HD0 ⊢
            repeat (first | (refine RP.t_take (v := .agg x.cs.toArray) rfl rfl (fun w' hw' => exec_load hw'.2 _ rfl rfl Tryz.underlying61 rfl sizeExp) ?_; (try simp only [Act.put, List.setIfInBounds_toArray, List.set_cons_zero, List.set_cons_succ])) | (refine RP.t_take (v := ?_) rfl rfl (fun w' hw' => ?_) ?_; rotate_left; (focus (have q0 := hw'.1; (try simp only [Act.put, List.setIfInBounds_toArray, List.set_cons_zero, List.set_cons_succ]); go_simp; (try go_bits); (try (with_reducible rfl)))); (try simp only [Act.put, List.setIfInBounds_toArray, List.set_cons_zero, List.set_cons_succ])))
            refine RP.t_fork rfl rfl (fun K hK => ?_) (fun K hK => ?_)
            · refine ite_of rfl ?_
              refine wp_x0 rfl (fun r1 hb hl => ?_)
              obtain ⟨g0, hg0⟩ : ∃ g0, g0 = r0.heap.size := ⟨_, rfl⟩
              rw [← hg0] at hl ⊢
              have HE := Lib.hid (row_x0 hl (show w11.heap.size ≤ g0 from by rw [hg0]; exact HD0.out.size))
              have HD1 := Lib.hid (bt HD0.out hb)
              have HG0 := Lib.hid (show g0 < r1.heap.size from hl.lt)
              clear hb hl hg0
              refine hK.out _ _ (HSK.out _ HD1.out) ?_
              clear hK K
              (try simp only [Act.put, List.setIfInBounds_toArray, List.set_cons_zero, List.set_cons_succ])
              refine RP.t_fork rfl rfl (fun K hK => ?_) (fun K hK => ?_)
              · refine ite_of rfl ?_
                refine wp_app (by_ := 24) _ _ rfl und_x inf_x (by decide) rfl HE.out Exp.len rfl (HXL.out.later (bt HB11.out HD1.out)) (fun y _ => oneExpL y) (by unfold maxLen; omega) (by omega) HD1.out.size (fun v3 r2 hr hg hv => ?_)
                have HD2 := Lib.hid (HD1.out.grown hg HD1.out.size (fun _ hk => (row_block HE.out hk).1))
                have HE2 := Lib.hid hr
                clear hr hg hv
                refine hK.out _ _ (HSK.out _ HD2.out) ?_
                clear hK K
                (try simp only [Act.put, List.setIfInBounds_toArray, List.set_cons_zero, List.set_cons_succ])
                refine RP.t_run rfl (fun K hK => ?_)
                refine ite_of rfl ?_
                refine wp_bs1 _ _ (bs_x1 x) _ rfl rfl (fun r3 hb hl => ?_)
                obtain ⟨g9, hg9⟩ : ∃ g9, g9 = r2.heap.size := ⟨_, rfl⟩
                rw [← hg9] at hl ⊢
                have HN := Lib.hid hl
                replace HE2 := Lib.hid (ownsRow_keep HE2.out hb)
                have HD3 := Lib.hid (bt HD2.out hb)
                clear hb hl hg9
                refine hK.out _ _ (HSK.out _ HD3.out) ?_
                clear hK K
                (try simp only [Act.put, List.setIfInBounds_toArray, List.set_cons_zero, List.set_cons_succ])
                refine RP.t_run rfl (fun K hK => ?_)
                refine ite_of rfl ?_
                refine wp_app (by_ := 24) _ _ rfl und_x inf_x (by decide) rfl HE2.out Exp.len rfl (sl_one HN.out) (fun y _ => oneExpL y) (by unfold maxLen; simp; omega) (by simp; omega) HD3.out.size (fun v10 r4 hr hg hv => ?_)
                have HD4 := Lib.hid (HD3.out.grown hg HD3.out.size (fun _ hk => (row_block HE2.out hk).1))
                have HE3 := Lib.hid (row_two hr)
                obtain ⟨s10, c10, rfl, _, _⟩ := row_form hr
                clear hr hg hv
                refine hK.out _ _ (HSK.out _ HD4.out) ?_
                clear hK K
                (try simp only [Act.put, List.setIfInBounds_toArray, List.set_cons_zero, List.set_cons_succ])
                repeat (refine RP.t_take (v := ?_) rfl rfl (fun w' hw' => ?_) ?_; rotate_left; (focus (clear hw'; (try simp only [Act.put, List.setIfInBounds_toArray, List.set_cons_zero, List.set_cons_succ]); go_simp; (try go_bits); (try (with_reducible rfl)))); (try simp only [Act.put, List.setIfInBounds_toArray, List.set_cons_zero, List.set_cons_succ]))
                obtain ⟨n10, hn10⟩ : ∃ n10, n10 = 0 + m.exps.length + [x].length := ⟨_, rfl⟩
                rw [← hn10] at HE3 ⊢
                clear hn10
                refine RP.t_run rfl (fun K hK => ?_)
                refine ite_of rfl ?_
                have HQq := Lib.hid (HQ11.out.below HD4.out HQ11.out.lt)
                refine wp_fld (c0 := m.cs) HQq.out _ _ rfl rfl rfl [.slice s10 n10 c10] ({ m with ev := .slice s10 n10 c10, exps := m.exps ++ [x] } : Mod).cs rfl siz_x (by intro u hu; obtain rfl := List.mem_singleton.1 hu; rfl) (by simp [Mod.cs]) rfl (fun r5 hl hf => ?_)
                have hBz := (bt HB11.out HD4.out).trans (hf.below (bt HB11.out HD4.out).size (fun k hk => by rw [hk]; exact hBq))
                have hLz := lies_fr (HL11.out.below HD4.out HL11.out.lt) hf hNm
                have hSz := lies_fr (HS11.out.below HD4.out HS11.out.lt) hf hNl
                have hRz := row_frT (ownsRow_keep HR11.out HD4.out) (FrT.field HQq.out hf) (by decide)
                have hEz := own_sl Exp.len (row_frT HE3.out (FrT.field HQq.out hf) (by decide))
                refine hK.out _ _ ⟨(hLz.cell 6).trans (congrArg some HXV.out), Gr.sl_range (HXL.out.later hBz) HXX.out⟩ ?_
                clear hK K
                (try simp only [Act.put])
                refine RP.t_done ?_
                go_wp2_with fail
                go_meet
                exact ⟨_, hBz, hLz, hSz, hRz, hl, hEz⟩
              · refine ite_of rfl ?_
                refine wp_bs1 _ _ (bs_x1 x) _ rfl rfl (fun r2 hb hl => ?_)
                obtain ⟨g9, hg9⟩ : ∃ g9, g9 = r1.heap.size := ⟨_, rfl⟩
                rw [← hg9] at hl ⊢
                have HN := Lib.hid hl
                replace HE := Lib.hid (ownsRow_keep HE.out hb)
                have HNE := Lib.hid (show ¬ g9 = g0 from fun e => by have := HG0.out; omega)
                have HD2 := Lib.hid (bt HD1.out hb)
                clear hb hl hg9
                refine hK.out _ _ (HSK.out _ HD2.out) ?_
                clear hK K
                (try simp only [Act.put, List.setIfInBounds_toArray, List.set_cons_zero, List.set_cons_succ])
                refine RP.t_run rfl (fun K hK => ?_)
                refine ite_of rfl ?_
                refine wp_app (by_ := 24) _ _ rfl und_x inf_x (by decide) rfl HE.out Exp.len rfl (HXL.out.later (bt HB11.out HD2.out)) (fun y _ => oneExpL y) (by unfold maxLen; omega) (by omega) HD2.out.size (fun v3 r3 hr hg hv => ?_)
                have HD3 := Lib.hid (HD2.out.grown hg HD2.out.size (fun _ hk => (row_block HE.out hk).1))
                have HE2 := Lib.hid hr
                replace HN := Lib.hid (lies_fr HN.out (Fr.of_grown hg) (fun e => HNE.out (Option.some.inj (show some g9 = some g0 from e))))
                clear hr hg hv
                refine hK.out _ _ (HSK.out _ HD3.out) ?_
                clear hK K
                (try simp only [Act.put, List.setIfInBounds_toArray, List.set_cons_zero, List.set_cons_succ])
                refine RP.t_run rfl (fun K hK => ?_)
                refine ite_of rfl ?_
                refine wp_app (by_ := 24) _ _ rfl und_x inf_x (by decide) rfl HE2.out Exp.len rfl (sl_one HN.out) (fun y _ => oneExpL y) (by unfold maxLen; simp; omega) (by simp; omega) HD3.out.size (fun v10 r4 hr hg hv => ?_)
                have HD4 := Lib.hid (HD3.out.grown hg HD3.out.size (fun _ hk => (row_block HE2.out hk).1))
                have HE3 := Lib.hid (row_two hr)
                obtain ⟨s10, c10, rfl, _, _⟩ := row_form hr
                clear hr hg hv
                refine hK.out _ _ (HSK.out _ HD4.out) ?_
                clear hK K
                (try simp only [Act.put, List.setIfInBounds_toArray, List.set_cons_zero, List.set_cons_succ])
                repeat (refine RP.t_take (v := ?_) rfl rfl (fun w' hw' => ?_) ?_; rotate_left; (focus (clear hw'; (try simp only [Act.put, List.setIfInBounds_toArray, List.set_cons_zero, List.set_cons_succ]); go_simp; (try go_bits); (try (with_reducible rfl)))); (try simp only [Act.put, List.setIfInBounds_toArray, List.set_cons_zero, List.set_cons_succ]))
                obtain ⟨n10, hn10⟩ : ∃ n10, n10 = 0 + m.exps.length + [x].length := ⟨_, rfl⟩
                rw [← hn10] at HE3 ⊢
                clear hn10
                refine RP.t_run rfl (fun K hK => ?_)
                refine ite_of rfl ?_
                have HQq := Lib.hid (HQ11.out.below HD4.out HQ11.out.lt)
                refine wp_fld (c0 := m.cs) HQq.out _ _ rfl rfl rfl [.slice s10 n10 c10] ({ m with ev := .slice s10 n10 c10, exps := m.exps ++ [x] } : Mod).cs rfl siz_x (by intro u hu; obtain rfl := List.mem_singleton.1 hu; rfl) (by simp [Mod.cs]) rfl (fun r5 hl hf => ?_)
                have hBz := (bt HB11.out HD4.out).trans (hf.below (bt HB11.out HD4.out).size (fun k hk => by rw [hk]; exact hBq))
                have hLz := lies_fr (HL11.out.below HD4.out HL11.out.lt) hf hNm
                have hSz := lies_fr (HS11.out.below HD4.out HS11.out.lt) hf hNl
                have hRz := row_frT (ownsRow_keep HR11.out HD4.out) (FrT.field HQq.out hf) (by decide)
                have hEz := own_sl Exp.len (row_frT HE3.out (FrT.field HQq.out hf) (by decide))
                refine hK.out _ _ ⟨(hLz.cell 6).trans (congrArg some HXV.out), Gr.sl_range (HXL.out.later hBz) HXX.out⟩ ?_
                clear hK K
                (try simp only [Act.put])
                refine RP.t_done ?_
                go_wp2_with fail
                go_meet
                exact ⟨_, hBz, hLz, hSz, hRz, hl, hEz⟩
            · refine ite_of rfl ?_
              refine wp_bs1 _ _ (bs_x1 x) _ rfl rfl (fun r1 hb hl => ?_)
              obtain ⟨g9, hg9⟩ : ∃ g9, g9 = r0.heap.size := ⟨_, rfl⟩
              rw [← hg9] at hl ⊢
              have HN := Lib.hid hl
              have HD1 := Lib.hid (bt HD0.out hb)
              clear hb hl hg9
              refine hK.out _ _ (HSK.out _ HD1.out) ?_
              clear hK K
              (try simp only [Act.put, List.setIfInBounds_toArray, List.set_cons_zero, List.set_cons_succ])
              refine RP.t_run rfl (fun K hK => ?_)
              refine ite_of rfl ?_
              refine wp_x0 rfl (fun r2 hb hl => ?_)
              obtain ⟨g0, hg0⟩ : ∃ g0, g0 = r1.heap.size := ⟨_, rfl⟩
              rw [← hg0] at hl ⊢
              have HE := Lib.hid (row_x0 hl (show w11.heap.size ≤ g0 from by rw [hg0]; exact HD1.out.size))
              have HNE := Lib.hid (show ¬ g9 = g0 from fun e => by have := HN.out.lt; omega)
              replace HN := Lib.hid (HN.out.below hb HN.out.lt)
              have HD2 := Lib.hid (bt HD1.out hb)
              have HG0 := Lib.hid (show g0 < r2.heap.size from hl.lt)
              clear hb hl hg0
              refine hK.out _ _ (HSK.out _ HD2.out) ?_
              clear hK K
              (try simp only [Act.put, List.setIfInBounds_toArray, List.set_cons_zero, List.set_cons_succ])
              refine RP.t_run rfl (fun K hK => ?_)
              refine ite_of rfl ?_
              refine wp_app (by_ := 24) _ _ rfl und_x inf_x (by decide) rfl HE.out Exp.len rfl (HXL.out.later (bt HB11.out HD2.out)) (fun y _ => oneExpL y) (by unfold maxLen; omega) (by omega) HD2.out.size (fun v3 r3 hr hg hv => ?_)
              have HD3 := Lib.hid (HD2.out.grown hg HD2.out.size (fun _ hk => (row_block HE.out hk).1))
              have HE2 := Lib.hid hr
              replace HN := Lib.hid (lies_fr HN.out (Fr.of_grown hg) (fun e => HNE.out (Option.some.inj (show some g9 = some g0 from e))))
              clear hr hg hv
              refine hK.out _ _ (HSK.out _ HD3.out) ?_
              clear hK K
              (try simp only [Act.put, List.setIfInBounds_toArray, List.set_cons_zero, List.set_cons_succ])
              refine RP.t_run rfl (fun K hK => ?_)
              refine ite_of rfl ?_
              refine wp_app (by_ := 24) _ _ rfl und_x inf_x (by decide) rfl HE2.out Exp.len rfl (sl_one HN.out) (fun y _ => oneExpL y) (by unfold maxLen; simp; omega) (by simp; omega) HD3.out.size (fun v10 r4 hr hg hv => ?_)
              have HD4 := Lib.hid (HD3.out.grown hg HD3.out.size (fun _ hk => (row_block HE2.out hk).1))
              have HE3 := Lib.hid (row_two hr)
              obtain ⟨s10, c10, rfl, _, _⟩ := row_form hr
              clear hr hg hv
              refine hK.out _ _ (HSK.out _ HD4.out) ?_
              clear hK K
              (try simp only [Act.put, List.setIfInBounds_toArray, List.set_cons_zero, List.set_cons_succ])
              repeat (refine RP.t_take (v := ?_) rfl rfl (fun w' hw' => ?_) ?_; rotate_left; (focus (clear hw'; (try simp only [Act.put, List.setIfInBounds_toArray, List.set_cons_zero, List.set_cons_succ]); go_simp; (try go_bits); (try (with_reducible rfl)))); (try simp only [Act.put, List.setIfInBounds_toArray, List.set_cons_zero, List.set_cons_succ]))
              obtain ⟨n10, hn10⟩ : ∃ n10, n10 = 0 + m.exps.length + [x].length := ⟨_, rfl⟩
              rw [← hn10] at HE3 ⊢
              clear hn10
              refine RP.t_run rfl (fun K hK => ?_)
              refine ite_of rfl ?_
              have HQq := Lib.hid (HQ11.out.below HD4.out HQ11.out.lt)
              refine wp_fld (c0 := m.cs) HQq.out _ _ rfl rfl rfl [.slice s10 n10 c10] ({ m with ev := .slice s10 n10 c10, exps := m.exps ++ [x] } : Mod).cs rfl siz_x (by intro u hu; obtain rfl := List.mem_singleton.1 hu; rfl) (by simp [Mod.cs]) rfl (fun r5 hl hf => ?_)
              have hBz := (bt HB11.out HD4.out).trans (hf.below (bt HB11.out HD4.out).size (fun k hk => by rw [hk]; exact hBq))
              have hLz := lies_fr (HL11.out.below HD4.out HL11.out.lt) hf hNm
              have hSz := lies_fr (HS11.out.below HD4.out HS11.out.lt) hf hNl
              have hRz := row_frT (ownsRow_keep HR11.out HD4.out) (FrT.field HQq.out hf) (by decide)
              have hEz := own_sl Exp.len (row_frT HE3.out (FrT.field HQq.out hf) (by decide))
              refine hK.out _ _ ⟨(hLz.cell 6).trans (congrArg some HXV.out), Gr.sl_range (HXL.out.later hBz) HXX.out⟩ ?_
              clear hK K
              (try simp only [Act.put])
              refine RP.t_done ?_
              go_wp2_with fail
              go_meet
              exact ⟨_, hBz, hLz, hSz, hRz, hl, hEz⟩
          case rest =>
            obtain ⟨mv, hb12, hl12, hs12, hr12, hq12, hsl12⟩ := hcut
            have HB12 := Lib.hid hb12
            have HL12 := Lib.hid hl12
            have HS12 := Lib.hid hs12
            have HR12 := Lib.hid hr12
            have HQ12 := Lib.hid hq12
            have HSL12 := Lib.hid hsl12
            clear hb12 hl12 hs12 hr12 hq12 hsl12
            go_wp2_with (refine wpList_load_mid rfl 33 _ rfl Bq 0 rfl ({ m with ev := mv, exps := m.exps ++ [x] } : Mod).cs _ (lies_range HQ12.out) Tryz.underlying33 rfl sizeMod ?_; (try simp only [Act.put, List.setIfInBounds_toArray, List.set_cons_zero, List.set_cons_succ]))
            have HMX := Lib.hid (show ModOk wc ({ m with ev := mv, exps := m.exps ++ [x] } : Mod) from by
              have h := HM.out.later HB12.out
              refine ⟨h.1, h.2.1, h.2.2.1, h.2.2.2.1, h.2.2.2.2.1, h.2.2.2.2.2.1, ⟨HSL12.out, fun y hy => ?_, ?_⟩, h.2.2.2.2.2.2.2⟩
              · rcases List.mem_append.1 hy with hy | hy
                · exact h.2.2.2.2.2.2.1.2.1 y hy
                · obtain rfl := List.mem_singleton.1 hy
                  exact h.2.2.2.2.2.2.1.2.1 _ (List.mem_of_getElem? HXX.out)
              · rw [List.length_append]; exact hlt)
            refine (is_any HMX.out (k := 111) (b := true) (by rw [vchk_more (m := m) (m' := { m with ev := mv, exps := m.exps ++ [x] }) HEV2.out.symm ⟨rfl, rfl, rfl, rfl, rfl, rfl, rfl⟩ (List.mem_of_getElem? HXX.out) rfl]; rfl)).mono ?_
            rintro en w13 ⟨rfl, hb13⟩
            have HB13 := Lib.hid (bt HB12.out hb13)
            have HL13 := Lib.hid (HL12.out.below hb13 HL12.out.lt)
            have HS13 := Lib.hid (HS12.out.below hb13 HS12.out.lt)
            have HR13 := Lib.hid (ownsRow_keep HR12.out hb13)
            clear hb13
            go_wp2_with fail
            go_meet
            exact ⟨_, _, HB13.out, HL13.out, HS13.out, own_sl Exp.len HR13.out, .inr HR13.out, kk, .inl rfl⟩
      case rest =>
        obtain ⟨ex, EX, hex⟩ := hcut
        have HEX := Lib.hid hex
        have HB5 := Lib.hid hex.bel
        have HL5 := Lib.hid hex.md
        have HS5 := Lib.hid hex.ls
        have HR5 := Lib.hid (show RowE W m ex EX wc from hex.row)
        clear hex
        obtain ⟨sy, cy, hyv, hys⟩ := HM.out.2.2.2.2.2.2.2.2.1.1.form
        have HYV := Lib.hid hyv
        have HYS := Lib.hid hys
        clear hyv hys
        have xM9 : wc.cell? ⟨Bm, 9, none⟩ = some (.slice sy m.elems.length cy) := (HL5.out.cell 9).trans (congrArg some HYV.out)
        go_upto_if 71 with fail
        go_cut [10] from 71 to 89 (fun _ wy => ∃ ey EY, Ey W m Bm Bl ex EX ey EY wy)
        case first =>
          have HBL := Lib.hid (show W.heap.size ≤ Bl from by rw [HBE.out]; exact HB4.out.size)
          have HNE := Lib.hid (show ¬ Bm = Bl from fun e => by have := HL4.out.lt; have := HBE.out; omega)
          by_cases h0 : m.elems.length = 0
          · have h01 : ¬ 0 < m.elems.length := by omega
            go_wp2_with fail
            go_meet
            exact ⟨m.ev2, m.elems, HB5.out, HS5.out, HR5.out, .inl ⟨rfl, rfl⟩, 0, .inr rfl⟩
          · have h01 : 0 < m.elems.length := by omega
            have h02 : ¬ (m.elems.length : Int) = 0 := by omega
            obtain ⟨kk, hkk⟩ : ∃ kk : Nat, ik % (m.elems.length : Int) = kk := ⟨(ik % (m.elems.length : Int)).toNat, by have := Int.emod_nonneg ik (show (m.elems.length : Int) ≠ 0 by omega); omega⟩
            have hkl : kk < m.elems.length := by have := Int.emod_lt_of_pos ik (show (0 : Int) < (m.elems.length : Int) by omega); omega
            have hll : m.elems.length ≤ 1048576 := HM.out.2.2.2.2.2.2.2.2.1.2.2
            have hcap : m.elems.length ≤ cy := (hce _ _ _ HYV.out).1
            have hlt : m.elems.length < 1048576 := (hce _ _ _ HYV.out).2
            go_wp2_with fail
            rw [hkk]
            clear hkk h0 h01 h02 xM9 
            have hd := below_drew wc
            have HB6 := Lib.hid (bt HB5.out hd)
            have HL6 := Lib.hid (HL5.out.below hd HL5.out.lt)
            have HS6 := Lib.hid (HS5.out.below hd HS5.out.lt)
            have HP6 := Lib.hid (HR5.out.later hd)
            refine wp_region_t [(1, 1), (2, 1), (3, 1), (4, 1), (6, 1), (7, 1), (8, 1), (9, 1), (10, 1), (0, 0), (5, 0), (11, 0), (12, 1), (13, 0)] (fun w' => w'.cell? ⟨Bm, 9, none⟩ = some (.slice sy m.elems.length cy)) [] [] rfl (by kernel_rfl) (by kernel_rfl) (fun _ _ d _ _ h => by cases d <;> exact h) ((HL6.out.cell 9).trans (congrArg some HYV.out)) (fun p hp => by cases hp) ?_
            clear hd
            generalize wc.drew = w6 at HB6 HL6 HS6 HP6 ⊢
            repeat (first | (refine ts_take (v := .slice sy kk cy) rfl rfl (fun w' _ => exec_sl1e _ _ rfl rfl rfl (by omega)) ?_; (try simp only [Act.put, List.setIfInBounds_toArray, List.set_cons_zero, List.set_cons_succ])) | (refine ts_take (v := .int .i64 ((kk + 1 : Nat) : Int)) rfl rfl (fun w' _ => exec_add1 _ rfl rfl (by omega)) ?_; (try simp only [Act.put, List.setIfInBounds_toArray, List.set_cons_zero, List.set_cons_succ])) | (refine ts_take (v := dropV sy m.elems.length cy (kk + 1)) rfl rfl (fun w' _ => exec_sl2e _ _ rfl rfl rfl (by omega) hcap) ?_; (try simp only [Act.put, List.setIfInBounds_toArray, List.set_cons_zero, List.set_cons_succ])) | (refine ts_take (v := ?_) rfl rfl (fun w' hw' => ?_) ?_; rotate_left; (focus (have q0 := hw'; (try simp only [Act.put, List.setIfInBounds_toArray, List.set_cons_zero, List.set_cons_succ]); go_simp; (try go_bits); (try (with_reducible rfl)))); (try simp only [Act.put, List.setIfInBounds_toArray, List.set_cons_zero, List.set_cons_succ])))
            have HXL := Lib.hid (show Sl W 3 Elm.cs (.slice sy m.elems.length cy) m.elems from by rw [← HYV.out]; exact HM.out.2.2.2.2.2.2.2.2.1.1)
            have HONE := Lib.hid (show ∀ y ∈ m.elems, ∀ u ∈ y.cs, u.oneCell' = true from fun y hy => oneElmL (HM.out.2.2.2.2.2.2.2.2.1.2.1 y hy))
            refine ts_run1 rfl rfl (fun K hK => ?_)
            refine wp_e0 rfl (fun w7 hb7 hl7 => ?_)
            have HB7 := Lib.hid (bt HB6.out hb7)
            have HL7 := Lib.hid (HL6.out.below hb7 HL6.out.lt)
            have HS7 := Lib.hid (HS6.out.below hb7 HS6.out.lt)
            have HP7 := Lib.hid (HP6.out.later hb7)
            have HR7 := Lib.hid (row_e0 hl7 HB6.out.size)
            refine hK.out _ _ ((HL7.out.cell 9).trans (congrArg some HYV.out)) (still_none _ _) ?_
            clear hK K hb7 hl7
            (try simp only [Act.put, List.setIfInBounds_toArray, List.set_cons_zero, List.set_cons_succ])
            refine ts_run1 rfl rfl (fun K hK => ?_)
            refine wp_app (by_ := 56) _ _ rfl und_e inf_e (by decide) rfl HR7.out Elm.len rfl (sl_takeI (k := kk) (HXL.out.later HB7.out) (by omega)) (fun y hy => HONE.out y (List.mem_of_mem_take hy)) (by unfold maxLen; simp; omega) (by simp; omega) HB7.out.size (fun v8 w8 hr8 hg8 hv8 => ?_)
            have HB8 := Lib.hid (HB7.out.grown hg8 HB7.out.size (fun _ hk => (row_block HR7.out hk).1))
            have HL8 := Lib.hid (lies_frT HL7.out (FrT.grown HR7.out hg8) (by decide))
            have HS8 := Lib.hid (lies_frT HS7.out (FrT.grown HR7.out hg8) (by decide))
            have HP8 := Lib.hid (HP7.out.frT (FrT.grown HR7.out hg8) (by decide))
            have HR8 := Lib.hid hr8
            refine hK.out _ _ ((HL8.out.cell 9).trans (congrArg some HYV.out)) (still_none _ _) ?_
            clear hK K hr8 hg8 hv8
            (try simp only [Act.put, List.setIfInBounds_toArray, List.set_cons_zero, List.set_cons_succ])
            refine ts_run1 rfl rfl (fun K hK => ?_)
            refine wp_app (by_ := 56) _ _ rfl und_e inf_e (by decide) rfl HR8.out Elm.len rfl (sl_dropV (k := kk + 1) (HXL.out.later HB8.out) hcap) (fun y hy => HONE.out y (List.mem_of_mem_drop hy)) (by unfold maxLen; simp; omega) (by simp; omega) HB8.out.size (fun v9 w9 hr9 hg9 hv9 => ?_)
            have HB9 := Lib.hid (HB8.out.grown hg9 HB8.out.size (fun _ hk => (row_block HR8.out hk).1))
            have HL9 := Lib.hid (lies_frT HL8.out (FrT.grown HR8.out hg9) (by decide))
            have HS9 := Lib.hid (lies_frT HS8.out (FrT.grown HR8.out hg9) (by decide))
            have HP9 := Lib.hid (HP8.out.frT (FrT.grown HR8.out hg9) (by decide))
            have HR9 := Lib.hid (row_two hr9)
            obtain ⟨s9, c9, rfl, _, _⟩ := row_form hr9
            refine hK.out _ _ ((HL9.out.cell 9).trans (congrArg some HYV.out)) (still_none _ _) ?_
            clear hK K hr9 hg9 hv9
            (try simp only [Act.put, List.setIfInBounds_toArray, List.set_cons_zero, List.set_cons_succ])
            repeat (refine ts_take (v := ?_) rfl rfl (fun w' hw' => ?_) ?_; rotate_left; (focus (clear hw'; (try simp only [Act.put, List.setIfInBounds_toArray, List.set_cons_zero, List.set_cons_succ]); go_simp; (try go_bits); (try (with_reducible rfl)))); (try simp only [Act.put, List.setIfInBounds_toArray, List.set_cons_zero, List.set_cons_succ]))
            obtain ⟨n9, hn9⟩ : ∃ n9, n9 = 0 + (m.elems.take kk).length + (m.elems.drop (kk + 1)).length := ⟨_, rfl⟩
            rw [← hn9] at HR9 ⊢
            refine ts_run1 rfl rfl (fun K hK => ?_)
            refine wp_fld (c0 := ({ m with ev := ex, exps := EX } : Mod).cs) HS9.out _ _ rfl rfl rfl [.slice s9 n9 c9] ({ m with ev := ex, exps := EX, ev2 := .slice s9 n9 c9, elems := m.elems.take kk ++ m.elems.drop (kk + 1) } : Mod).cs rfl siz_e (by intro u hu; obtain rfl := List.mem_singleton.1 hu; rfl) (by simp [Mod.cs]) rfl (fun w10 hl10 hf10 => ?_)
            have HB10 := Lib.hid (HB9.out.trans (hf10.below HB9.out.size (fun k hk => by rw [hk]; exact HBL.out)))
            have HL10 := Lib.hid (lies_fr HL9.out hf10 HNE.out)
            have HR10 := Lib.hid (row_frT HR9.out (FrT.field HS9.out hf10) (by decide))
            have HS10 := Lib.hid hl10
            have HP10 := Lib.hid (HP9.out.frT (FrT.field HS9.out hf10) (by decide))
            refine hK.out _ _ ((HL10.out.cell 9).trans (congrArg some HYV.out)) (still_none _ _) ?_
            clear hK K hl10 hf10
            (try simp only [Act.put])
            refine ts_done ?_
            go_wp2_with fail
            go_meet
            exact ⟨_, _, HB10.out, HS10.out, HP10.out, .inr HR10.out, kk, .inl rfl⟩
        case rest =>
          obtain ⟨ey, EY, hey⟩ := hcut
          have HEY := Lib.hid hey
          have HB12 := Lib.hid hey.bel
          have HS12 := Lib.hid hey.ls
          have HP12 := Lib.hid hey.row
          have HQ12 := Lib.hid hey.rowY
          clear hey
          have HBL := Lib.hid (show W.heap.size ≤ Bl from by rw [HBE.out]; exact HB4.out.size)
          obtain ⟨hs1, hn1⟩ := less_sub HEX.out.how
          obtain ⟨hs2, hn2⟩ := less_sub HEY.out.how
          have HS1 := Lib.hid hs1
          have HS2 := Lib.hid hs2
          have HN1 := Lib.hid hn1
          have HN2 := Lib.hid hn2
          clear hs1 hs2 hn1 hn2
          go_wp2_with (first | (refine wl_fld (c0 := ({ m with ev := ex, exps := EX, ev2 := ey, elems := EY } : Mod).cs) HS12.out _ _ rfl rfl rfl rfl [.slice none 0 0] ({ m with ev := ex, exps := EX, ev2 := ey, elems := EY, dv := .slice none 0 0, datas := [] } : Mod).cs rfl (by kernel_rfl) (by intro u hu; obtain rfl := List.mem_singleton.1 hu; rfl) (by simp [Mod.cs]) rfl (fun w13 hl13 hf13 => ?_); have HB13 := Lib.hid (HB12.out.trans (hf13.below HB12.out.size (fun k hk => by rw [hk]; exact HBL.out))); have HP13 := Lib.hid (HP12.out.frT (FrT.field HS12.out hf13) (by decide)); have HQ13 := Lib.hid (HQ12.out.frT (FrT.field HS12.out hf13) (by decide)); have HS13 := Lib.hid hl13; clear hl13 hf13; (try simp only [Act.put])) | (refine wl_fld (c0 := ({ m with ev := ex, exps := EX, ev2 := ey, elems := EY, dv := .slice none 0 0, datas := [] } : Mod).cs) HS13.out _ _ rfl rfl rfl rfl [.bool false] ({ m with ev := ex, exps := EX, ev2 := ey, elems := EY, hs := false, dv := .slice none 0 0, datas := [] } : Mod).cs rfl (by kernel_rfl) (by intro u hu; obtain rfl := List.mem_singleton.1 hu; rfl) (by simp [Mod.cs]) rfl (fun w14 hl14 hf14 => ?_); have HB14 := Lib.hid (HB13.out.trans (hf14.below HB13.out.size (fun k hk => by rw [hk]; exact HBL.out))); have HP14 := Lib.hid (HP13.out.frT (FrT.field HS13.out hf14) (by decide)); have HQ14 := Lib.hid (HQ13.out.frT (FrT.field HS13.out hf14) (by decide)); have HS14 := Lib.hid hl14; clear hl14 hf14; (try simp only [Act.put])) | (refine wl_fld (c0 := ({ m with ev := ex, exps := EX, ev2 := ey, elems := EY, hs := false, dv := .slice none 0 0, datas := [] } : Mod).cs) HS14.out _ _ rfl rfl rfl rfl [.int .u32 0] ({ m with ev := ex, exps := EX, ev2 := ey, elems := EY, hs := false, st := 0, dv := .slice none 0 0, datas := [] } : Mod).cs rfl (by kernel_rfl) (by intro u hu; obtain rfl := List.mem_singleton.1 hu; rfl) (by simp [Mod.cs]) rfl (fun w15 hl15 hf15 => ?_); have HB15 := Lib.hid (HB14.out.trans (hf15.below HB14.out.size (fun k hk => by rw [hk]; exact HBL.out))); have HP15 := Lib.hid (HP14.out.frT (FrT.field HS14.out hf15) (by decide)); have HQ15 := Lib.hid (HQ14.out.frT (FrT.field HS14.out hf15) (by decide)); have HS15 := Lib.hid hl15; clear hl15 hf15; (try simp only [Act.put])) | (refine wpList_load_mid rfl 33 _ rfl Bl 0 rfl ({ m with ev := ex, exps := EX, ev2 := ey, elems := EY, hs := false, st := 0, dv := .slice none 0 0, datas := [] } : Mod).cs _ (lies_range HS15.out) Tryz.underlying33 rfl sizeMod ?_; (try simp only [Act.put, List.setIfInBounds_toArray, List.set_cons_zero, List.set_cons_succ])))
          have HMX := Lib.hid (show ModOk w15 ({ m with ev := ex, exps := EX, ev2 := ey, elems := EY, hs := false, st := 0, dv := .slice none 0 0, datas := [] } : Mod) from by
            have h := HM.out.later HB15.out
            exact ⟨h.1, h.2.1, h.2.2.1, h.2.2.2.1, h.2.2.2.2.1, h.2.2.2.2.2.1, ⟨HP15.out.sl HM.out HB15.out, fun y hy => h.2.2.2.2.2.2.1.2.1 y (HS1.out y hy), Nat.le_trans HN1.out h.2.2.2.2.2.2.1.2.2⟩, (by decide : 0 < 4294967296), ⟨HQ15.out.sl HM.out HB15.out, fun y hy => h.2.2.2.2.2.2.2.2.1.2.1 y (HS2.out y hy), Nat.le_trans HN2.out h.2.2.2.2.2.2.2.2.1.2.2⟩, h.2.2.2.2.2.2.2.2.2.1, ⟨⟨none, 0, rfl, fun h => absurd rfl h⟩, (fun _ h => nomatch h), Nat.zero_le _⟩⟩)
          have HG := Lib.hid (vchk_less (m := m) (m' := { m with ev := ex, exps := EX, ev2 := ey, elems := EY, hs := false, st := 0, dv := .slice none 0 0, datas := [] }) HEV2.out.symm ⟨rfl, rfl, rfl, rfl, rfl, rfl, rfl⟩ HEX.out.how HS2.out rfl rfl)
          refine (vcheck_any HMX.out).mono ?_
          rintro en w16 ⟨v2, rfl, hv16, hb16⟩
          have HB16 := Lib.hid (bt HB15.out hb16)
          rw [HG.out.2, ← HHH.out] at hv16
          rw [HG.out.1]
          obtain ⟨s16, c16, rfl, _⟩ := hv16.form
          clear hb16 hv16
          go_wp2_with fail
          go_ret
          exact ⟨rfl, HB16.out⟩
  · have h01 : ¬ (ev : Int) = 0 := by omega
    have h02 : ((ev : Int) != 0) = true := by simpa using he
    go_wp2_with fail
    go_ret
    exact ⟨rfl, HB4.out⟩
end Go.Proofs.YtmgjcaikldeioaaGreat.Va
/- The statement ValidLessUpto: for every input of bulk at most 1048576 the call returns true (a valid module is valid without any of its exports, elements and data, and without its start; with one export twice it is not) and each argument reads behind it as it did: the row. Conditions: the bulk's bound alone. -/
namespace Go.Proofs.YtmgjcaikldeioaaGreat.lwLess
open Go Go.ChangeShapes Go.WideShapes Go.ChangeAt Go.RowKit Kt Fm Gr Ty Va
theorem laidOut : laidOutB Tryz.prog = true := by kernel_rfl
theorem readable : (Tryz.f4.params.toList.all fun t => Tryz.prog.readableRec t && decide (t < Tryz.prog.types.size)) = true := by kernel_rfl
set_option maxRecDepth 100000 in
theorem contract (H : Type) (enc : TypeId × Value → H) (W : World) (base : Nat) (args : Array Value) (ds gs : List (DataW H)) (before : List MemPlace)
    (hval : ∀ (j : Nat) t v, Tryz.f4.params[j]? = some t → args[j]? = some v → Value.okWide Tryz.prog W .any base t v)
    (hW : DataW.Whole enc Tryz.prog Tryz.f4.params.toList Rows.validLessSpec.vars false W args.toList ds gs before) (hk : Rows.uptoSmall H (ds ++ gs) = true) :
    Calls Tryz.prog 4 args W fun e W' => ∃ v, e = .returned v ∧ Rows.validLessSpec.post enc Tryz.prog Tryz.f4 false true false false W args v W' := by
  have hW' := hW
  obtain ⟨p, q, hA0, hV, rfl, hfz, hnd⟩ := hW
  have hA : DataW.TrodAll enc Tryz.prog W 0 (fun _ => true) true Tryz.f4.params.toList args.toList ds p := hA0
  rw [Tryz.params4] at hA hval
  obtain ⟨v0, vs0, d0, ds0, p0, q0, hargs0, rfl, rfl, h0, r0⟩ := trodAll_cons hA
  obtain ⟨v1, vs1, d1, ds1, p1, q1, hargs1, rfl, rfl, h1, r1⟩ := trodAll_cons r0
  subst hargs1
  obtain ⟨rfl, rfl, rfl⟩ := trodAll_nil r1
  obtain rfl : args = #[v0, v1] := by cases args; simp_all
  obtain ⟨rfl, rfl⟩ := trodVars_none hV
  obtain ⟨x0, rfl, hx0, hcx0, hce0⟩ := open_modC (hval 0 _ v0 rfl rfl) h0 (small hk (by simp))
  obtain ⟨x1, rfl, _, _⟩ := open_int Tryz.underlying3 (hval 1 _ v1 rfl rfl) h1
  refine (law_less hx0 hcx0 hce0 x1).mono fun e W' ⟨he, hb⟩ => ?_
  subst he
  exact ⟨_, rfl, Rw.law_post laidOut readable rfl Tryz.underlying4 rfl (fun _ => rfl) (fun _ => rfl) (fun _ => rfl) hW' hb⟩
set_option maxRecDepth 100000 in
theorem reads (os : Os) {H : Type} (enc : TypeId × Value → H) : ∃ places, DataW.whole enc Tryz.prog ((Rw.plainWorld os).forCall (fun _ _ => 0) ⟨#[], #[(.agg #[.slice none 0 0, .slice none 0 0, .slice none 0 0, .slice none 0 0, .slice none 0 0, .slice none 0 0, .slice none 0 0, .bool false, .int .u32 0, .slice none 0 0, .slice none 0 0, .slice none 0 0]), (.int .i64 0)], []⟩).memory Tryz.f4.params.toList Rows.validLessSpec.vars false (#[(.agg #[.slice none 0 0, .slice none 0 0, .slice none 0 0, .slice none 0 0, .slice none 0 0, .slice none 0 0, .slice none 0 0, .bool false, .int .u32 0, .slice none 0 0, .slice none 0 0, .slice none 0 0]), (.int .i64 0)] : Array Value).toList 8 = some ([(.agg [.nil, .nil, .nil, .nil, .nil, .nil, .nil, .lit (.bool false), .lit (.int .u32 0), .nil, .nil, .nil]), (.lit (.int .i64 0))], [], places) :=
  ⟨[], by kernel_rfl⟩
set_option maxRecDepth 100000 in
theorem lifted (os : Os) (started : os.Started) (H : Type) (enc : TypeId × Value → H) (F : Stop.Interp) :
    ReturnsInHanded {} Tryz.checked os 4 .any ((Rows.OpenSpec.upto Rows.validLessSpec).preRow enc Tryz.prog Tryz.f4 Rows.validLessUptoRow.domain false Rows.validLessUptoRow.laid) (((Rows.OpenSpec.upto Rows.validLessSpec).at F).post enc Tryz.prog Tryz.f4 false true false false) := by
  obtain ⟨places, hx⟩ := reads os enc
  refine returnsInHanded_of_row (C := Tryz.checked) (s := Rows.OpenSpec.upto Rows.validLessSpec) Rw.own started (by kernel_rfl) Tryz.func4
    (witness_row_at (enc := enc) (C := Tryz.checked) false (Rw.plainWorld os) #[(.agg #[.slice none 0 0, .slice none 0 0, .slice none 0 0, .slice none 0 0, .slice none 0 0, .slice none 0 0, .slice none 0 0, .bool false, .int .u32 0, .slice none 0 0, .slice none 0 0, .slice none 0 0]), (.int .i64 0)] rfl (by kernel_rfl) (by kernel_rfl) (by kernel_rfl)
      (OpenSpec.preRow_of_cond 8 hx (by kernel_rfl) (fun k hk => by cases hk; kernel_rfl) (by kernel_rfl) (Rw.met_nil _))) ?_
  intro W base args ds gs before hval hW _ hcond _ _ _ _
  exact contract H enc W base args ds gs before hval hW (hcond _ rfl)
theorem said : Rows.ValidLessUptoSaid :=
  OpenClaim.holds_of_cond 4 Tryz.f4 rfl rfl rfl rfl rfl rfl rfl ⟨rfl, rfl, rfl, rfl, rfl⟩ rfl rfl rfl rfl rfl (by kernel_rfl) Tryz.func4 (by kernel_rfl)
    (of_decide_eq_true (by kernel_rfl)) (by unfold Func.isWrapper; first | (rw [if_pos (by decide +kernel)]; kernel_rfl) | (rw [if_neg (by decide +kernel)]; exact ⟨rfl, rfl⟩))
    (fun os started H enc _ F => by rw [OpenClaim.pre_eq_preRow]; exact lifted os started H enc F)
#print axioms said
end Go.Proofs.YtmgjcaikldeioaaGreat.lwLess
