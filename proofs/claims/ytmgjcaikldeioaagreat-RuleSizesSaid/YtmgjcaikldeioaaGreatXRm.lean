/- rule: what is offered, what rule.Check tells. -/
import Derived.Test.YtmgjcaikldeioaaGreatXNj
import Derived.Lib.OthersKept
namespace Go.Proofs.YtmgjcaikldeioaaGreat.Ru
open Go Go.RowKit Go.Lib Kt Fm Gr Ty Va

/-- What is offered, in memory. -/
structure Hst where
 (nm : List UInt8) (ft : Ft)
def Hst.cs (x : Hst) : List Value := [.string ⟨x.nm.toArray⟩, x.ft.pv, x.ft.rv]
theorem Hst.len (x : Hst) : x.cs.length = 3 := rfl
def Hst.tri (x : Hst) : List UInt8 × List UInt8 × List UInt8 := (x.nm, x.ft.p, x.ft.r)
/-- The rows, as a text. -/
def hostsL : List UInt8 := [105, 110, 112, 117, 116, 95, 108, 101, 110, 32, 62, 105, 124, 105, 110, 112, 117, 116, 32, 105, 105, 105, 62, 124, 99, 97, 108, 108, 101, 114, 32, 105, 62, 124, 115, 101, 108, 102, 32, 105, 62, 124, 118, 97, 108, 117, 101, 32, 62, 73, 124, 98, 97, 108, 97, 110, 99, 101, 32, 105, 62, 73, 124, 114, 101, 97, 100, 32, 105, 105, 105, 105, 62, 105, 124, 119, 114, 105, 116, 101, 32, 105, 105, 105, 105, 62, 124, 114, 101, 109, 111, 118, 101, 32, 105, 105, 62, 105, 124, 101, 109, 105, 116, 32, 105, 105, 62, 124, 99, 97, 108, 108, 32, 105, 73, 73, 105, 105, 62, 105, 124, 114, 101, 116, 95, 108, 101, 110, 32, 62, 105, 124, 114, 101, 116, 32, 105, 105, 105, 62, 124, 102, 105, 110, 105, 115, 104, 32, 105, 105, 62, 124, 114, 101, 118, 101, 114, 116, 32, 105, 105, 62, 124, 103, 97, 115, 95, 108, 101, 102, 116, 32, 62, 73]
/-- How far the text was read. -/
structure St where
 (out : List (List UInt8 × List UInt8 × List UInt8)) (nm p r : List UInt8) (named res : Bool)
def St.step (s : St) (c : UInt8) : St :=
 if c = 124 then ⟨s.out ++ [(s.nm, s.p, s.r)], [], [], [], false, false⟩
 else if c = 32 then ⟨s.out, s.nm, s.p, s.r, true, s.res⟩
 else if s.named = false then ⟨s.out, s.nm ++ [c], s.p, s.r, false, s.res⟩
 else if c = 62 then ⟨s.out, s.nm, s.p, s.r, true, true⟩
 else if s.res = true then ⟨s.out, s.nm, s.p, s.r ++ [if c = 105 then 127 else 126], true, true⟩
 else ⟨s.out, s.nm, s.p ++ [if c = 105 then 127 else 126], s.r, true, false⟩
def St.none : St := ⟨[], [], [], [], false, false⟩
/-- A state that was come to: nothing of the results ahead of them; no longer than the text. -/
def sts (k : Nat) : St := (hostsL.take k).foldl St.step St.none
theorem sts_succ {k : Nat} {c : UInt8} (h : hostsL[k]? = some c) : sts (k + 1) = (sts k).step c := by
 unfold sts
 rw [List.take_add_one, h, Option.toList_some, List.foldl_append]
 rfl
theorem sts_ok : ∀ k : Fin 175, (sts k.1).out.length ≤ 16 ∧ (sts k.1).p.length ≤ 16 ∧ (sts k.1).r.length ≤ 16 ∧ ((sts k.1).res = false → (sts k.1).r = []) ∧ ((sts k.1).named = false → (sts k.1).res = false ∧ (sts k.1).p = []) ∧ (sts k.1).nm.length ≤ 32 := by decide +kernel
theorem hosts_ok : ∀ (k : Nat) (c : UInt8), hostsL[k]? = some c → c.toNat < 128 ∧ (c = 62 → (sts k).res = false) := by
 have h : (List.range 174).all (fun k => decide ((hostsL.getD k 0).toNat < 128 ∧ (hostsL.getD k 0 = 62 → (sts k).res = false))) = true := by decide +kernel
 intro k c hc
 have hk : k < 174 := (List.getElem?_eq_some_iff.1 hc).1
 have := List.all_eq_true.1 h k (List.mem_range.2 hk)
 rw [List.getD_eq_getElem?_getD, hc] at this
 exact of_decide_eq_true this
/-- The whole. -/
def hostsT : List (List UInt8 × List UInt8 × List UInt8) := (sts 174).out ++ [((sts 174).nm, (sts 174).p, (sts 174).r)]
/-- Bytes in blocks from one number on, below another. -/
def Low (l b : Nat) (w : World) (x : Ft) : Prop := WRow w (fun k => l ≤ k ∧ k < b) 5 1 x.pv x.p.length (x.p.flatMap u8c) ∧ WRow w (fun k => l ≤ k ∧ k < b) 5 1 x.rv x.r.length (x.r.flatMap u8c)
theorem Low.fr {l b : Nat} {w w' : World} {x : Ft} {m : Nat → Prop} (h : Low l b w x) (hf : Fr w w' m) (hm : ∀ k, l ≤ k ∧ k < b → ¬ m k) : Low l b w' x := ⟨h.1.kept hf (fun k hk _ => hm k hk), h.2.kept hf (fun k hk _ => hm k hk)⟩
theorem Low.below {l b : Nat} {w w' : World} {x : Ft} (h : Low l b w x) (hb : Below b w w') : Low l b w' x :=
 h.fr (m := fun k => ¬ k < b) ⟨hb.os, hb.tape, hb.output, hb.size, fun k _ hk => hb.block k (Decidable.not_not.1 hk)⟩ (fun _ hk hn => hn hk.2)
theorem Low.frT {l b : Nat} {w w' : World} {x : Ft} {es : List TypeId} (h : Low l b w x) (hf : FrT es w w') (he : 5 ∉ es) : Low l b w' x := ⟨wrow_frT h.1 hf he, wrow_frT h.2 hf he⟩
theorem Low.mono {l b b' : Nat} {w : World} {x : Ft} (h : Low l b w x) (hb : b ≤ b') : Low l b' w x := ⟨h.1.mono (fun _ _ hk => ⟨hk.1, Nat.lt_of_lt_of_le hk.2 hb⟩), h.2.mono (fun _ _ hk => ⟨hk.1, Nat.lt_of_lt_of_le hk.2 hb⟩)⟩
theorem Low.own {l b : Nat} {w : World} {x : Ft} (h : Low l b w x) : FtOwn w x := ⟨h.1.mono (fun _ _ _ => trivial), h.2.mono (fun _ _ _ => trivial)⟩
section
variable {P : Program} {ops : Array Oper} {rest : List Oper} {op : Oper} {a : Act} {w : World} {Q : Exit → Act → World → Prop}
theorem fr_iter {k : Nat} {S : ByteArray} {pos : Nat} (w : World) : Fr w (w.iterAt k S pos) (fun j => j = k) := ⟨rfl, rfl, rfl, Nat.le_of_eq (iterAt_size w k S pos).symm, fun j _ hj => iterAt_other w k j S pos hj⟩
theorem wl_next {k pos : Nat} {S : ByteArray} (hk : w.heap[k]? = some (.stringIter S pos)) (h : pos < S.size) (ha : (S[pos]'h).toNat < 128) (p : Operand) (hgd : op.guard = none) (ho : op.op = .next p true) (hp : a.eval p = .pointer (some ⟨k, 0, none⟩))
  (hK : ∀ w', w'.heap[k]? = some (.stringIter S (pos + 1)) → Fr w w' (fun j => j = k) → wpList P ops Q rest (a.put op.dst (.tuple #[.bool true, .int .i64 pos, .int .i32 (S[pos]'h).toNat])) w') : wpList P ops Q (op :: rest) a w := by
 refine wpList_plain hgd fun _ hK' => ?_
 have hb := run_next_ascii_at (P := P) w k S pos op.type hk h ha
 unfold Oper.wp execOp
 simp only [ho, hp, hb, Sem.run_bind, Sem.run_pure, Result.andThen_ok]
 exact hK' _ _ (hK _ (iterAt_heap w k S pos _ hk) (fr_iter w))
theorem wl_next_end {k pos : Nat} {S : ByteArray} (hk : w.heap[k]? = some (.stringIter S pos)) (h : ¬ pos < S.size) (p : Operand) (hgd : op.guard = none) (ho : op.op = .next p true) (hp : a.eval p = .pointer (some ⟨k, 0, none⟩))
  (hK : wpList P ops Q rest (a.put op.dst (.tuple #[.bool false])) w) : wpList P ops Q (op :: rest) a w := by
 refine wpList_plain hgd fun _ hK' => ?_
 have hb := run_next_end_at (P := P) w k S pos op.type hk h
 unfold Oper.wp execOp
 simp only [ho, hp, hb, Sem.run_bind, Sem.run_pure, Result.andThen_ok]
 exact hK' _ _ hK
end
/-- What rule.Hosts has in memory: what was told so far, the types of what is read. -/
structure Hz (W : World) (s : St) (L : List Hst) (pv rv : Value) (b : Nat) (v1 : Value) (w : World) : Prop where
 bel : Below W.heap.size W w
 out : w.ownsRow (W.heap.size + 2) 69 3 v1 L.length (L.flatMap Hst.cs)
 tri : L.map Hst.tri = s.out
 low : ∀ x ∈ L, Low (W.heap.size + 2) b w x.ft
 le : W.heap.size + 2 ≤ b ∧ b ≤ w.heap.size
 cur : (s.res = false ∧ rv = .slice none 0 0 ∧ s.r = [] ∧ w.ownsRow b 5 1 pv s.p.length (s.p.flatMap u8c)) ∨ (s.res = true ∧ WRow w (fun k => W.heap.size + 2 ≤ k ∧ k < b) 5 1 pv s.p.length (s.p.flatMap u8c) ∧ w.ownsRow b 5 1 rv s.r.length (s.r.flatMap u8c))
section
variable {W w w' : World} {s : St} {L : List Hst} {pv rv v1 : Value} {b : Nat}
theorem Hz.fr (h : Hz W s L pv rv b v1 w) {m : Nat → Prop} (hf : Fr w w' m) (hm : ∀ k, m k → k = W.heap.size ∨ k = W.heap.size + 1) : Hz W s L pv rv b v1 w' := by
 have hs := hf.size
 have hl := h.le
 refine ⟨h.bel.trans (hf.below h.bel.size (fun k hk => by have := hm k hk; omega)), row_fr h.out hf (fun k hk e => ?_), h.tri, fun x hx => (h.low x hx).fr hf (fun k hk e => ?_), ⟨hl.1, by omega⟩, ?_⟩
 ·have := (row_block h.out hk).1; have := hm k e; omega
 ·have := hm k e; omega
 ·rcases h.cur with ⟨h1, h2, h3, h4⟩ | ⟨h1, h2, h3⟩
  ·exact .inl ⟨h1, h2, h3, row_fr h4 hf (fun k hk e => by have := (row_block h4 hk).1; have := hm k e; omega)⟩
  ·exact .inr ⟨h1, h2.kept hf (fun k hk _ e => by have := hm k e; omega), row_fr h3 hf (fun k hk e => by have := (row_block h3 hk).1; have := hm k e; omega)⟩
theorem Hz.later (h : Hz W s L pv rv b v1 w) (hb : Below w.heap.size w w') : Hz W s L pv rv b v1 w' := h.fr (Fr.of_below hb (fun _ => False)) (fun _ h => h.elim)
theorem Hz.start (W : World) (hb : Below W.heap.size W w) (hs : W.heap.size + 2 ≤ w.heap.size) : Hz W St.none [] (.slice none 0 0) (.slice none 0 0) w.heap.size (.slice none 0 0) w :=
 ⟨hb, World.ownsRow_nil _ _ _ _, rfl, (fun _ h => by cases h), ⟨hs, Nat.le_refl _⟩, .inl ⟨rfl, rfl, rfl, World.ownsRow_nil _ _ _ _⟩⟩
/-- The types of what is read lie below the heap's end. -/
theorem Hz.curLow (h : Hz W s L pv rv b v1 w) : Low (W.heap.size + 2) w.heap.size w ⟨pv, s.p, rv, s.r⟩ := by
 have hl := h.le
 rcases h.cur with ⟨h1, rfl, h3, h4⟩ | ⟨h1, h2, h3⟩
 ·exact ⟨(WRow.of_own h4 (own := fun k => b ≤ k) (fun _ h => h)).mono (fun k hk hb => ⟨by omega, hk⟩), by rw [show (⟨pv, s.p, .slice none 0 0, s.r⟩ : Ft).r = s.r from rfl, h3]; exact WRow.nil _ _ _ _⟩
 ·exact ⟨h2.mono (fun k hk hb => ⟨hb.1, hk⟩), (WRow.of_own h3 (own := fun k => b ≤ k) (fun _ h => h)).mono (fun k hk hb => ⟨by omega, hk⟩)⟩
/-- One more is told. -/
theorem Hz.add {v' : Value} {x : Hst} (h : Hz W s L pv rv b v1 w) (hx : x = ⟨s.nm, ⟨pv, s.p, rv, s.r⟩⟩) (hr : w'.ownsRow (W.heap.size + 2) 69 3 v' (L.length + [x].length) (L.flatMap Hst.cs ++ [x].flatMap Hst.cs)) (hg : w.grownBy w' v1.ownBlock) :
  Hz W ⟨s.out ++ [(s.nm, s.p, s.r)], [], [], [], false, false⟩ (L ++ [x]) (.slice none 0 0) (.slice none 0 0) w'.heap.size v' w' := by
 subst hx
 have hf := FrT.grown h.out hg
 have hs := Fr.size hf
 have hl := h.le
 refine ⟨h.bel.grown hg h.bel.size (fun k hk => by have := (row_block h.out hk).1; omega), ?_, ?_, fun x hx => ?_, ⟨by omega, Nat.le_refl _⟩, .inl ⟨rfl, rfl, rfl, World.ownsRow_nil _ _ _ _⟩⟩
 ·rw [List.length_append, List.flatMap_append]; exact hr
 ·rw [List.map_append, h.tri]; rfl
 ·rcases List.mem_append.1 hx with hx | hx
  ·exact ((h.low x hx).mono (by omega)).frT hf (by decide)
  ·obtain rfl := List.mem_singleton.1 hx
   exact (h.curLow.frT hf (by decide)).mono hs
theorem Hz.turn (h : Hz W s L pv rv b v1 w) (h0 : s.res = false) : Hz W ⟨s.out, s.nm, s.p, s.r, true, true⟩ L pv rv w.heap.size v1 w := by
 have hl := h.le
 have hc := h.curLow
 rcases h.cur with ⟨h1, rfl, h3, h4⟩ | ⟨h1, _⟩
 ·exact ⟨h.bel, h.out, h.tri, fun x hx => (h.low x hx).mono hl.2, ⟨by omega, Nat.le_refl _⟩, .inr ⟨rfl, hc.1, by rw [h3]; exact World.ownsRow_nil _ _ _ _⟩⟩
 ·rw [h0] at h1; cases h1
theorem Hz.named (h : Hz W s L pv rv b v1 w) (nm : List UInt8) (nd : Bool) : Hz W ⟨s.out, nm, s.p, s.r, nd, s.res⟩ L pv rv b v1 w := ⟨h.bel, h.out, h.tri, h.low, h.le, h.cur⟩
/-- One more result. -/
theorem Hz.appR {v' : Value} {c : UInt8} (h : Hz W s L pv rv b v1 w) (h0 : s.res = true) (hr : w'.ownsRow b 5 1 v' (s.r.length + [c].length) (s.r.flatMap u8c ++ [c].flatMap u8c)) (hg : w.grownBy w' rv.ownBlock) (hb : ∀ k, rv.ownBlock = some k → b ≤ k) :
  Hz W ⟨s.out, s.nm, s.p, s.r ++ [c], true, true⟩ L pv v' b v1 w' := by
 have hl := h.le
 have hbel : Below b w w' := (Fr.of_grown hg).below hl.2 (fun k hk => hb k hk.symm)
 rcases h.cur with ⟨h1, _⟩ | ⟨h1, h2, h3⟩
 ·rw [h0] at h1; cases h1
 ·have hf := FrT.grown h3 hg
  exact ⟨h.bel.trans (hbel.mono (by omega)), row_frT h.out hf (by decide), h.tri, fun x hx => (h.low x hx).below hbel, ⟨hl.1, Nat.le_trans hl.2 hbel.size⟩, .inr ⟨rfl, h2.kept (Fr.of_grown hg) (fun k hk _ e => by have := hb k e.symm; omega), by rw [List.length_append, List.flatMap_append]; exact hr⟩⟩
/-- One more parameter. -/
theorem Hz.appP {v' : Value} {c : UInt8} (h : Hz W s L pv rv b v1 w) (h0 : s.res = false) (hr : w'.ownsRow b 5 1 v' (s.p.length + [c].length) (s.p.flatMap u8c ++ [c].flatMap u8c)) (hg : w.grownBy w' pv.ownBlock) (hb : ∀ k, pv.ownBlock = some k → b ≤ k) :
  Hz W ⟨s.out, s.nm, s.p ++ [c], s.r, true, false⟩ L v' rv b v1 w' := by
 have hl := h.le
 have hbel : Below b w w' := (Fr.of_grown hg).below hl.2 (fun k hk => hb k hk.symm)
 rcases h.cur with ⟨h1, h2, h3, h4⟩ | ⟨h1, _⟩
 ·have hf := FrT.grown h4 hg
  exact ⟨h.bel.trans (hbel.mono (by omega)), row_frT h.out hf (by decide), h.tri, fun x hx => (h.low x hx).below hbel, ⟨hl.1, Nat.le_trans hl.2 hbel.size⟩, .inl ⟨rfl, h2, h3, by rw [List.length_append, List.flatMap_append]; exact hr⟩⟩
 ·rw [h0] at h1; cases h1
end
theorem Hz.curR {W w : World} {s : St} {L : List Hst} {pv rv v1 : Value} {b : Nat} (h : Hz W s L pv rv b v1 w) (h0 : s.res = true) : w.ownsRow b 5 1 rv s.r.length (s.r.flatMap u8c) := by
 rcases h.cur with ⟨h1, _⟩ | ⟨_, _, h3⟩
 ·rw [h0] at h1; cases h1
 ·exact h3
theorem Hz.curP {W w : World} {s : St} {L : List Hst} {pv rv v1 : Value} {b : Nat} (h : Hz W s L pv rv b v1 w) (h0 : s.res = false) : w.ownsRow b 5 1 pv s.p.length (s.p.flatMap u8c) := by
 rcases h.cur with ⟨_, _, _, h3⟩ | ⟨h1, _⟩
 ·exact h3
 ·rw [h0] at h1; cases h1
theorem Hz.one {W w : World} {s : St} {L : List Hst} {pv rv v1 : Value} {b : Nat} (h : Hz W s L pv rv b v1 w) {x : Hst} (hx : x = ⟨s.nm, ⟨pv, s.p, rv, s.r⟩⟩) : ∀ u ∈ x.cs, u.oneCell' = true := by
 obtain ⟨_, _, e1, _⟩ := h.curLow.1.form
 obtain ⟨_, _, e2, _⟩ := h.curLow.2.form
 have e1' : pv = _ := e1
 have e2' : rv = _ := e2
 subst hx
 intro u hu
 have : u = .string ⟨s.nm.toArray⟩ ∨ u = pv ∨ u = rv := by simpa [Hst.cs] using hu
 rcases this with rfl | rfl | rfl
 ·rfl
 ·rw [e1']; rfl
 ·rw [e2']; rfl
theorem und_hs : Tryz.prog.underlying 64 = some (.slice 69) := by kernel_rfl
theorem inf_h : (Tryz.prog.info? 69).map (fun i => (i.zero.map (·.cells.size), i.size, i.bytes)) = some (some 3, 3, 64) := by kernel_rfl
theorem siz_h : (Tryz.prog.info? 69).map (·.size) = some 3 := by kernel_rfl
theorem bs_h (x : Hst) (w : World) : (Instr.buildSlice 64 1 #[(0, .agg x.cs.toArray)]).run Tryz.prog w = .ok (.slice (some ⟨w.heap.size, 0, none⟩) 1 1) (w.alloc (.cells x.cs.toArray 69)) := by kernel_rfl
theorem enc_ascii (c : UInt8) (h : c.toNat < 128) : Utf8.encode (c.toNat : Int) = ⟨[c].toArray⟩ := by
 have h0 : ∀ n : Fin 128, Utf8.encode (n.1 : Int) = ⟨[UInt8.ofNat n.1].toArray⟩ := by decide +kernel
 have := h0 ⟨c.toNat, h⟩
 rw [this]
 simp
theorem alloc_size (W : World) (o : Obj) : (W.alloc o).heap.size = W.heap.size + 1 := by show (W.heap.push o).size = _; exact Array.size_push _
theorem row_cells {w : World} {base : Nat} {e : TypeId} {sz n : Nat} {v : Value} {xs : List Value} (h : w.ownsRow base e sz v n xs) : v.cells = [v].toArray ∧ v.oneCell' = true := by
 obtain ⟨s, c, rfl, _⟩ := row_form h
 exact ⟨rfl, rfl⟩
set_option maxRecDepth 100000 in
set_option maxHeartbeats 8000000 in
theorem hosts_any (W : World) : Calls Tryz.prog 20 #[] W fun e w' => ∃ v L, e = .returned v ∧ Sl w' 3 Hst.cs v L ∧ L.map Hst.tri = hostsT ∧ (∀ x ∈ L, FtOwn w' x.ft) ∧ Below W.heap.size W w' := by
 go_enter Tryz.func20, Tryz.ntmps20
 go_wp2_with fail
 go_loopw [1, 3, 4] (fun v1 v3 v4 wr => ∃ pos L pv rv b, pos ≤ 174 ∧ v3 = .pointer (some ⟨W.heap.size, if (sts pos).res = true then 2 else 1, none⟩) ∧ v4 = .bool (sts pos).named ∧ wr.heap[W.heap.size + 1]? = some (.stringIter ⟨hostsL.toArray⟩ pos) ∧ Lies wr W.heap.size 69 (Hst.cs ⟨(sts pos).nm, ⟨pv, [], rv, []⟩⟩).toArray ∧ Hz W (sts pos) L pv rv b v1 wr) (fun _ _ _ wr => 174 - wr.iterPos (W.heap.size + 1))
 case atStart =>
  refine ⟨0, [], _, _, _, Nat.zero_le _, rfl, rfl, ?_, ?_, Hz.start W ?_ ?_⟩
  ·have h := World.iter_heap (W.alloc (.cells #[.string ⟨#[]⟩, .slice none 0 0, .slice none 0 0] 69)) ⟨hostsL.toArray⟩ 0
   rw [alloc_size] at h
   exact h
  ·exact (Lies.new W _ _).below ((Below.refl _ _).alloc (Nat.le_refl _) _) (Lies.new W _ _).lt
  ·exact ((Below.refl _ _).alloc (Nat.le_refl _) _).alloc (by simp) _
  ·simp [World.iter]
 case round =>
  obtain ⟨pos, L, pv, rv, b, hpos, rfl, rfl, hit, hbox, hz⟩ := hrel
  have HIT := zh hit
  have HBX := zh hbox
  have HZ := zh hz
  clear hit hbox hz
  by_cases hlt : pos < 174
  ·obtain ⟨c, hc⟩ : ∃ c, hostsL[pos]? = some c := ⟨_, List.getElem?_eq_getElem hlt⟩
   have hlt' : pos + 1 ≤ 174 := hlt
   have hok := sts_ok ⟨pos, by omega⟩
   have hnx := sts_succ hc
   have hc2 := hosts_ok pos c hc
   replace hlt : pos < (⟨hostsL.toArray⟩ : ByteArray).size := hlt
   have hce : ((⟨hostsL.toArray⟩ : ByteArray)[pos]'hlt) = c := by
    have h := hc
    rw [List.getElem?_eq_getElem (show pos < hostsL.length from hlt)] at h
    exact Option.some.inj h
   have hc128 : ((⟨hostsL.toArray⟩ : ByteArray)[pos]'hlt).toNat < 128 := by rw [hce]; exact hc2.1
   dsimp only at hok
   generalize sts pos = s at *
   have HL : L.length ≤ 16 := by have := congrArg List.length HZ.out.tri; rw [List.length_map] at this; omega
   clear hc
   unfold St.step at hnx
   obtain ⟨n, hcn⟩ : ∃ n, c.toNat = n := ⟨_, rfl⟩
   by_cases k1 : c = 124
   ·obtain rfl : n = 124 := by rw [← hcn, k1]; rfl
    rw [if_pos k1] at hnx
    have HS := zh hnx
    clear hnx hc2
    obtain ⟨x, hx⟩ : ∃ x : Hst, x = ⟨s.nm, ⟨pv, s.p, rv, s.r⟩⟩ := ⟨_, rfl⟩
    have hone : ∀ u ∈ x.cs, u.oneCell' = true := HZ.out.one hx
    have HXX := zh hx
    have HC := zh (show Hst.cs ⟨s.nm, ⟨pv, [], rv, []⟩⟩ = x.cs from by rw [hx]; rfl)
    clear hx
    obtain ⟨q, hq⟩ : ∃ q, q = if s.res = true then 2 else 1 := ⟨_, rfl⟩
    rw [← hq]
    clear hq
    have HO := zh hok
    clear hok
    rw [HC.out] at HBX
    go_wp2_with (first | (refine wl_next HIT.out hlt hc128 _ rfl rfl rfl (fun w1 hi1 hf1 => ?_); have HI1 := zh hi1; have HX1 := zh (lies_fr HBX.out hf1 (fun e => by omega)); have HZ1 := zh (HZ.out.fr hf1 (fun k hk => .inr hk)); clear hi1 hf1; rw [hce, hcn]; (try simp only [Act.put, sA, sB, sC])) | (refine wpList_load_mid rfl 69 _ rfl W.heap.size 0 rfl x.cs _ (lies_range HX1.out) Tryz.underlying69 rfl siz_h ?_; (try simp only [Act.put, sA, sB, sC])) | (refine wl_bs1 (.agg x.cs.toArray) x.cs (bs_h x) _ rfl rfl rfl (fun w2 hb2 hl2 => ?_); have HZ2 := zh (HZ1.out.later hb2); have HX2 := zh (HX1.out.below hb2 HX1.out.lt); have HI2 := zh ((hb2.block _ (Array.getElem?_eq_some_iff.1 HI1.out).1).trans HI1.out); have HN2 := zh hl2; clear hb2 hl2; (try simp only [Act.put, sA, sB, sC])) | (refine wl_app (by_ := 64) _ _ rfl rfl und_hs inf_h (by decide) rfl HZ2.out.out Hst.len rfl (sl_one HN2.out) (fun y hy u hu => by obtain rfl := List.mem_singleton.1 hy; exact hone u hu) (by unfold maxLen; simp; omega) (by simp; omega) (by have := HZ2.out.le; omega) (fun v3 w3 hr3 hg3 hv3 => ?_); have hbk : ∀ k, u1.ownBlock = some k → W.heap.size + 2 ≤ k := fun k hk => (row_block HZ2.out.out hk).1; have HZ3 := zh (HZ2.out.add HXX.out hr3 hg3); have HX3 := zh (lies_fr HX2.out (Fr.of_grown hg3) (fun e => by have := hbk _ e.symm; omega)); have HI3 := zh ((hg3.block _ (Array.getElem?_eq_some_iff.1 HI2.out).1 (fun e => by have := hbk _ e.symm; omega)).trans HI2.out); clear hr3 hg3 hv3 hbk; (try simp only [Act.put, sA, sB, sC])) | (refine wl_put HX3.out (Hst.cs ⟨[], ⟨.slice none 0 0, [], .slice none 0 0, []⟩⟩) _ _ rfl rfl rfl rfl rfl siz_h (by simp [Hst.cs, Value.oneCell']) (fun w4 hl4 hf4 => ?_); have HZ4 := zh (HZ3.out.fr hf4 (fun k hk => .inl hk)); have HX4 := zh hl4; have HI4 := zh ((hf4.block _ (Array.getElem?_eq_some_iff.1 HI3.out).1 (fun e => by omega)).trans HI3.out); clear hl4 hf4; (try simp only [Act.put])))
    go_roundw
    case rel => exact ⟨pos + 1, L ++ [x], .slice none 0 0, .slice none 0 0, _, hlt', by rw [HS.out]; rfl, by rw [HS.out], HI4.out, by rw [HS.out]; exact HX4.out, by rw [HS.out]; exact HZ4.out⟩
    case measure => rw [iterPos_of HI4.out, iterPos_of HIT.out]; omega
   have n1 : ¬ n = 124 := fun e => k1 (UInt8.toNat_inj.1 (hcn.trans e))
   have g1 : ((n : Int) == 124) = false := by simp; omega
   rw [if_neg k1] at hnx
   obtain ⟨q, hq⟩ : ∃ q, q = if s.res = true then 2 else 1 := ⟨_, rfl⟩
   rw [← hq]
   have HQ := zh hq
   clear hq
   by_cases k2 : c = 32
   ·obtain rfl : n = 32 := by rw [← hcn, k2]; rfl
    rw [if_pos k2] at hnx
    have HS := zh hnx
    clear hnx hc2 hok
    go_wp2_with (first | (refine wl_next HIT.out hlt hc128 _ rfl rfl rfl (fun w1 hi1 hf1 => ?_); have HI1 := zh hi1; have HX1 := zh (lies_fr HBX.out hf1 (fun e => by omega)); have HZ1 := zh (HZ.out.fr hf1 (fun k hk => .inr hk)); have c0 : w1.cell? ⟨W.heap.size, 0, none⟩ = some (.string ⟨s.nm.toArray⟩) := HX1.out.cell 0; have c1 : w1.cell? ⟨W.heap.size, 1, none⟩ = some pv := HX1.out.cell 1; have c2 : w1.cell? ⟨W.heap.size, 2, none⟩ = some rv := HX1.out.cell 2; clear hi1 hf1; rw [hce, hcn]; (try simp only [Act.put, sA, sB, sC])))
    go_roundw
    case rel => exact ⟨pos + 1, L, pv, rv, _, hlt', by rw [HS.out]; exact congrArg (fun q => Value.pointer (some ⟨W.heap.size, q, none⟩)) HQ.out, by rw [HS.out], HI1.out, by rw [HS.out]; exact HX1.out, by rw [HS.out]; exact HZ1.out.named _ _⟩
    case measure => rw [iterPos_of HI1.out, iterPos_of HIT.out]; omega
   have n2 : ¬ n = 32 := fun e => k2 (UInt8.toNat_inj.1 (hcn.trans e))
   have g2 : ((n : Int) == 32) = false := by simp; omega
   rw [if_neg k2] at hnx
   by_cases k3 : s.named = false
   ·rw [if_pos k3] at hnx
    have HS := zh hnx
    have henc := enc_ascii c hc2.1
    rw [hcn] at henc
    have hnl := hok.2.2.2.2.2
    clear hnx hc2 hok
    rw [k3]
    go_wp2_with (first | (refine wl_next HIT.out hlt hc128 _ rfl rfl rfl (fun w1 hi1 hf1 => ?_); have HI1 := zh hi1; have HX1 := zh (lies_fr HBX.out hf1 (fun e => by omega)); have HZ1 := zh (HZ.out.fr hf1 (fun k hk => .inr hk)); have c0 : w1.cell? ⟨W.heap.size, 0, none⟩ = some (.string ⟨s.nm.toArray⟩) := HX1.out.cell 0; have c1 : w1.cell? ⟨W.heap.size, 1, none⟩ = some pv := HX1.out.cell 1; have c2 : w1.cell? ⟨W.heap.size, 2, none⟩ = some rv := HX1.out.cell 2; clear hi1 hf1; rw [hce, hcn]; (try simp only [Act.put, sA, sB, sC])) | (refine wl_fld (c0 := Hst.cs ⟨s.nm, ⟨pv, [], rv, []⟩⟩) HX1.out _ _ rfl rfl rfl rfl [.string (⟨s.nm.toArray⟩ ++ ⟨[c].toArray⟩)] (Hst.cs ⟨s.nm ++ [c], ⟨pv, [], rv, []⟩⟩) rfl (by kernel_rfl) (by intro u hu; obtain rfl := List.mem_singleton.1 hu; exact rfl) (by simp [Hst.cs]) (by rw [ByteArray.mk_append_mk]; rfl) (fun w2 hl2 hf2 => ?_); have HZ2 := zh (HZ1.out.fr hf2 (fun k hk => .inl hk)); have HX2 := zh hl2; have HI2 := zh ((hf2.block _ (Array.getElem?_eq_some_iff.1 HI1.out).1 (fun e => by omega)).trans HI1.out); clear hl2 hf2; (try simp only [Act.put])))
    go_roundw
    case rel => exact ⟨pos + 1, L, pv, rv, _, hlt', by rw [HS.out]; exact congrArg (fun q => Value.pointer (some ⟨W.heap.size, q, none⟩)) HQ.out, by rw [HS.out], HI2.out, by rw [HS.out]; exact HX2.out, by rw [HS.out]; exact HZ2.out.named _ _⟩
    case measure => rw [iterPos_of HI2.out, iterPos_of HIT.out]; omega
   replace k3 : s.named = true := by simpa using k3
   rw [if_neg (by rw [k3]; decide)] at hnx
   rw [k3]
   by_cases k4 : c = 62
   ·obtain rfl : n = 62 := by rw [← hcn, k4]; rfl
    rw [if_pos k4] at hnx
    have HS := zh hnx
    have hres := hc2.2 k4
    clear hnx hc2 hok
    go_wp2_with (first | (refine wl_next HIT.out hlt hc128 _ rfl rfl rfl (fun w1 hi1 hf1 => ?_); have HI1 := zh hi1; have HX1 := zh (lies_fr HBX.out hf1 (fun e => by omega)); have HZ1 := zh (HZ.out.fr hf1 (fun k hk => .inr hk)); have c0 : w1.cell? ⟨W.heap.size, 0, none⟩ = some (.string ⟨s.nm.toArray⟩) := HX1.out.cell 0; have c1 : w1.cell? ⟨W.heap.size, 1, none⟩ = some pv := HX1.out.cell 1; have c2 : w1.cell? ⟨W.heap.size, 2, none⟩ = some rv := HX1.out.cell 2; clear hi1 hf1; rw [hce, hcn]; (try simp only [Act.put, sA, sB, sC])))
    go_roundw
    case rel => exact ⟨pos + 1, L, pv, rv, _, hlt', by rw [HS.out]; rfl, by rw [HS.out], HI1.out, by rw [HS.out]; exact HX1.out, by rw [HS.out]; exact HZ1.out.turn hres⟩
    case measure => rw [iterPos_of HI1.out, iterPos_of HIT.out]; omega
   have n4 : ¬ n = 62 := fun e => k4 (UInt8.toNat_inj.1 (hcn.trans e))
   have g4 : ((n : Int) == 62) = false := by simp; omega
   rw [if_neg k4] at hnx
   have hpl := hok.2.1
   have hrl := hok.2.2.1
   clear hc2 hok
   by_cases hres : s.res = true
   ·rw [if_pos hres] at hnx
    obtain rfl : q = 2 := by rw [HQ.out, hres]; rfl
    by_cases k5 : c = 105
    ·obtain rfl : n = 105 := by rw [← hcn, k5]; rfl
     rw [if_pos k5] at hnx
     have HS := zh hnx
     clear hnx
     go_wp2_with (first | (refine wl_next HIT.out hlt hc128 _ rfl rfl rfl (fun w1 hi1 hf1 => ?_); have HI1 := zh hi1; have HX1 := zh (lies_fr HBX.out hf1 (fun e => by omega)); have HZ1 := zh (HZ.out.fr hf1 (fun k hk => .inr hk)); have c0 : w1.cell? ⟨W.heap.size, 0, none⟩ = some (.string ⟨s.nm.toArray⟩) := HX1.out.cell 0; have c1 : w1.cell? ⟨W.heap.size, 1, none⟩ = some pv := HX1.out.cell 1; have c2 : w1.cell? ⟨W.heap.size, 2, none⟩ = some rv := HX1.out.cell 2; clear hi1 hf1; rw [hce, hcn]; (try simp only [Act.put, sA, sB, sC])) | (refine wl_bs1 (.int .u8 127) [.int .u8 127] (bs_b1 127) _ rfl rfl rfl (fun w2 hb2 hl2 => ?_); have HZ2 := zh (HZ1.out.later hb2); have HX2 := zh (HX1.out.below hb2 HX1.out.lt); have HI2 := zh ((hb2.block _ (Array.getElem?_eq_some_iff.1 HI1.out).1).trans HI1.out); have HN2 := zh (sl_one (en := u8c) (sz := 1) (x := (127 : UInt8)) (by rw [show u8c (127 : UInt8) = [.int .u8 127] from rfl]; exact hl2)); clear hb2 hl2; (try simp only [Act.put, sA, sB, sC])) | (refine wl_app (by_ := 1) _ _ rfl rfl und_u8s inf_u8 (by decide) rfl (HZ2.out.curR hres) (fun _ => rfl) rfl HN2.out (fun y hy u hu => by obtain rfl := List.mem_singleton.1 hu; rfl) (by unfold maxLen; simp; omega) (by simp; omega) (by have := HZ2.out.le; omega) (fun v3 w3 hr3 hg3 hv3 => ?_); have hbk : ∀ k, rv.ownBlock = some k → b ≤ k := fun k hk => (row_block (HZ2.out.curR hres) hk).1; have hbl := HZ2.out.le.1; have HV3 := zh (row_cells hr3); have HZ3 := zh (HZ2.out.appR hres hr3 hg3 hbk); have HX3 := zh (lies_fr HX2.out (Fr.of_grown hg3) (fun e => by have := hbk _ e.symm; omega)); have HI3 := zh ((hg3.block _ (Array.getElem?_eq_some_iff.1 HI2.out).1 (fun e => by have := hbk _ e.symm; omega)).trans HI2.out); clear hr3 hg3 hv3 hbk hbl; (try simp only [Act.put, sA, sB, sC])) | (refine wl_fld (c0 := Hst.cs ⟨s.nm, ⟨pv, [], rv, []⟩⟩) HX3.out _ _ rfl rfl rfl rfl [v3] (Hst.cs ⟨s.nm, ⟨pv, [], v3, []⟩⟩) HV3.out.1 (by kernel_rfl) (by intro u hu; obtain rfl := List.mem_singleton.1 hu; exact HV3.out.2) (by simp [Hst.cs]) rfl (fun w4 hl4 hf4 => ?_); have HZ4 := zh (HZ3.out.fr hf4 (fun k hk => .inl hk)); have HX4 := zh hl4; have HI4 := zh ((hf4.block _ (Array.getElem?_eq_some_iff.1 HI3.out).1 (fun e => by omega)).trans HI3.out); clear hl4 hf4; (try simp only [Act.put])))
     go_roundw
     case rel => exact ⟨pos + 1, L, pv, v3, _, hlt', by rw [HS.out]; rfl, by rw [HS.out], HI4.out, by rw [HS.out]; exact HX4.out, by rw [HS.out]; exact HZ4.out⟩
     case measure => rw [iterPos_of HI4.out, iterPos_of HIT.out]; omega
    ·have n5 : ¬ n = 105 := fun e => k5 (UInt8.toNat_inj.1 (hcn.trans e))
     have g5 : ((n : Int) == 105) = false := by simp; omega
     rw [if_neg k5] at hnx
     have HS := zh hnx
     clear hnx
     go_wp2_with (first | (refine wl_next HIT.out hlt hc128 _ rfl rfl rfl (fun w1 hi1 hf1 => ?_); have HI1 := zh hi1; have HX1 := zh (lies_fr HBX.out hf1 (fun e => by omega)); have HZ1 := zh (HZ.out.fr hf1 (fun k hk => .inr hk)); have c0 : w1.cell? ⟨W.heap.size, 0, none⟩ = some (.string ⟨s.nm.toArray⟩) := HX1.out.cell 0; have c1 : w1.cell? ⟨W.heap.size, 1, none⟩ = some pv := HX1.out.cell 1; have c2 : w1.cell? ⟨W.heap.size, 2, none⟩ = some rv := HX1.out.cell 2; clear hi1 hf1; rw [hce, hcn]; (try simp only [Act.put, sA, sB, sC])) | (refine wl_bs1 (.int .u8 126) [.int .u8 126] (bs_b1 126) _ rfl rfl rfl (fun w2 hb2 hl2 => ?_); have HZ2 := zh (HZ1.out.later hb2); have HX2 := zh (HX1.out.below hb2 HX1.out.lt); have HI2 := zh ((hb2.block _ (Array.getElem?_eq_some_iff.1 HI1.out).1).trans HI1.out); have HN2 := zh (sl_one (en := u8c) (sz := 1) (x := (126 : UInt8)) (by rw [show u8c (126 : UInt8) = [.int .u8 126] from rfl]; exact hl2)); clear hb2 hl2; (try simp only [Act.put, sA, sB, sC])) | (refine wl_app (by_ := 1) _ _ rfl rfl und_u8s inf_u8 (by decide) rfl (HZ2.out.curR hres) (fun _ => rfl) rfl HN2.out (fun y hy u hu => by obtain rfl := List.mem_singleton.1 hu; rfl) (by unfold maxLen; simp; omega) (by simp; omega) (by have := HZ2.out.le; omega) (fun v3 w3 hr3 hg3 hv3 => ?_); have hbk : ∀ k, rv.ownBlock = some k → b ≤ k := fun k hk => (row_block (HZ2.out.curR hres) hk).1; have hbl := HZ2.out.le.1; have HV3 := zh (row_cells hr3); have HZ3 := zh (HZ2.out.appR hres hr3 hg3 hbk); have HX3 := zh (lies_fr HX2.out (Fr.of_grown hg3) (fun e => by have := hbk _ e.symm; omega)); have HI3 := zh ((hg3.block _ (Array.getElem?_eq_some_iff.1 HI2.out).1 (fun e => by have := hbk _ e.symm; omega)).trans HI2.out); clear hr3 hg3 hv3 hbk hbl; (try simp only [Act.put, sA, sB, sC])) | (refine wl_fld (c0 := Hst.cs ⟨s.nm, ⟨pv, [], rv, []⟩⟩) HX3.out _ _ rfl rfl rfl rfl [v3] (Hst.cs ⟨s.nm, ⟨pv, [], v3, []⟩⟩) HV3.out.1 (by kernel_rfl) (by intro u hu; obtain rfl := List.mem_singleton.1 hu; exact HV3.out.2) (by simp [Hst.cs]) rfl (fun w4 hl4 hf4 => ?_); have HZ4 := zh (HZ3.out.fr hf4 (fun k hk => .inl hk)); have HX4 := zh hl4; have HI4 := zh ((hf4.block _ (Array.getElem?_eq_some_iff.1 HI3.out).1 (fun e => by omega)).trans HI3.out); clear hl4 hf4; (try simp only [Act.put])))
     go_roundw
     case rel => exact ⟨pos + 1, L, pv, v3, _, hlt', by rw [HS.out]; rfl, by rw [HS.out], HI4.out, by rw [HS.out]; exact HX4.out, by rw [HS.out]; exact HZ4.out⟩
     case measure => rw [iterPos_of HI4.out, iterPos_of HIT.out]; omega
   ·rw [if_neg hres] at hnx
    replace hres : s.res = false := by simpa using hres
    obtain rfl : q = 1 := by rw [HQ.out, hres]; rfl
    by_cases k5 : c = 105
    ·obtain rfl : n = 105 := by rw [← hcn, k5]; rfl
     rw [if_pos k5] at hnx
     have HS := zh hnx
     clear hnx
     go_wp2_with (first | (refine wl_next HIT.out hlt hc128 _ rfl rfl rfl (fun w1 hi1 hf1 => ?_); have HI1 := zh hi1; have HX1 := zh (lies_fr HBX.out hf1 (fun e => by omega)); have HZ1 := zh (HZ.out.fr hf1 (fun k hk => .inr hk)); have c0 : w1.cell? ⟨W.heap.size, 0, none⟩ = some (.string ⟨s.nm.toArray⟩) := HX1.out.cell 0; have c1 : w1.cell? ⟨W.heap.size, 1, none⟩ = some pv := HX1.out.cell 1; have c2 : w1.cell? ⟨W.heap.size, 2, none⟩ = some rv := HX1.out.cell 2; clear hi1 hf1; rw [hce, hcn]; (try simp only [Act.put, sA, sB, sC])) | (refine wl_bs1 (.int .u8 127) [.int .u8 127] (bs_b1 127) _ rfl rfl rfl (fun w2 hb2 hl2 => ?_); have HZ2 := zh (HZ1.out.later hb2); have HX2 := zh (HX1.out.below hb2 HX1.out.lt); have HI2 := zh ((hb2.block _ (Array.getElem?_eq_some_iff.1 HI1.out).1).trans HI1.out); have HN2 := zh (sl_one (en := u8c) (sz := 1) (x := (127 : UInt8)) (by rw [show u8c (127 : UInt8) = [.int .u8 127] from rfl]; exact hl2)); clear hb2 hl2; (try simp only [Act.put, sA, sB, sC])) | (refine wl_app (by_ := 1) _ _ rfl rfl und_u8s inf_u8 (by decide) rfl (HZ2.out.curP hres) (fun _ => rfl) rfl HN2.out (fun y hy u hu => by obtain rfl := List.mem_singleton.1 hu; rfl) (by unfold maxLen; simp; omega) (by simp; omega) (by have := HZ2.out.le; omega) (fun v3 w3 hr3 hg3 hv3 => ?_); have hbk : ∀ k, pv.ownBlock = some k → b ≤ k := fun k hk => (row_block (HZ2.out.curP hres) hk).1; have hbl := HZ2.out.le.1; have HV3 := zh (row_cells hr3); have HZ3 := zh (HZ2.out.appP hres hr3 hg3 hbk); have HX3 := zh (lies_fr HX2.out (Fr.of_grown hg3) (fun e => by have := hbk _ e.symm; omega)); have HI3 := zh ((hg3.block _ (Array.getElem?_eq_some_iff.1 HI2.out).1 (fun e => by have := hbk _ e.symm; omega)).trans HI2.out); clear hr3 hg3 hv3 hbk hbl; (try simp only [Act.put, sA, sB, sC])) | (refine wl_fld (c0 := Hst.cs ⟨s.nm, ⟨pv, [], rv, []⟩⟩) HX3.out _ _ rfl rfl rfl rfl [v3] (Hst.cs ⟨s.nm, ⟨v3, [], rv, []⟩⟩) HV3.out.1 (by kernel_rfl) (by intro u hu; obtain rfl := List.mem_singleton.1 hu; exact HV3.out.2) (by simp [Hst.cs]) rfl (fun w4 hl4 hf4 => ?_); have HZ4 := zh (HZ3.out.fr hf4 (fun k hk => .inl hk)); have HX4 := zh hl4; have HI4 := zh ((hf4.block _ (Array.getElem?_eq_some_iff.1 HI3.out).1 (fun e => by omega)).trans HI3.out); clear hl4 hf4; (try simp only [Act.put])))
     go_roundw
     case rel => exact ⟨pos + 1, L, v3, rv, _, hlt', by rw [HS.out]; rfl, by rw [HS.out], HI4.out, by rw [HS.out]; exact HX4.out, by rw [HS.out]; exact HZ4.out⟩
     case measure => rw [iterPos_of HI4.out, iterPos_of HIT.out]; omega
    ·have n5 : ¬ n = 105 := fun e => k5 (UInt8.toNat_inj.1 (hcn.trans e))
     have g5 : ((n : Int) == 105) = false := by simp; omega
     rw [if_neg k5] at hnx
     have HS := zh hnx
     clear hnx
     go_wp2_with (first | (refine wl_next HIT.out hlt hc128 _ rfl rfl rfl (fun w1 hi1 hf1 => ?_); have HI1 := zh hi1; have HX1 := zh (lies_fr HBX.out hf1 (fun e => by omega)); have HZ1 := zh (HZ.out.fr hf1 (fun k hk => .inr hk)); have c0 : w1.cell? ⟨W.heap.size, 0, none⟩ = some (.string ⟨s.nm.toArray⟩) := HX1.out.cell 0; have c1 : w1.cell? ⟨W.heap.size, 1, none⟩ = some pv := HX1.out.cell 1; have c2 : w1.cell? ⟨W.heap.size, 2, none⟩ = some rv := HX1.out.cell 2; clear hi1 hf1; rw [hce, hcn]; (try simp only [Act.put, sA, sB, sC])) | (refine wl_bs1 (.int .u8 126) [.int .u8 126] (bs_b1 126) _ rfl rfl rfl (fun w2 hb2 hl2 => ?_); have HZ2 := zh (HZ1.out.later hb2); have HX2 := zh (HX1.out.below hb2 HX1.out.lt); have HI2 := zh ((hb2.block _ (Array.getElem?_eq_some_iff.1 HI1.out).1).trans HI1.out); have HN2 := zh (sl_one (en := u8c) (sz := 1) (x := (126 : UInt8)) (by rw [show u8c (126 : UInt8) = [.int .u8 126] from rfl]; exact hl2)); clear hb2 hl2; (try simp only [Act.put, sA, sB, sC])) | (refine wl_app (by_ := 1) _ _ rfl rfl und_u8s inf_u8 (by decide) rfl (HZ2.out.curP hres) (fun _ => rfl) rfl HN2.out (fun y hy u hu => by obtain rfl := List.mem_singleton.1 hu; rfl) (by unfold maxLen; simp; omega) (by simp; omega) (by have := HZ2.out.le; omega) (fun v3 w3 hr3 hg3 hv3 => ?_); have hbk : ∀ k, pv.ownBlock = some k → b ≤ k := fun k hk => (row_block (HZ2.out.curP hres) hk).1; have hbl := HZ2.out.le.1; have HV3 := zh (row_cells hr3); have HZ3 := zh (HZ2.out.appP hres hr3 hg3 hbk); have HX3 := zh (lies_fr HX2.out (Fr.of_grown hg3) (fun e => by have := hbk _ e.symm; omega)); have HI3 := zh ((hg3.block _ (Array.getElem?_eq_some_iff.1 HI2.out).1 (fun e => by have := hbk _ e.symm; omega)).trans HI2.out); clear hr3 hg3 hv3 hbk hbl; (try simp only [Act.put, sA, sB, sC])) | (refine wl_fld (c0 := Hst.cs ⟨s.nm, ⟨pv, [], rv, []⟩⟩) HX3.out _ _ rfl rfl rfl rfl [v3] (Hst.cs ⟨s.nm, ⟨v3, [], rv, []⟩⟩) HV3.out.1 (by kernel_rfl) (by intro u hu; obtain rfl := List.mem_singleton.1 hu; exact HV3.out.2) (by simp [Hst.cs]) rfl (fun w4 hl4 hf4 => ?_); have HZ4 := zh (HZ3.out.fr hf4 (fun k hk => .inl hk)); have HX4 := zh hl4; have HI4 := zh ((hf4.block _ (Array.getElem?_eq_some_iff.1 HI3.out).1 (fun e => by omega)).trans HI3.out); clear hl4 hf4; (try simp only [Act.put])))
     go_roundw
     case rel => exact ⟨pos + 1, L, v3, rv, _, hlt', by rw [HS.out]; rfl, by rw [HS.out], HI4.out, by rw [HS.out]; exact HX4.out, by rw [HS.out]; exact HZ4.out⟩
     case measure => rw [iterPos_of HI4.out, iterPos_of HIT.out]; omega
  ·obtain rfl : pos = 174 := by omega
   have hok := sts_ok ⟨174, by decide⟩
   replace hlt : ¬ 174 < (⟨hostsL.toArray⟩ : ByteArray).size := hlt
   have HL : L.length ≤ 16 := by have := congrArg List.length HZ.out.tri; rw [List.length_map] at this; have := hok.1; dsimp only at this; omega
   clear hok
   obtain ⟨x, hx⟩ : ∃ x : Hst, x = ⟨(sts 174).nm, ⟨pv, (sts 174).p, rv, (sts 174).r⟩⟩ := ⟨_, rfl⟩
   have hone : ∀ u ∈ x.cs, u.oneCell' = true := HZ.out.one hx
   have HXX := zh hx
   have HC := zh (show Hst.cs ⟨(sts 174).nm, ⟨pv, [], rv, []⟩⟩ = x.cs from by rw [hx]; rfl)
   clear hx
   rw [HC.out] at HBX
   obtain ⟨q, hq⟩ : ∃ q, q = if (sts 174).res = true then 2 else 1 := ⟨_, rfl⟩
   rw [← hq]
   clear hq
   obtain ⟨nd, hnd⟩ : ∃ nd, nd = (sts 174).named := ⟨_, rfl⟩
   rw [← hnd]
   clear hnd
   have HI1 := HIT
   have HX1 := HBX
   have HZ1 := HZ
   go_wp2_with (first | (refine wl_next_end HIT.out hlt _ rfl rfl rfl ?_; (try simp only [Act.put, sA, sB, sC])) | (refine wpList_load_mid rfl 69 _ rfl W.heap.size 0 rfl x.cs _ (lies_range HBX.out) Tryz.underlying69 rfl siz_h ?_; (try simp only [Act.put, sA, sB, sC])) | (refine wl_bs1 (.agg x.cs.toArray) x.cs (bs_h x) _ rfl rfl rfl (fun w2 hb2 hl2 => ?_); have HZ2 := zh (HZ1.out.later hb2); have HX2 := zh (HX1.out.below hb2 HX1.out.lt); have HI2 := zh ((hb2.block _ (Array.getElem?_eq_some_iff.1 HI1.out).1).trans HI1.out); have HN2 := zh hl2; clear hb2 hl2; (try simp only [Act.put, sA, sB, sC])) | (refine wl_app (by_ := 64) _ _ rfl rfl und_hs inf_h (by decide) rfl HZ2.out.out Hst.len rfl (sl_one HN2.out) (fun y hy u hu => by obtain rfl := List.mem_singleton.1 hy; exact hone u hu) (by unfold maxLen; simp; omega) (by simp; omega) (by have := HZ2.out.le; omega) (fun v3 w3 hr3 hg3 hv3 => ?_); have hbk : ∀ k, u1.ownBlock = some k → W.heap.size + 2 ≤ k := fun k hk => (row_block HZ2.out.out hk).1; have HZ3 := zh (HZ2.out.add HXX.out hr3 hg3); have HX3 := zh (lies_fr HX2.out (Fr.of_grown hg3) (fun e => by have := hbk _ e.symm; omega)); have HI3 := zh ((hg3.block _ (Array.getElem?_eq_some_iff.1 HI2.out).1 (fun e => by have := hbk _ e.symm; omega)).trans HI2.out); clear hr3 hg3 hv3 hbk; (try simp only [Act.put, sA, sB, sC])))
   go_ret
   exact ⟨_, L ++ [x], rfl, own_sl Hst.len HZ3.out.out, HZ3.out.tri, fun y hy => (HZ3.out.low y hy).own, HZ3.out.bel⟩
end Go.Proofs.YtmgjcaikldeioaaGreat.Ru
/- What is offered by a name (rule): rule.Find. -/
namespace Go.Proofs.YtmgjcaikldeioaaGreat.Ru
open Go Go.RowKit Go.Lib Kt Fm Gr Ty Va

theorem str_eq (l : List UInt8) (b : ByteArray) : (l == b.toList) = decide (l = nmL b) := by
 rw [ByteArray.toList_eq, Bool.eq_iff_iff, beq_iff_eq, decide_eq_true_iff]
 rfl
theorem ft_one {w : World} {x : Hst} (h : FtOwn w x.ft) : ∀ u ∈ x.cs, u.oneCell' = true := by
 obtain ⟨_, _, e1, _⟩ := h.1.form
 obtain ⟨_, _, e2, _⟩ := h.2.form
 intro u hu
 have : u = .string ⟨x.nm.toArray⟩ ∨ u = x.ft.pv ∨ u = x.ft.rv := by simpa [Hst.cs] using hu
 rcases this with rfl | rfl | rfl
 ·rfl
 ·rw [e1]; rfl
 ·rw [e2]; rfl
/-- The number of what is offered by a name. -/
def hfind (nm : List UInt8) : Option Nat := hostsT.findIdx? (fun t => t.1 == nm)
theorem hostsT_len : hostsT.length = 16 := by decide +kernel
theorem hfind_some {nm : List UInt8} {L : List Hst} (hL : L.map Hst.tri = hostsT) {k : Nat} {x : Hst} (hx : L[k]? = some x) (he : x.nm = nm) (hn : ∀ j y, j < k → L[j]? = some y → y.nm ≠ nm) : hfind nm = some k := by
 unfold hfind
 rw [← hL, List.findIdx?_map]
 rw [List.findIdx?_eq_some_iff_getElem]
 have hk := (List.getElem?_eq_some_iff.1 hx)
 refine ⟨hk.1, ?_, fun j hj => ?_⟩
 ·rw [hk.2]; simpa [Hst.tri] using he
 ·have hj' : j < L.length := by have := hk.1; omega
  have := hn j _ hj (List.getElem?_eq_getElem hj')
  simpa [Hst.tri] using this
theorem hfind_none {nm : List UInt8} {L : List Hst} (hL : L.map Hst.tri = hostsT) (hn : ∀ (j : Nat) (y : Hst), j < 16 → L[j]? = some y → y.nm ≠ nm) : hfind nm = none := by
 unfold hfind
 have hlen : L.length = 16 := by rw [← List.length_map (f := Hst.tri), hL, hostsT_len]
 rw [← hL, List.findIdx?_map, List.findIdx?_eq_none_iff]
 intro x hx
 obtain ⟨j, hj, rfl⟩ := List.getElem_of_mem hx
 have := hn j _ (by omega) (List.getElem?_eq_getElem hj)
 simpa [Hst.tri] using this
theorem hfind_lt {nm : List UInt8} {k : Nat} (h : hfind nm = some k) : k < 16 := by
 unfold hfind at h
 rw [List.findIdx?_eq_some_iff_getElem] at h
 obtain ⟨h1, _⟩ := h
 rw [hostsT_len] at h1
 exact h1
set_option maxRecDepth 100000 in
set_option maxHeartbeats 8000000 in
theorem find_any (b : ByteArray) (W : World) : Calls Tryz.prog 23 #[.string b] W fun e w' => e = .returned (.tuple #[.int .i64 ((hfind (nmL b)).getD 0 : Nat), .bool (hfind (nmL b)).isSome]) ∧ Below W.heap.size W w' := by
 go_enter Tryz.func23, Tryz.ntmps23
 go_wp2_with fail
 refine (hosts_any W).mono ?_
 rintro en w1 ⟨v, L, rfl, hs, ht, ho, hb⟩
 have hlen : L.length = 16 := by rw [← List.length_map (f := Hst.tri), ht, hostsT_len]
 obtain ⟨s, c, rfl, hf⟩ := hs.form
 obtain ⟨g, off, rfl, _⟩ := hf (by intro e; rw [e] at hlen; cases hlen)
 have HS := zh hs
 have HT := zh ht
 have HO := zh ho
 have HB := zh hb
 clear hs ht ho hb hf
 rw [hlen]
 go_wp2_with fail
 go_loopw [8] (fun i wr => ∃ k : Nat, k ≤ 16 ∧ i = .int .i64 k ∧ Below w1.heap.size w1 wr ∧ ∀ j y, j < k → L[j]? = some y → y.nm ≠ nmL b) (fun i _ => 16 - (RowKit.intOf i).toNat)
 case atStart => exact ⟨0, Nat.zero_le _, rfl, Below.refl _ _, fun j _ h => absurd h (by omega)⟩
 case round =>
  obtain ⟨k, hk, rfl, hw, hn⟩ := hrel
  have HW := zh hw
  have HN := zh hn
  clear hw hn
  by_cases hlt : k < 16
  ·obtain ⟨x, hx⟩ : ∃ x, L[k]? = some x := ⟨_, List.getElem?_eq_getElem (by omega)⟩
   have hone : ∀ u ∈ x.cs, u.oneCell' = true := ft_one (HO.out x (List.mem_of_getElem? hx))
   have HXX := zh hx
   clear hx
   have hse := str_eq x.nm b
   by_cases he : x.nm = nmL b
   ·rw [decide_eq_true he] at hse
    have HF := zh (hfind_some HT.out HXX.out he HN.out)
    clear he
    go_wp2_with (first | (refine wpList_load_mid rfl 69 _ rfl g (off + k * 3) rfl x.cs _ (Gr.sl_range (HS.out.later HW.out) HXX.out) Tryz.underlying69 rfl siz_h ?_; (try simp only [Act.put, sA, sB, sC])) | (refine wl_put (Lies.new _ _ _) x.cs _ _ rfl rfl rfl rfl rfl siz_h (by have := hone; simpa using this) (fun w3 hlw3 hfw3 => ?_); have hbw3 : Below wr.heap.size wr w3 := below_put ((Below.refl wr.heap.size wr).alloc (Nat.le_refl _) _) hfw3 (Nat.le_refl _); have HW3 := zh (bt HW.out hbw3); have HX3 := zh hlw3; obtain ⟨Bx, hBw3⟩ : ∃ Bx, Bx = wr.heap.size := ⟨_, rfl⟩; rw [← hBw3] at HX3 ⊢; have x0 : w3.cell? ⟨Bx, 0, none⟩ = some (.string ⟨x.nm.toArray⟩) := HX3.out.cell 0; clear hBw3 hlw3 hfw3 hbw3 ; try simp only [Act.put]))
    go_ret2
    exact ⟨by rw [HF.out]; rfl, HB.out.trans (HW3.out.mono HB.out.size)⟩
   ·rw [decide_eq_false he] at hse
    have HE := zh he
    clear he
    go_wp2_with (first | (refine wpList_load_mid rfl 69 _ rfl g (off + k * 3) rfl x.cs _ (Gr.sl_range (HS.out.later HW.out) HXX.out) Tryz.underlying69 rfl siz_h ?_; (try simp only [Act.put, sA, sB, sC])) | (refine wl_put (Lies.new _ _ _) x.cs _ _ rfl rfl rfl rfl rfl siz_h (by have := hone; simpa using this) (fun w3 hlw3 hfw3 => ?_); have hbw3 : Below wr.heap.size wr w3 := below_put ((Below.refl wr.heap.size wr).alloc (Nat.le_refl _) _) hfw3 (Nat.le_refl _); have HW3 := zh (bt HW.out hbw3); have HX3 := zh hlw3; obtain ⟨Bx, hBw3⟩ : ∃ Bx, Bx = wr.heap.size := ⟨_, rfl⟩; rw [← hBw3] at HX3 ⊢; have x0 : w3.cell? ⟨Bx, 0, none⟩ = some (.string ⟨x.nm.toArray⟩) := HX3.out.cell 0; clear hBw3 hlw3 hfw3 hbw3 ; try simp only [Act.put]))
    go_roundw
    case rel => exact ⟨k + 1, hlt, by go_num, HW3.out, fun j y hj hy => by
     rcases Nat.lt_succ_iff_lt_or_eq.1 hj with h | rfl
     ·exact HN.out j y h hy
     ·rw [HXX.out] at hy; exact Option.some.inj hy ▸ HE.out⟩
    case measure => simp [RowKit.intOf]; omega
  ·obtain rfl : k = 16 := by omega
   have HF := zh (hfind_none HT.out HN.out)
   go_wp2_with fail
   go_ret2
   exact ⟨by rw [HF.out]; rfl, HB.out.trans (HW.out.mono HB.out.size)⟩
end Go.Proofs.YtmgjcaikldeioaaGreat.Ru
/- What is offered, as the document tells it: gabelleref12.Hosts, .Find. -/
namespace Go.Proofs.YtmgjcaikldeioaaGreat.Ru
open Go Go.RowKit Go.Lib Kt Fm Gr Ty Va

section
variable {P : Program} {ops : Array Oper} {rest : List Oper} {op : Oper} {a : Act} {w : World} {Q : Exit → Act → World → Prop}
theorem wl_bsN {t e : TypeId} {n d : Nat} {args : Array (Nat × Operand)} (_hd : op.dst = some d) (ho : op.op = .buildSlice t n args) (cs : List Value) (hgd : op.guard = none) (hb : ∀ w, (Instr.buildSlice t n (args.map fun p => (p.1, a.eval p.2))).run P w = .ok (.slice (some ⟨w.heap.size, 0, none⟩) n n) (w.alloc (.cells cs.toArray e)))
  (hK : ∀ w1, Below w.heap.size w w1 → Lies w1 w.heap.size e cs.toArray → wpList P ops Q rest (a.put op.dst (.slice (some ⟨w.heap.size, 0, none⟩) n n)) w1) : wpList P ops Q (op :: rest) a w := by
 refine wpList_plain hgd fun _ hK' => ?_
 have := hb w
 unfold Oper.wp execOp
 simp only [ho, this, Sem.run_bind, Sem.run_pure, Result.andThen_ok]
 exact hK' _ _ (hK _ ((Below.refl _ _).alloc (Nat.le_refl _) _) (Lies.new w _ _))
end
def refI : Option Nat → Int
 | some k => k
 | none => -1
/-- Lists of bytes in memory. -/
def Acc (w : World) (l : List (Nat × List UInt8)) : Prop := ∀ p ∈ l, Lies w p.1 5 (p.2.flatMap u8c).toArray
theorem Acc.later {w w' : World} {l : List (Nat × List UInt8)} (h : Acc w l) (hb : Below w.heap.size w w') : Acc w' l := fun p hp => (h p hp).below hb (h p hp).lt
theorem Acc.add {w w' : World} {l : List (Nat × List UInt8)} {g : Nat} (x : List UInt8) (h : Acc w l) (hb : Below w.heap.size w w') (hl : Lies w' g 5 (x.flatMap u8c).toArray) : Acc w' ((g, x) :: l) := by
 intro p hp
 rcases List.mem_cons.1 hp with rfl | hp
 ·exact hl
 ·exact h.later hb p hp
theorem Acc.sl {w : World} {l : List (Nat × List UInt8)} (h : Acc w l) {g : Nat} {x : List UInt8} (hm : (g, x) ∈ l) (hn : x.length ≤ 5) : Sl w 1 u8c (.slice (some ⟨g, 0, none⟩) x.length x.length) x ∧ (∀ y ∈ x, True) ∧ x.length ≤ Bd :=
 ⟨sl_many (fun _ => rfl) (h _ hm), fun _ _ => trivial, Nat.le_trans hn (by decide)⟩
end Go.Proofs.YtmgjcaikldeioaaGreat.Ru
/- rule.sizes: are a module's parts small enough? -/
namespace Go.Proofs.YtmgjcaikldeioaaGreat.Ru
open Go Go.RowKit Go.Lib Kt Fm Gr Ty Va

/-! ### plain -/
def opn (o : Int) (x : Ins) : Int := if x.op = 2 ∨ x.op = 3 ∨ x.op = 4 then o + 1 else if x.op = 11 then o - 1 else o
def opnS : Int → List Ins → Bool
 | _, [] => true
 | o, x :: r => (x.op != 14 || decide (x.ls.length ≤ 256)) && (decide (opn o x ≤ 64) && opnS (opn o x) r)
def locN (c : Cod) : Nat := (c.locs.map (·.n)).sum
def fpar (m : Mod) (i : Nat) : List UInt8 := match ftype m i with | some t => t.p | none => []
def codS (m : Mod) (h : Nat) (i : Nat) (c : Cod) : Bool := decide (min ((fpar m ((fk m 0).length + i)).length + locN c) 1048576 ≤ 256) && (decide (c.body.length ≤ 8192) && (decide (h ≤ 512) && opnS 0 c.body))
def codsP (m : Mod) (H : List Nat) (k : Nat) : Bool := (List.range k).all (fun i => match m.codes[i]? with | some c => codS m (H.getD i 0) i c | none => true)
def limS (l : Option Lim) (n : Nat) : Bool := match l with | some t => decide (t.mn ≤ n) | none => true
def listS (m : Mod) : Bool := decide (m.types.length ≤ 256) && (decide (m.imps.length ≤ 64) && (decide (m.funcs.length ≤ 512) && (decide ((gsOf m).length ≤ 128) && (decide (m.exps.length ≤ 128) && (decide (m.elems.length ≤ 64) && (decide (m.datas.length ≤ 64))))))) &&
 (m.types.all (fun t => decide (t.p.length ≤ 16)) && (m.imps.all (fun x => decide (max x.mod.size x.nm.size ≤ 64)) && (m.exps.all (fun x => decide (x.nm.size ≤ 64)) && (m.elems.all (fun x => decide (x.fs.length ≤ 1024)) && (limS (bsOf m)[0]? 1024 && limS (msOf m)[0]? 16)))))
def sizeS (m : Mod) (H : List Nat) : Bool := listS m && codsP m H m.codes.length

theorem all_take {α : Type} {P : α → Bool} {L : List α} {k : Nat} {x : α} (h : L[k]? = some x) : (L.take (k + 1)).all P = ((L.take k).all P && P x) := by
 rw [List.take_add_one, h, List.all_append]
 simp
theorem codsP_succ {m : Mod} {H : List Nat} {k : Nat} {c : Cod} (h : m.codes[k]? = some c) : codsP m H (k + 1) = (codsP m H k && codS m (H.getD k 0) k c) := by
 unfold codsP
 rw [List.range_succ, List.all_append]
 simp [h]
theorem bs_ok {w : World} {m : Mod} (hm : ModOk w m) : ∀ t ∈ bsOf m, t.mn < 4294967296 := by
 intro t ht
 rcases List.mem_append.1 ht with ht | ht
 ·obtain ⟨x, hx, rfl⟩ := List.mem_map.1 ht
  exact (hm.2.1.2.1 x (List.mem_filter.1 hx).1).2.1
 ·exact hm.2.2.2.1.2.1 t ht
theorem ms_ok {w : World} {m : Mod} (hm : ModOk w m) : ∀ t ∈ msOf m, t.mn < 4294967296 := by
 intro t ht
 rcases List.mem_append.1 ht with ht | ht
 ·obtain ⟨x, hx, rfl⟩ := List.mem_map.1 ht
  exact (hm.2.1.2.1 x (List.mem_filter.1 hx).1).2.1
 ·exact hm.2.2.2.2.1.2.1 t ht
theorem oneLimC (l : Option Lim) : ((limC l).toArray.all (·.oneCell')) = true := by cases l <;> simp [limC, nillim, Lim.cs, Value.oneCell']
theorem limC_len (l : Option Lim) : (#[.int .u32 0, .int .i64 0] : Array Value).size = (limC l).length := by cases l <;> rfl
theorem limC_siz (l : Option Lim) : (Tryz.prog.info? 84).map (·.size) = some (limC l).length := by cases l <;> exact sizeLim
theorem fpar_told {m : Mod} {i : Nat} {y : Ft} (h : FnTold m i y) : y.p.length = (fpar m i).length := by
 unfold FnTold at h
 unfold fpar
 cases hf : ftype m i with
 | none => rw [hf] at h; rw [(Prod.mk.inj h).1]
 | some t => rw [hf] at h; rw [(Prod.mk.inj h).1]
theorem fpar_le {w : World} {m : Mod} (hm : ModOk w m) (i : Nat) : (fpar m i).length ≤ 1048576 := by
 unfold fpar
 cases hf : ftype m i with
 | none => exact Nat.zero_le _
 | some t => exact (hm.1.2.1 t (ftype_mem hf)).1.2.2
theorem oneFtO {w : World} {x : Ft} (h : FtOwn w x) : (x.cs.toArray.all (·.oneCell')) = true := by
 have := oneFtl h
 simpa using this
theorem sumk {L : List Gr.Loc} {w : World} (h : ∀ y ∈ L, LocOk w y) : ∀ k, ((L.take k).map (·.n)).sum ≤ L.length * 4294967296 := by
 intro k
 have h1 : ∀ (l : List Gr.Loc), (∀ y ∈ l, y.n < 4294967296) → (l.map (·.n)).sum ≤ l.length * 4294967296 := by
  intro l
  induction l with
  | nil => intro _; simp
  | cons a r ih =>
   intro hl
   have h2 := ih (fun y hy => hl y (.tail _ hy))
   have h3 := hl a (.head _)
   simp only [List.map_cons, List.sum_cons, List.length_cons]
   omega
 refine Nat.le_trans (h1 _ (fun y hy => h y (List.mem_of_mem_take hy))) (Nat.mul_le_mul_right _ ?_)
 rw [List.length_take]
 exact Nat.min_le_right _ _
theorem sum_take {L : List Gr.Loc} {k : Nat} {x : Gr.Loc} (h : L[k]? = some x) : ((L.take (k + 1)).map (·.n)).sum = ((L.take k).map (·.n)).sum + x.n := by
 rw [List.take_add_one, h]
 simp
theorem opnS_drop {o : Int} {L : List Ins} {k : Nat} {x : Ins} (h : L[k]? = some x) : opnS o (L.drop k) = ((x.op != 14 || decide (x.ls.length ≤ 256)) && (decide (opn o x ≤ 64) && opnS (opn o x) (L.drop (k + 1)))) := by
 have hk := List.getElem?_eq_some_iff.1 h
 rw [List.drop_eq_getElem_cons hk.1, hk.2]
 rfl
theorem siz_bool : (Tryz.prog.info? 4).map (·.size) = some 1 := by kernel_rfl
set_option maxRecDepth 100000 in
set_option maxHeartbeats 16000000 in
theorem most_any {w : World} {ob : Nat} {b : Bool} (h : Lies w ob 4 #[.bool b]) (n k : Int) :
  Calls Tryz.prog 106 #[.int .i64 n, .int .i64 k, .pointer (some ⟨ob, 0, none⟩)] w fun e w' => e = .returned (.tuple #[]) ∧ Lies w' ob 4 #[.bool (b && decide (n ≤ k))] ∧ Fr w w' (fun j => j = ob) := by
 have HL := zh h
 have c0 : w.cell? ⟨ob, 0, none⟩ = some (.bool b) := h.cell 0
 clear h
 cases b with
 | false =>
  go_enter Tryz.func106, Tryz.ntmps106
  go_wp2_with (refine wl_fld (c0 := [.bool false]) HL.out _ _ rfl rfl rfl rfl [.bool false] [.bool false] rfl siz_bool (by intro u hu; obtain rfl := List.mem_singleton.1 hu; rfl) (by simp) rfl (fun w1 hl1 hf1 => ?_); have HL1 := zh hl1; have HF1 := zh hf1; clear hl1 hf1; (try simp only [Act.put]))
  go_end0
  exact ⟨rfl, HL1.out, HF1.out⟩
 | true =>
  by_cases hnk : n ≤ k
  ·have HD := zh (decide_eq_true hnk)
   go_enter Tryz.func106, Tryz.ntmps106
   go_wp2_with (refine wl_fld (c0 := [.bool true]) HL.out _ _ rfl rfl rfl rfl [.bool true] [.bool true] rfl siz_bool (by intro u hu; obtain rfl := List.mem_singleton.1 hu; rfl) (by simp) rfl (fun w1 hl1 hf1 => ?_); have HL1 := zh hl1; have HF1 := zh hf1; clear hl1 hf1; (try simp only [Act.put]))
   go_end0
   exact ⟨rfl, by rw [HD.out]; exact HL1.out, HF1.out⟩
  ·have HD := zh (decide_eq_false hnk)
   go_enter Tryz.func106, Tryz.ntmps106
   go_wp2_with (refine wl_fld (c0 := [.bool true]) HL.out _ _ rfl rfl rfl rfl [.bool false] [.bool false] rfl siz_bool (by intro u hu; obtain rfl := List.mem_singleton.1 hu; rfl) (by simp) rfl (fun w1 hl1 hf1 => ?_); have HL1 := zh hl1; have HF1 := zh hf1; clear hl1 hf1; (try simp only [Act.put]))
   go_end0
   exact ⟨rfl, by rw [HD.out]; exact HL1.out, HF1.out⟩
theorem most_nat {w : World} {ob : Nat} {b : Bool} (h : Lies w ob 4 #[.bool b]) {n k : Nat} {y z : Int} (hn : y = (n : Int)) (hk : z = (k : Int)) :
  Calls Tryz.prog 106 #[.int .i64 y, .int .i64 z, .pointer (some ⟨ob, 0, none⟩)] w fun e w' => e = .returned (.tuple #[]) ∧ Lies w' ob 4 #[.bool (b && decide (n ≤ k))] ∧ Fr w w' (fun j => j = ob) := by
 subst hn; subst hk
 exact (most_any h n k).mono fun e w' ⟨h1, h2, h3⟩ => ⟨h1, by rw [show decide (n ≤ k) = decide ((n : Int) ≤ (k : Int)) from decide_eq_decide.2 (by omega)]; exact h2, h3⟩
/-- What rule.sizes has in memory: the module, whether all is small enough. -/
structure Sz (W : World) (m : Mod) (Bm ob : Nat) (b : Bool) (w : World) : Prop where
 bel : Below W.heap.size W w
 md : Lies w Bm 33 m.cs.toArray
 ok : Lies w ob 4 #[.bool b]
 hb : W.heap.size ≤ ob
 ne : ¬ Bm = ob
theorem Sz.later {W w w' : World} {m : Mod} {Bm ob : Nat} {b : Bool} (h : Sz W m Bm ob b w) (hb : Below w.heap.size w w') : Sz W m Bm ob b w' := ⟨bt h.bel hb, h.md.below hb h.md.lt, h.ok.below hb h.ok.lt, h.hb, h.ne⟩
theorem Sz.most {W w w' : World} {m : Mod} {Bm ob : Nat} {b b' : Bool} (h : Sz W m Bm ob b w) (hl : Lies w' ob 4 #[.bool b']) (hf : Fr w w' (fun j => j = ob)) : Sz W m Bm ob b' w' :=
 ⟨h.bel.trans (hf.below h.bel.size (fun k hk => by rw [hk]; exact h.hb)), lies_fr h.md hf h.ne, hl, h.hb, h.ne⟩
theorem Sz.cast {W w : World} {m : Mod} {Bm ob : Nat} {b b' : Bool} (h : Sz W m Bm ob b w) (e : b = b') : Sz W m Bm ob b' w := e ▸ h
set_option maxRecDepth 100000 in
set_option maxHeartbeats 16000000 in
theorem sizes_any {W : World} {S0 : Nat} {m : Mod} {hv : Value} {H : List Nat} (hm : ModOk W m) (hsp : SpX W S0 m) (hh : Sl W 1 Va.ic hv H) (hl : H.length = m.codes.length) :
  Calls Tryz.prog 71 #[.agg m.cs.toArray, .pointer (some ⟨S0, 0, none⟩), hv] W fun e w' => e = .returned (.bool (sizeS m H)) ∧ Below W.heap.size W w' := by
 have HM := zh hm
 have HSP := zh hsp
 have HH := zh hh
 have HL := zh hl
 clear hm hsp hh hl
 obtain ⟨sT, cT, hT, hnT⟩ := HM.out.1.1.form
 have HVT := zh hT
 have HNT := zh hnT
 clear hT hnT
 obtain ⟨sI, cI, hI, hnI⟩ := HM.out.2.1.1.form
 have HVI := zh hI
 have HNI := zh hnI
 clear hI hnI
 obtain ⟨sF, cF, hF, hnF⟩ := HM.out.2.2.1.1.form
 have HVF := zh hF
 have HNF := zh hnF
 clear hF hnF
 obtain ⟨sX, cX, hX, hnX⟩ := HM.out.2.2.2.2.2.2.1.1.form
 have HVX := zh hX
 have HNX := zh hnX
 clear hX hnX
 obtain ⟨sE, cE, hE, hnE⟩ := HM.out.2.2.2.2.2.2.2.2.1.1.form
 have HVE := zh hE
 have HNE := zh hnE
 clear hE hnE
 obtain ⟨sC, cC, hC, hnC⟩ := HM.out.2.2.2.2.2.2.2.2.2.1.1.form
 have HVC := zh hC
 have HNC := zh hnC
 clear hC hnC
 obtain ⟨sD, cD, hD, hnD⟩ := HM.out.2.2.2.2.2.2.2.2.2.2.1.form
 have HVD := zh hD
 have HND := zh hnD
 clear hD hnD
 go_enter Tryz.func71, Tryz.ntmps71
 go_wp2_with (first | (refine wl_box m.cs _ rfl rfl rfl (fun w1 hb1 hl1 => ?_); have HB1 := zh hb1; have HL1 := zh hl1; obtain ⟨Bm, hBm⟩ : ∃ Bm, Bm = W.heap.size := ⟨_, rfl⟩; have HBM := zh hBm; rw [← hBm] at HL1 ⊢; clear hBm hb1 hl1; (try simp only [Act.put, sA, sB, sC])) | (refine wl_fld (c0 := [.bool false]) (Lies.new _ _ _) _ _ rfl rfl rfl rfl [.bool true] [.bool true] rfl siz_bool (by intro u hu; obtain rfl := List.mem_singleton.1 hu; rfl) (by simp) rfl (fun w2 hl2 hf2 => ?_); have hb2 : Below w1.heap.size w1 w2 := below_put ((Below.refl w1.heap.size w1).alloc (Nat.le_refl _) _) hf2 (Nat.le_refl _); obtain ⟨ob, hob⟩ : ∃ ob, ob = w1.heap.size := ⟨_, rfl⟩; rw [← hob] at hl2 ⊢; have HZ2 := zh (Sz.mk (bt HB1.out hb2) (HL1.out.below hb2 HL1.out.lt) hl2 (by rw [hob]; exact HB1.out.size) (fun e => by have := HL1.out.lt; omega)); have xT : w2.cell? ⟨Bm, 0, none⟩ = some (.slice sT m.types.length cT) := (HZ2.out.md.cell 0).trans (congrArg some HVT.out); clear hl2 hf2 hb2 hob; (try simp only [Act.put])))
 refine (most_nat HZ2.out.ok (n := m.types.length) (k := 256) rfl rfl).mono ?_
 rintro en w3 ⟨rfl, hl, hf⟩
 obtain ⟨b3, hb3⟩ : ∃ b, b = (true && decide (m.types.length ≤ 256)) := ⟨_, rfl⟩
 have HZ3 := zh ((HZ2.out.most hl hf).cast hb3.symm)
 have HB3 := zh hb3
 clear hl hf hb3
 have xI : w3.cell? ⟨Bm, 1, none⟩ = some (.slice sI m.imps.length cI) := (HZ3.out.md.cell 1).trans (congrArg some HVI.out)
 go_wp2_with fail
 refine (most_nat HZ3.out.ok (n := m.imps.length) (k := 64) rfl rfl).mono ?_
 rintro en w4 ⟨rfl, hl, hf⟩
 obtain ⟨b4, hb4⟩ : ∃ b, b = (b3 && decide (m.imps.length ≤ 64)) := ⟨_, rfl⟩
 have HZ4 := zh ((HZ3.out.most hl hf).cast hb4.symm)
 have HB4 := zh hb4
 clear hl hf hb4
 have xF : w4.cell? ⟨Bm, 2, none⟩ = some (.slice sF m.funcs.length cF) := (HZ4.out.md.cell 2).trans (congrArg some HVF.out)
 go_wp2_with fail
 refine (most_nat HZ4.out.ok (n := m.funcs.length) (k := 512) rfl rfl).mono ?_
 rintro en w5 ⟨rfl, hl, hf⟩
 obtain ⟨b5, hb5⟩ : ∃ b, b = (b4 && decide (m.funcs.length ≤ 512)) := ⟨_, rfl⟩
 have HZ5 := zh ((HZ4.out.most hl hf).cast hb5.symm)
 have HB5 := zh hb5
 clear hl hf hb5
 go_wp2_with fail
 refine (count3 (spx_later HSP.out HZ5.out.bel)).mono ?_
 rintro en w6 ⟨rfl, hb⟩
 have HZ6 := zh (HZ5.out.later hb)
 clear hb
 go_wp2_with fail
 refine (most_nat HZ6.out.ok (n := (gsOf m).length) (k := 128) rfl rfl).mono ?_
 rintro en w7 ⟨rfl, hl, hf⟩
 obtain ⟨b7, hb7⟩ : ∃ b, b = (b5 && decide ((gsOf m).length ≤ 128)) := ⟨_, rfl⟩
 have HZ7 := zh ((HZ6.out.most hl hf).cast hb7.symm)
 have HB7 := zh hb7
 clear hl hf hb7
 have xX : w7.cell? ⟨Bm, 6, none⟩ = some (.slice sX m.exps.length cX) := (HZ7.out.md.cell 6).trans (congrArg some HVX.out)
 go_wp2_with fail
 refine (most_nat HZ7.out.ok (n := m.exps.length) (k := 128) rfl rfl).mono ?_
 rintro en w8 ⟨rfl, hl, hf⟩
 obtain ⟨b8, hb8⟩ : ∃ b, b = (b7 && decide (m.exps.length ≤ 128)) := ⟨_, rfl⟩
 have HZ8 := zh ((HZ7.out.most hl hf).cast hb8.symm)
 have HB8 := zh hb8
 clear hl hf hb8
 have xE : w8.cell? ⟨Bm, 9, none⟩ = some (.slice sE m.elems.length cE) := (HZ8.out.md.cell 9).trans (congrArg some HVE.out)
 go_wp2_with fail
 refine (most_nat HZ8.out.ok (n := m.elems.length) (k := 64) rfl rfl).mono ?_
 rintro en w9 ⟨rfl, hl, hf⟩
 obtain ⟨b9, hb9⟩ : ∃ b, b = (b8 && decide (m.elems.length ≤ 64)) := ⟨_, rfl⟩
 have HZ9 := zh ((HZ8.out.most hl hf).cast hb9.symm)
 have HB9 := zh hb9
 clear hl hf hb9
 have xD : w9.cell? ⟨Bm, 11, none⟩ = some (.slice sD m.datas.length cD) := (HZ9.out.md.cell 11).trans (congrArg some HVD.out)
 go_wp2_with fail
 refine (most_nat HZ9.out.ok (n := m.datas.length) (k := 64) rfl rfl).mono ?_
 rintro en w10 ⟨rfl, hl, hf⟩
 obtain ⟨b10, hb10⟩ : ∃ b, b = (b9 && decide (m.datas.length ≤ 64)) := ⟨_, rfl⟩
 have HZ10 := zh ((HZ9.out.most hl hf).cast hb10.symm)
 have HB10 := zh hb10
 clear hl hf hb10
 have xT : w10.cell? ⟨Bm, 0, none⟩ = some (.slice sT m.types.length cT) := (HZ10.out.md.cell 0).trans (congrArg some HVT.out)
 go_upto_block 0 with fail
 go_cut [] from 69 to 78 (fun wx => ∃ b, b = (b10 && m.types.all (fun x => decide (x.p.length ≤ 16))) ∧ Sz W m Bm ob b wx)
 case first =>
  go_wp2_with fail
  go_loopw [69] (fun iv wr => ∃ k : Nat, k ≤ m.types.length ∧ iv = .int .i64 k ∧ ∃ b, b = (b10 && (m.types.take k).all (fun x => decide (x.p.length ≤ 16))) ∧ Sz W m Bm ob b wr) (fun iv _ => m.types.length - (RowKit.intOf iv).toNat)
  case atStart => exact ⟨0, Nat.zero_le _, rfl, b10, by simp, HZ10.out⟩
  case round =>
   obtain ⟨k, hk, rfl, bb, hbb, hz⟩ := hrel
   have HZr := zh hz
   have HBB := zh hbb
   clear hz hbb
   by_cases hlt : k < m.types.length
   ·obtain ⟨x, hx⟩ : ∃ x, m.types[k]? = some x := ⟨_, List.getElem?_eq_getElem hlt⟩
    have HXX := zh hx
    clear hx
    have hBnd : m.types.length ≤ 1048576 := HM.out.1.2.2
    obtain ⟨gL, oL, hg, _⟩ := HNT.out (by intro e; rw [e] at hlt; simp at hlt)
    subst hg
    have HSL := zh (show Sl W 2 Ft.cs (.slice (some ⟨gL, oL, none⟩) m.types.length cT) m.types from by rw [← HVT.out]; exact HM.out.1.1)
    have hok := HM.out.1.2.1 x (List.mem_of_getElem? HXX.out)
    obtain ⟨sp, cp, hvp, _⟩ := hok.1.1.form
    replace hok := hok.later HZr.out.bel
    have HVP := zh hvp
    clear hvp
    have HOK := zh hok
    clear hok
    go_wp2_with (first | (refine wpList_load_mid rfl 51 _ rfl gL (oL + k * 2) rfl x.cs _ (Gr.sl_range (HSL.out.later HZr.out.bel) HXX.out) Tryz.underlying51 rfl sizeFt ?_; (try simp only [Act.put, sA, sB, sC])) | (refine wl_put (Lies.new _ _ _) x.cs _ _ rfl rfl rfl rfl rfl sizeFt (oneFt HOK.out) (fun w20 hl20 hf20 => ?_); have hb20 : Below wr.heap.size wr w20 := below_put ((Below.refl wr.heap.size wr).alloc (Nat.le_refl _) _) hf20 (Nat.le_refl _); obtain ⟨Bx, hBx⟩ : ∃ Bx, Bx = wr.heap.size := ⟨_, rfl⟩; rw [← hBx] at hl20 ⊢; have HX20 := zh hl20; have HZ20 := zh (HZr.out.later hb20); have x0 : w20.cell? ⟨Bx, 0, none⟩ = some (.slice sp x.p.length cp) := (HX20.out.cell 0).trans (congrArg some HVP.out); clear hl20 hf20 hb20 hBx; (try simp only [Act.put])))
    refine (most_nat HZ20.out.ok (n := x.p.length) (k := 16) rfl rfl).mono ?_
    rintro en w21 ⟨rfl, hl, hf⟩
    obtain ⟨b21, hb21⟩ : ∃ b, b = (bb && decide (x.p.length ≤ 16)) := ⟨_, rfl⟩
    have HZ21 := zh ((HZ20.out.most hl hf).cast hb21.symm)
    have HB21 := zh hb21
    clear hl hf hb21
    go_wp2_with fail
    go_roundw
    case rel => exact ⟨k + 1, hlt, by go_num, _, by rw [HB21.out, HBB.out, all_take HXX.out, Bool.and_assoc], HZ21.out⟩
    case measure => simp [RowKit.intOf]; omega
   ·obtain rfl : k = m.types.length := by omega
    go_wp2_with fail
    go_meet
    exact ⟨_, by rw [HBB.out, List.take_length], HZr.out⟩
 case rest =>
  obtain ⟨b11, hb11, hz⟩ := hcut
  have HB11 := zh hb11
  have HZ11 := zh hz
  clear hz hb11
  obtain ⟨w11, hw11⟩ : ∃ w11, w11 = wc := ⟨_, rfl⟩
  rw [← hw11] at HZ11 ⊢
  clear hw11
  have xI : w11.cell? ⟨Bm, 1, none⟩ = some (.slice sI m.imps.length cI) := (HZ11.out.md.cell 1).trans (congrArg some HVI.out)
  go_upto_block 2 with fail
  go_cut [] from 82 to 95 (fun wx => ∃ b, b = (b11 && m.imps.all (fun x => decide (max x.mod.size x.nm.size ≤ 64))) ∧ Sz W m Bm ob b wx)
  case first =>
   go_wp2_with fail
   go_loopw [82] (fun iv wr => ∃ k : Nat, k ≤ m.imps.length ∧ iv = .int .i64 k ∧ ∃ b, b = (b11 && (m.imps.take k).all (fun x => decide (max x.mod.size x.nm.size ≤ 64))) ∧ Sz W m Bm ob b wr) (fun iv _ => m.imps.length - (RowKit.intOf iv).toNat)
   case atStart => exact ⟨0, Nat.zero_le _, rfl, b11, by simp, HZ11.out⟩
   case round =>
    obtain ⟨k, hk, rfl, bb, hbb, hz⟩ := hrel
    have HZr := zh hz
    have HBB := zh hbb
    clear hz hbb
    by_cases hlt : k < m.imps.length
    ·obtain ⟨x, hx⟩ : ∃ x, m.imps[k]? = some x := ⟨_, List.getElem?_eq_getElem hlt⟩
     have HXX := zh hx
     clear hx
     have hBnd : m.imps.length ≤ 1048576 := HM.out.2.1.2.2
     obtain ⟨gL, oL, hg, _⟩ := HNI.out (by intro e; rw [e] at hlt; simp at hlt)
     subst hg
     have HSL := zh (show Sl W 8 Imp.cs (.slice (some ⟨gL, oL, none⟩) m.imps.length cI) m.imps from by rw [← HVI.out]; exact HM.out.2.1.1)
     have hmx : (max (x.mod.size : Int) (x.nm.size : Int)) = ((max x.mod.size x.nm.size : Nat) : Int) := by omega
     go_wp2_with (first | (refine wpList_load_mid rfl 88 _ rfl gL (oL + k * 8) rfl x.cs _ (Gr.sl_range (HSL.out.later HZr.out.bel) HXX.out) Tryz.underlying88 rfl sizeImp ?_; (try simp only [Act.put, sA, sB, sC])) | (refine wl_put (Lies.new _ _ _) x.cs _ _ rfl rfl rfl rfl rfl sizeImp (oneImp x) (fun w20 hl20 hf20 => ?_); have hb20 : Below wr.heap.size wr w20 := below_put ((Below.refl wr.heap.size wr).alloc (Nat.le_refl _) _) hf20 (Nat.le_refl _); obtain ⟨Bx, hBx⟩ : ∃ Bx, Bx = wr.heap.size := ⟨_, rfl⟩; rw [← hBx] at hl20 ⊢; have HX20 := zh hl20; have HZ20 := zh (HZr.out.later hb20); have x0 : w20.cell? ⟨Bx, 0, none⟩ = some (.string x.mod) := HX20.out.cell 0; have x1 : w20.cell? ⟨Bx, 1, none⟩ = some (.string x.nm) := HX20.out.cell 1; clear hl20 hf20 hb20 hBx; (try simp only [Act.put])))
     (try rw [hmx])
     refine (most_nat HZ20.out.ok (n := max x.mod.size x.nm.size) (k := 64) rfl rfl).mono ?_
     rintro en w21 ⟨rfl, hl, hf⟩
     obtain ⟨b21, hb21⟩ : ∃ b, b = (bb && decide (max x.mod.size x.nm.size ≤ 64)) := ⟨_, rfl⟩
     have HZ21 := zh ((HZ20.out.most hl hf).cast hb21.symm)
     have HB21 := zh hb21
     clear hl hf hb21
     go_wp2_with fail
     go_roundw
     case rel => exact ⟨k + 1, hlt, by go_num, _, by rw [HB21.out, HBB.out, all_take HXX.out, Bool.and_assoc], HZ21.out⟩
     case measure => simp [RowKit.intOf]; omega
    ·obtain rfl : k = m.imps.length := by omega
     go_wp2_with fail
     go_meet
     exact ⟨_, by rw [HBB.out, List.take_length], HZr.out⟩
  case rest =>
   obtain ⟨b12, hb12, hz⟩ := hcut
   have HB12 := zh hb12
   have HZ12 := zh hz
   clear hz hb12
   obtain ⟨w12, hw12⟩ : ∃ w12, w12 = wc := ⟨_, rfl⟩
   rw [← hw12] at HZ12 ⊢
   clear hw12
   have xX : w12.cell? ⟨Bm, 6, none⟩ = some (.slice sX m.exps.length cX) := (HZ12.out.md.cell 6).trans (congrArg some HVX.out)
   go_upto_block 4 with fail
   go_cut [] from 99 to 108 (fun wx => ∃ b, b = (b12 && m.exps.all (fun x => decide (x.nm.size ≤ 64))) ∧ Sz W m Bm ob b wx)
   case first =>
    go_wp2_with fail
    go_loopw [99] (fun iv wr => ∃ k : Nat, k ≤ m.exps.length ∧ iv = .int .i64 k ∧ ∃ b, b = (b12 && (m.exps.take k).all (fun x => decide (x.nm.size ≤ 64))) ∧ Sz W m Bm ob b wr) (fun iv _ => m.exps.length - (RowKit.intOf iv).toNat)
    case atStart => exact ⟨0, Nat.zero_le _, rfl, b12, by simp, HZ12.out⟩
    case round =>
     obtain ⟨k, hk, rfl, bb, hbb, hz⟩ := hrel
     have HZr := zh hz
     have HBB := zh hbb
     clear hz hbb
     by_cases hlt : k < m.exps.length
     ·obtain ⟨x, hx⟩ : ∃ x, m.exps[k]? = some x := ⟨_, List.getElem?_eq_getElem hlt⟩
      have HXX := zh hx
      clear hx
      have hBnd : m.exps.length ≤ 1048576 := HM.out.2.2.2.2.2.2.1.2.2
      obtain ⟨gL, oL, hg, _⟩ := HNX.out (by intro e; rw [e] at hlt; simp at hlt)
      subst hg
      have HSL := zh (show Sl W 3 Exp.cs (.slice (some ⟨gL, oL, none⟩) m.exps.length cX) m.exps from by rw [← HVX.out]; exact HM.out.2.2.2.2.2.2.1.1)
      go_wp2_with (first | (refine wpList_load_mid rfl 61 _ rfl gL (oL + k * 3) rfl x.cs _ (Gr.sl_range (HSL.out.later HZr.out.bel) HXX.out) Tryz.underlying61 rfl sizeExp ?_; (try simp only [Act.put, sA, sB, sC])) | (refine wl_put (Lies.new _ _ _) x.cs _ _ rfl rfl rfl rfl rfl sizeExp (by simp [Exp.cs, Value.oneCell']) (fun w20 hl20 hf20 => ?_); have hb20 : Below wr.heap.size wr w20 := below_put ((Below.refl wr.heap.size wr).alloc (Nat.le_refl _) _) hf20 (Nat.le_refl _); obtain ⟨Bx, hBx⟩ : ∃ Bx, Bx = wr.heap.size := ⟨_, rfl⟩; rw [← hBx] at hl20 ⊢; have HX20 := zh hl20; have HZ20 := zh (HZr.out.later hb20); have x0 : w20.cell? ⟨Bx, 0, none⟩ = some (.string x.nm) := HX20.out.cell 0; clear hl20 hf20 hb20 hBx; (try simp only [Act.put])))
      refine (most_nat HZ20.out.ok (n := x.nm.size) (k := 64) rfl rfl).mono ?_
      rintro en w21 ⟨rfl, hl, hf⟩
      obtain ⟨b21, hb21⟩ : ∃ b, b = (bb && decide (x.nm.size ≤ 64)) := ⟨_, rfl⟩
      have HZ21 := zh ((HZ20.out.most hl hf).cast hb21.symm)
      have HB21 := zh hb21
      clear hl hf hb21
      go_wp2_with fail
      go_roundw
      case rel => exact ⟨k + 1, hlt, by go_num, _, by rw [HB21.out, HBB.out, all_take HXX.out, Bool.and_assoc], HZ21.out⟩
      case measure => simp [RowKit.intOf]; omega
     ·obtain rfl : k = m.exps.length := by omega
      go_wp2_with fail
      go_meet
      exact ⟨_, by rw [HBB.out, List.take_length], HZr.out⟩
   case rest =>
    obtain ⟨b13, hb13, hz⟩ := hcut
    have HB13 := zh hb13
    have HZ13 := zh hz
    clear hz hb13
    obtain ⟨w13, hw13⟩ : ∃ w13, w13 = wc := ⟨_, rfl⟩
    rw [← hw13] at HZ13 ⊢
    clear hw13
    have xE : w13.cell? ⟨Bm, 9, none⟩ = some (.slice sE m.elems.length cE) := (HZ13.out.md.cell 9).trans (congrArg some HVE.out)
    go_upto_block 6 with fail
    go_cut [] from 112 to 121 (fun wx => ∃ b, b = (b13 && m.elems.all (fun x => decide (x.fs.length ≤ 1024))) ∧ Sz W m Bm ob b wx)
    case first =>
     go_wp2_with fail
     go_loopw [112] (fun iv wr => ∃ k : Nat, k ≤ m.elems.length ∧ iv = .int .i64 k ∧ ∃ b, b = (b13 && (m.elems.take k).all (fun x => decide (x.fs.length ≤ 1024))) ∧ Sz W m Bm ob b wr) (fun iv _ => m.elems.length - (RowKit.intOf iv).toNat)
     case atStart => exact ⟨0, Nat.zero_le _, rfl, b13, by simp, HZ13.out⟩
     case round =>
      obtain ⟨k, hk, rfl, bb, hbb, hz⟩ := hrel
      have HZr := zh hz
      have HBB := zh hbb
      clear hz hbb
      by_cases hlt : k < m.elems.length
      ·obtain ⟨x, hx⟩ : ∃ x, m.elems[k]? = some x := ⟨_, List.getElem?_eq_getElem hlt⟩
       have HXX := zh hx
       clear hx
       have hBnd : m.elems.length ≤ 1048576 := HM.out.2.2.2.2.2.2.2.2.1.2.2
       obtain ⟨gL, oL, hg, _⟩ := HNE.out (by intro e; rw [e] at hlt; simp at hlt)
       subst hg
       have HSL := zh (show Sl W 3 Elm.cs (.slice (some ⟨gL, oL, none⟩) m.elems.length cE) m.elems from by rw [← HVE.out]; exact HM.out.2.2.2.2.2.2.2.2.1.1)
       have hok := HM.out.2.2.2.2.2.2.2.2.1.2.1 x (List.mem_of_getElem? HXX.out)
       obtain ⟨sp, cp, hvp, _⟩ := hok.2.2.1.form
       replace hok := hok.later HZr.out.bel
       have HVP := zh hvp
       clear hvp
       have HOK := zh hok
       clear hok
       go_wp2_with (first | (refine wpList_load_mid rfl 59 _ rfl gL (oL + k * 3) rfl x.cs _ (Gr.sl_range (HSL.out.later HZr.out.bel) HXX.out) Tryz.underlying59 rfl sizeElm ?_; (try simp only [Act.put, sA, sB, sC])) | (refine wl_put (Lies.new _ _ _) x.cs _ _ rfl rfl rfl rfl rfl sizeElm (oneElm HOK.out) (fun w20 hl20 hf20 => ?_); have hb20 : Below wr.heap.size wr w20 := below_put ((Below.refl wr.heap.size wr).alloc (Nat.le_refl _) _) hf20 (Nat.le_refl _); obtain ⟨Bx, hBx⟩ : ∃ Bx, Bx = wr.heap.size := ⟨_, rfl⟩; rw [← hBx] at hl20 ⊢; have HX20 := zh hl20; have HZ20 := zh (HZr.out.later hb20); have x2 : w20.cell? ⟨Bx, 2, none⟩ = some (.slice sp x.fs.length cp) := (HX20.out.cell 2).trans (congrArg some HVP.out); clear hl20 hf20 hb20 hBx; (try simp only [Act.put])))
       refine (most_nat HZ20.out.ok (n := x.fs.length) (k := 1024) rfl rfl).mono ?_
       rintro en w21 ⟨rfl, hl, hf⟩
       obtain ⟨b21, hb21⟩ : ∃ b, b = (bb && decide (x.fs.length ≤ 1024)) := ⟨_, rfl⟩
       have HZ21 := zh ((HZ20.out.most hl hf).cast hb21.symm)
       have HB21 := zh hb21
       clear hl hf hb21
       go_wp2_with fail
       go_roundw
       case rel => exact ⟨k + 1, hlt, by go_num, _, by rw [HB21.out, HBB.out, all_take HXX.out, Bool.and_assoc], HZ21.out⟩
       case measure => simp [RowKit.intOf]; omega
      ·obtain rfl : k = m.elems.length := by omega
       go_wp2_with fail
       go_meet
       exact ⟨_, by rw [HBB.out, List.take_length], HZr.out⟩
    case rest =>
     obtain ⟨b14, hb14, hz⟩ := hcut
     have HB14 := zh hb14
     have HZ14 := zh hz
     clear hz hb14
     obtain ⟨w14, hw14⟩ : ∃ w14, w14 = wc := ⟨_, rfl⟩
     rw [← hw14] at HZ14 ⊢
     clear hw14
     go_wp2_with fail
     refine (table_any (i := 0) (show SpG w14 S0 m (gsOf m) (bsOf m) (msOf m) from spx_later HSP.out HZ14.out.bel) (by decide)).mono ?_
     rintro en w15 ⟨rfl, hb⟩
     have HZ15 := zh (HZ14.out.later hb)
     clear hb
     obtain ⟨lBt, hlBt⟩ : ∃ l, l = (bsOf m)[0]? := ⟨_, rfl⟩
     rw [← hlBt]
     have HLBt := zh hlBt
     clear hlBt
     go_upto_if 127 with (first | (refine wl_put (Lies.new _ _ _) (limC lBt) _ _ rfl rfl rfl rfl (limC_len _) (limC_siz _) (oneLimC _) (fun w16 hl16 hf16 => ?_); have hb16 : Below w15.heap.size w15 w16 := below_put ((Below.refl w15.heap.size w15).alloc (Nat.le_refl _) _) hf16 (Nat.le_refl _); obtain ⟨Bt, hBt⟩ : ∃ Bt, Bt = w15.heap.size := ⟨_, rfl⟩; rw [← hBt] at hl16 ⊢; have HX16 := zh hl16; have HZ16 := zh (HZ15.out.later hb16); clear hl16 hf16 hb16 hBt; (try simp only [Act.put])))
     go_cut [] from 128 to 132 (fun wx => ∃ b, b = (b14 && limS (bsOf m)[0]? 1024) ∧ Sz W m Bm ob b wx)
     case first =>
      cases lBt with
      | none =>
       go_wp2_with fail
       go_meet
       exact ⟨_, by rw [← HLBt.out]; simp [limS], HZ16.out⟩
      | some t =>
       have hmn : t.mn < 4294967296 := bs_ok HM.out t (List.mem_of_getElem? HLBt.out.symm)
       have xL : w16.cell? ⟨Bt, 0, none⟩ = some (.int .u32 t.mn) := HX16.out.cell 0
       go_wp2_with fail
       refine (most_nat HZ16.out.ok (n := t.mn) (k := 1024) rfl rfl).mono ?_
       rintro en w17 ⟨rfl, hl, hf⟩
       obtain ⟨b17, hb17⟩ : ∃ b, b = (b14 && decide (t.mn ≤ 1024)) := ⟨_, rfl⟩
       have HZ17 := zh ((HZ16.out.most hl hf).cast hb17.symm)
       have HB17 := zh hb17
       clear hl hf hb17
       go_wp2_with fail
       go_meet
       exact ⟨_, by rw [← HLBt.out, HB17.out]; rfl, HZ17.out⟩
     case rest =>
      obtain ⟨b17, hb17, hz⟩ := hcut
      have HB17 := zh hb17
      have HZ17 := zh hz
      clear hz hb17
      obtain ⟨w17, hw17⟩ : ∃ w17, w17 = wc := ⟨_, rfl⟩
      rw [← hw17] at HZ17 ⊢
      clear hw17
      go_wp2_with fail
      refine (mem_any (i := 0) (show SpG w17 S0 m (gsOf m) (bsOf m) (msOf m) from spx_later HSP.out HZ17.out.bel) (by decide)).mono ?_
      rintro en w18 ⟨rfl, hb⟩
      have HZ18 := zh (HZ17.out.later hb)
      clear hb
      obtain ⟨lBu, hlBu⟩ : ∃ l, l = (msOf m)[0]? := ⟨_, rfl⟩
      rw [← hlBu]
      have HLBu := zh hlBu
      clear hlBu
      go_upto_if 138 with (first | (refine wl_put (Lies.new _ _ _) (limC lBu) _ _ rfl rfl rfl rfl (limC_len _) (limC_siz _) (oneLimC _) (fun w19 hl19 hf19 => ?_); have hb19 : Below w18.heap.size w18 w19 := below_put ((Below.refl w18.heap.size w18).alloc (Nat.le_refl _) _) hf19 (Nat.le_refl _); obtain ⟨Bu, hBu⟩ : ∃ Bu, Bu = w18.heap.size := ⟨_, rfl⟩; rw [← hBu] at hl19 ⊢; have HX19 := zh hl19; have HZ19 := zh (HZ18.out.later hb19); clear hl19 hf19 hb19 hBu; (try simp only [Act.put])))
      go_cut [] from 139 to 143 (fun wx => ∃ b, b = (b17 && limS (msOf m)[0]? 16) ∧ Sz W m Bm ob b wx)
      case first =>
       cases lBu with
       | none =>
        go_wp2_with fail
        go_meet
        exact ⟨_, by rw [← HLBu.out]; simp [limS], HZ19.out⟩
       | some t =>
        have hmn : t.mn < 4294967296 := ms_ok HM.out t (List.mem_of_getElem? HLBu.out.symm)
        have xL : w19.cell? ⟨Bu, 0, none⟩ = some (.int .u32 t.mn) := HX19.out.cell 0
        go_wp2_with fail
        refine (most_nat HZ19.out.ok (n := t.mn) (k := 16) rfl rfl).mono ?_
        rintro en w20 ⟨rfl, hl, hf⟩
        obtain ⟨b20, hb20⟩ : ∃ b, b = (b17 && decide (t.mn ≤ 16)) := ⟨_, rfl⟩
        have HZ20 := zh ((HZ19.out.most hl hf).cast hb20.symm)
        have HB20 := zh hb20
        clear hl hf hb20
        go_wp2_with fail
        go_meet
        exact ⟨_, by rw [← HLBu.out, HB20.out]; rfl, HZ20.out⟩
      case rest =>
       obtain ⟨b20, hb20, hz⟩ := hcut
       have HB20 := zh hb20
       have HZ20 := zh hz
       clear hz hb20
       obtain ⟨w20, hw20⟩ : ∃ w20, w20 = wc := ⟨_, rfl⟩
       rw [← hw20] at HZ20 ⊢
       clear hw20
       have xC : w20.cell? ⟨Bm, 10, none⟩ = some (.slice sC m.codes.length cC) := (HZ20.out.md.cell 10).trans (congrArg some HVC.out)
       obtain ⟨sh, ch, rfl, hnh⟩ := HH.out.form
       have HNH := zh hnh
       clear hnh
       go_upto_block 8 with fail
       go_cut [] from 147 to 225 (fun wx => ∃ b, b = (b20 && codsP m H m.codes.length) ∧ Sz W m Bm ob b wx)
       case first =>
        go_wp2_with fail
        go_loopw [147] (fun iv wr => ∃ k : Nat, k ≤ m.codes.length ∧ iv = .int .i64 k ∧ ∃ b, b = (b20 && codsP m H k) ∧ Sz W m Bm ob b wr) (fun iv _ => m.codes.length - (RowKit.intOf iv).toNat)
        case atStart => exact ⟨0, Nat.zero_le _, rfl, b20, by simp [codsP], HZ20.out⟩
        case round =>
         obtain ⟨k, hk, rfl, bb, hbb, hz⟩ := hrel
         have HZr := zh hz
         have HBB := zh hbb
         clear hz hbb
         have hBnd : m.codes.length ≤ 1048576 := HM.out.2.2.2.2.2.2.2.2.2.1.2.2
         by_cases hlt : k < m.codes.length
         ·obtain ⟨x, hx⟩ : ∃ x, m.codes[k]? = some x := ⟨_, List.getElem?_eq_getElem hlt⟩
          have HXX := zh hx
          clear hx
          obtain ⟨gL, oL, hg, _⟩ := HNC.out (by intro e; rw [e] at hlt; simp at hlt)
          subst hg
          have HSL := zh (show Sl W 2 Cod.cs (.slice (some ⟨gL, oL, none⟩) m.codes.length cC) m.codes from by rw [← HVC.out]; exact HM.out.2.2.2.2.2.2.2.2.2.1.1)
          have hok := HM.out.2.2.2.2.2.2.2.2.2.1.2.1 x (List.mem_of_getElem? HXX.out)
          obtain ⟨sl, cl, hvl, hnl⟩ := hok.1.1.form
          obtain ⟨sb, cb, hvb, hnb⟩ := hok.2.1.form
          have hll : x.locs.length ≤ 1048576 := hok.1.2.2
          have hbl : x.body.length ≤ 1048576 := hok.2.2.2
          have HVL := zh hvl
          have HVB := zh hvb
          have HNL := zh hnl
          have HNB := zh hnb
          have HOK := zh hok
          clear hvl hvb hnl hnb hok
          have hfk : (fk m 0).length ≤ 1048576 := Nat.le_trans (fk_le m 0) HM.out.2.1.2.2
          go_wp2_with (first | (refine wpList_load_mid rfl 48 _ rfl gL (oL + k * 2) rfl x.cs _ (Gr.sl_range (HSL.out.later HZr.out.bel) HXX.out) Tryz.underlying48 rfl sizeCod ?_; (try simp only [Act.put, sA, sB, sC])) | (refine wl_put (Lies.new _ _ _) x.cs _ _ rfl rfl rfl rfl rfl sizeCod (oneCod (HOK.out.later HZr.out.bel)) (fun w30 hl30 hf30 => ?_); have hb30 : Below wr.heap.size wr w30 := below_put ((Below.refl wr.heap.size wr).alloc (Nat.le_refl _) _) hf30 (Nat.le_refl _); obtain ⟨Bx, hBx⟩ : ∃ Bx, Bx = wr.heap.size := ⟨_, rfl⟩; rw [← hBx] at hl30 ⊢; have HNO := zh (show ¬ Bx = ob from fun e => by have := HZr.out.ok.lt; omega); have HX30 := zh hl30; have HZ30 := zh (HZr.out.later hb30); clear hl30 hf30 hb30 hBx; (try simp only [Act.put])))
          refine (imported0 (spx_later HSP.out HZ30.out.bel)).mono ?_
          rintro en w31 ⟨rfl, hb31⟩
          have HZ31 := zh (HZ30.out.later hb31)
          go_wp2_with fail
          refine (func_anyI (i := (fk m 0).length + k) HM.out (spx_later HSP.out HZ31.out.bel).sp (by omega) (by omega)).mono ?_
          rintro en w32 ⟨y, rfl, hoy, hty, hb⟩
          have HZ32 := zh (HZ31.out.later hb)
          have HX32 := zh (HX30.out.below (bt hb31 hb) HX30.out.lt)
          have hyp : y.p.length = (fpar m ((fk m 0).length + k)).length := fpar_told hty
          have hyl : y.p.length ≤ 1048576 := by rw [hyp]; exact fpar_le HM.out _
          have HYP := zh hyp
          have HOY := zh hoy
          obtain ⟨sy, cy, hvy, _⟩ := hoy.1.form
          have HVY := zh hvy
          clear hb hb31 hyp hty hoy hvy
          go_upto_block 10 with (first | (refine wl_put (Lies.new _ _ _) y.cs _ _ rfl rfl rfl rfl rfl sizeFt (oneFtO HOY.out) (fun w33 hl33 hf33 => ?_); have hb33 : Below w32.heap.size w32 w33 := below_put ((Below.refl w32.heap.size w32).alloc (Nat.le_refl _) _) hf33 (Nat.le_refl _); obtain ⟨By, hBy⟩ : ∃ By, By = w32.heap.size := ⟨_, rfl⟩; rw [← hBy] at hl33 ⊢; have HX33 := zh hl33; have HZ33 := zh (HZ32.out.later hb33); have HX33b := zh (HX32.out.below hb33 HX32.out.lt); have y0 : w33.cell? ⟨By, 0, none⟩ = some (.slice sy y.p.length cy) := (HX33.out.cell 0).trans (congrArg some HVY.out); have x0 : w33.cell? ⟨Bx, 0, none⟩ = some (.slice sl x.locs.length cl) := (HX33b.out.cell 0).trans (congrArg some HVL.out); clear hl33 hf33 hb33 hBy; (try simp only [Act.put])))
          obtain ⟨pl, hpl⟩ : ∃ pl, pl = y.p.length := ⟨_, rfl⟩
          rw [← hpl] at HYP hyl ⊢
          clear hpl y0 x0
          go_cut [25] from 169 to 178 (fun nv wx => nv = .int .u64 ((pl + locN x : Nat) : Int) ∧ Below w33.heap.size w33 wx)
          case first =>
           go_wp2_with fail
           go_loopw [25, 169] (fun nv iv wl => ∃ j : Nat, j ≤ x.locs.length ∧ iv = .int .i64 j ∧ nv = .int .u64 ((pl + ((x.locs.take j).map (·.n)).sum : Nat) : Int) ∧ Below w33.heap.size w33 wl) (fun _ iv _ => x.locs.length - (RowKit.intOf iv).toNat)
           case atStart => exact ⟨0, Nat.zero_le _, rfl, by simp, Below.refl _ _⟩
           case round =>
            obtain ⟨j, hj, rfl, rfl, hbl2⟩ := hrel
            have HBL := zh hbl2
            clear hbl2
            have hsm := sumk (HOK.out.1.2.1) (j + 1)
            have hsm0 := sumk (HOK.out.1.2.1) j
            by_cases hltj : j < x.locs.length
            ·obtain ⟨z, hz⟩ : ∃ z, x.locs[j]? = some z := ⟨_, List.getElem?_eq_getElem hltj⟩
             have HZZ := zh hz
             clear hz
             obtain ⟨gM, oM, hg, _⟩ := HNL.out (by intro e; rw [e] at hltj; simp at hltj)
             subst hg
             rw [sum_take HZZ.out] at hsm
             have HST := zh (sum_take HZZ.out)
             have hzn : z.n < 4294967296 := HOK.out.1.2.1 z (List.mem_of_getElem? HZZ.out)
             generalize ((x.locs.take j).map (·.n)).sum = sm at hsm hsm0 HST ⊢
             have HSL2 := zh (show Sl W 2 Gr.Loc.cs (.slice (some ⟨gM, oM, none⟩) x.locs.length cl) x.locs from by rw [← HVL.out]; exact HOK.out.1.1)
             go_wp2_with (first | (refine wpList_load_mid rfl 82 _ rfl gM (oM + j * 2) rfl z.cs _ (Gr.sl_range (HSL2.out.later (bt HZ33.out.bel HBL.out)) HZZ.out) Tryz.underlying82 rfl sizeLoc ?_; (try simp only [Act.put, sA, sB, sC])) | (refine wl_put (Lies.new _ _ _) z.cs _ _ rfl rfl rfl rfl rfl sizeLoc (oneLoc z) (fun w34 hl34 hf34 => ?_); have hb34 : Below wr.heap.size wr w34 := below_put ((Below.refl wr.heap.size wr).alloc (Nat.le_refl _) _) hf34 (Nat.le_refl _); have HB34 := zh (bt HBL.out hb34); obtain ⟨Bz, hBz⟩ : ∃ Bz, Bz = wr.heap.size := ⟨_, rfl⟩; rw [← hBz] at hl34 ⊢; have z0 : w34.cell? ⟨Bz, 0, none⟩ = some (.int .u32 z.n) := hl34.cell 0; clear hl34 hf34 hb34 hBz; (try simp only [Act.put])))
             go_roundw
             case rel => exact ⟨j + 1, hltj, by go_num, by rw [HST.out]; go_num, HB34.out⟩
             case measure => simp [RowKit.intOf]; omega
            ·obtain rfl : j = x.locs.length := by omega
             go_wp2_with fail
             go_meet
             exact ⟨by rw [List.take_length]; rfl, HBL.out⟩
          case rest =>
           obtain ⟨rfl, hb33⟩ := hcut
           obtain ⟨w34, hw34⟩ : ∃ w34, w34 = wc := ⟨_, rfl⟩
           rw [← hw34] at hb33 ⊢
           clear hw34
           have HZ34 := zh (HZ33.out.later hb33)
           have HX34 := zh (HX33b.out.below hb33 HX33b.out.lt)
           clear hb33
           have hlo : locN x ≤ 1048576 * 4294967296 := by have := sumk (HOK.out.1.2.1) x.locs.length; rw [List.take_length] at this; exact Nat.le_trans this (Nat.mul_le_mul_right _ hll)
           have HLO := zh (show fpar m ((fk m 0).length + k) = fpar m ((fk m 0).length + k) from rfl)
           obtain ⟨nl, hnl⟩ : ∃ nl, nl = pl + locN x := ⟨_, rfl⟩
           rw [← hnl]
           obtain ⟨q, hq⟩ : ∃ q, q = min nl 1048576 := ⟨_, rfl⟩
           have hmn : min (nl : Int) 1048576 = (q : Int) := by omega
           have hql : q ≤ 1048576 := by omega
           have hnb : nl ≤ 4503599628419072 := by omega
           have HQE := zh hq
           have HNQ := zh hnl
           clear hq hnl hlo HLO
           have x1 : w34.cell? ⟨Bx, 1, none⟩ = some (.slice sb x.body.length cb) := (HX34.out.cell 1).trans (congrArg some HVB.out)
           go_wp2_with fail
           refine (most_nat HZ34.out.ok (n := q) (k := 256) rfl rfl).mono ?_
           rintro en w35 ⟨rfl, hl, hf⟩
           obtain ⟨b35, hb35⟩ : ∃ b, b = (bb && decide (q ≤ 256)) := ⟨_, rfl⟩
           have HZ35 := zh ((HZ34.out.most hl hf).cast hb35.symm)
           have HB35 := zh hb35
           have HX35 := zh (lies_fr HX34.out hf HNO.out)
           clear hl hf hb35
           have x1 : w35.cell? ⟨Bx, 1, none⟩ = some (.slice sb x.body.length cb) := (HX35.out.cell 1).trans (congrArg some HVB.out)
           go_wp2_with fail
           refine (most_nat HZ35.out.ok (n := x.body.length) (k := 8192) rfl rfl).mono ?_
           rintro en w36 ⟨rfl, hl, hf⟩
           obtain ⟨b36, hb36⟩ : ∃ b, b = (b35 && decide (x.body.length ≤ 8192)) := ⟨_, rfl⟩
           have HZ36 := zh ((HZ35.out.most hl hf).cast hb36.symm)
           have HB36 := zh hb36
           have HX36 := zh (lies_fr HX35.out hf HNO.out)
           clear hl hf hb36
           obtain ⟨gH, oH, hg, _⟩ := HNH.out (by intro e; have h1 := HL.out; rw [e] at h1; simp at h1; omega)
           subst hg
           have hkH : k < H.length := by rw [HL.out]; exact hlt
           obtain ⟨h, hhk⟩ : ∃ h, H[k]? = some h := ⟨_, List.getElem?_eq_getElem hkH⟩
           have xH : w36.cell? ⟨gH, oH + k, none⟩ = some (.int .i64 h) := by have := (HH.out.later HZ36.out.bel).cell hhk (j := 0) rfl; rw [Nat.mul_one, Nat.add_zero] at this; exact this
           have HHK := zh (show H.getD k 0 = h from by rw [List.getD_eq_getElem?_getD, hhk]; rfl)
           clear hhk
           go_wp2_with fail
           refine (most_nat HZ36.out.ok (n := h) (k := 512) rfl rfl).mono ?_
           rintro en w37 ⟨rfl, hl, hf⟩
           obtain ⟨b37, hb37⟩ : ∃ b, b = (b36 && decide (h ≤ 512)) := ⟨_, rfl⟩
           have HZ37 := zh ((HZ36.out.most hl hf).cast hb37.symm)
           have HB37 := zh hb37
           have HX37 := zh (lies_fr HX36.out hf HNO.out)
           clear hl hf hb37
           have x1 : w37.cell? ⟨Bx, 1, none⟩ = some (.slice sb x.body.length cb) := (HX37.out.cell 1).trans (congrArg some HVB.out)
           go_upto_block 12 with fail
           go_wp2_with fail
           go_loopw [28, 198] (fun ov iv wr => ∃ (j : Nat) (o : Int) (b : Bool), j ≤ x.body.length ∧ iv = .int .i64 j ∧ ov = .int .i64 o ∧ -(j : Int) ≤ o ∧ o ≤ j ∧ (b && opnS o (x.body.drop j)) = (b37 && opnS 0 x.body) ∧ Sz W m Bm ob b wr) (fun _ iv _ => x.body.length - (RowKit.intOf iv).toNat)
           case atStart => exact ⟨0, 0, b37, Nat.zero_le _, rfl, rfl, by omega, by omega, rfl, HZ37.out⟩
           case round =>
            obtain ⟨j, o, bl, hj, rfl, rfl, ho1, ho2, heq, hzl⟩ := hrel
            have HZl := zh hzl
            have HEQ := zh heq
            clear hzl heq
            by_cases hltj : j < x.body.length
            ·obtain ⟨z, hz⟩ : ∃ z, x.body[j]? = some z := ⟨_, List.getElem?_eq_getElem hltj⟩
             have HZZ := zh hz
             clear hz
             obtain ⟨gN, oN, hg, _⟩ := HNB.out (by intro e; rw [e] at hltj; simp at hltj)
             subst hg
             have HSL2 := zh (show Sl W 5 Ins.cs (.slice (some ⟨gN, oN, none⟩) x.body.length cb) x.body from by rw [← HVB.out]; exact HOK.out.2.1)
             have hzo := HOK.out.2.2.1 z (List.mem_of_getElem? HZZ.out)
             obtain ⟨sz, cz, hvz, _⟩ := hzo.2.2.2.1.form
             have hzl : z.ls.length ≤ 1048576 := hzo.2.2.2.2.2
             have HVZ := zh hvz
             have HZO := zh hzo
             clear hzo hvz
             rw [opnS_drop HZZ.out] at HEQ
             obtain ⟨n, hn⟩ : ∃ n, z.op.toNat = n := ⟨_, rfl⟩
             by_cases k2 : z.op = 2
             ·obtain rfl : n = 2 := by rw [← hn, k2]; rfl
              have HO := zh (show opn o z = o + 1 from by unfold opn; rw [if_pos (by simp [k2])])
              have H14 := zh (show (z.op != 14) = true from by rw [k2]; rfl)
              have HON := zh hn
              clear hn
              go_wp2_with (first | (refine wpList_load_mid rfl 57 _ rfl gN (oN + j * 5) rfl z.cs _ (Gr.sl_range (HSL2.out.later HZl.out.bel) HZZ.out) Tryz.underlying57 rfl sizeIns ?_; (try simp only [Act.put, sA, sB, sC])) | (refine wl_put (Lies.new _ _ _) z.cs _ _ rfl rfl rfl rfl rfl sizeIns (oneIns (HZO.out.later HZl.out.bel)) (fun w40 hl40 hf40 => ?_); have hb40 : Below wr.heap.size wr w40 := below_put ((Below.refl wr.heap.size wr).alloc (Nat.le_refl _) _) hf40 (Nat.le_refl _); have HZ40 := zh (HZl.out.later hb40); obtain ⟨Bz, hBz⟩ : ∃ Bz, Bz = wr.heap.size := ⟨_, rfl⟩; rw [← hBz] at hl40 ⊢; have z0 : w40.cell? ⟨Bz, 0, none⟩ = some (.int .u8 2) := (hl40.cell 0).trans (congrArg (fun q : Nat => some (Value.int .u8 (q : Int))) HON.out); have z4 : w40.cell? ⟨Bz, 4, none⟩ = some (.slice sz z.ls.length cz) := (hl40.cell 4).trans (congrArg some HVZ.out); clear hl40 hf40 hb40 hBz; (try simp only [Act.put])))
              refine (most_any HZ40.out.ok _ _).mono ?_
              rintro en w41 ⟨rfl, hl, hf⟩
              have HZ41 := zh (HZ40.out.most hl hf)
              clear hl hf
              go_wp2_with fail
              go_roundw
              case rel => exact ⟨j + 1, (o + 1), _, hltj, by go_num, rfl, by omega, by omega, by rw [← HEQ.out, HO.out, H14.out]; simp [Bool.and_assoc], HZ41.out⟩
              case measure => simp [RowKit.intOf]; omega
             by_cases k3 : z.op = 3
             ·obtain rfl : n = 3 := by rw [← hn, k3]; rfl
              have HO := zh (show opn o z = o + 1 from by unfold opn; rw [if_pos (by simp [k3])])
              have H14 := zh (show (z.op != 14) = true from by rw [k3]; rfl)
              have HON := zh hn
              clear hn
              go_wp2_with (first | (refine wpList_load_mid rfl 57 _ rfl gN (oN + j * 5) rfl z.cs _ (Gr.sl_range (HSL2.out.later HZl.out.bel) HZZ.out) Tryz.underlying57 rfl sizeIns ?_; (try simp only [Act.put, sA, sB, sC])) | (refine wl_put (Lies.new _ _ _) z.cs _ _ rfl rfl rfl rfl rfl sizeIns (oneIns (HZO.out.later HZl.out.bel)) (fun w40 hl40 hf40 => ?_); have hb40 : Below wr.heap.size wr w40 := below_put ((Below.refl wr.heap.size wr).alloc (Nat.le_refl _) _) hf40 (Nat.le_refl _); have HZ40 := zh (HZl.out.later hb40); obtain ⟨Bz, hBz⟩ : ∃ Bz, Bz = wr.heap.size := ⟨_, rfl⟩; rw [← hBz] at hl40 ⊢; have z0 : w40.cell? ⟨Bz, 0, none⟩ = some (.int .u8 3) := (hl40.cell 0).trans (congrArg (fun q : Nat => some (Value.int .u8 (q : Int))) HON.out); have z4 : w40.cell? ⟨Bz, 4, none⟩ = some (.slice sz z.ls.length cz) := (hl40.cell 4).trans (congrArg some HVZ.out); clear hl40 hf40 hb40 hBz; (try simp only [Act.put])))
              refine (most_any HZ40.out.ok _ _).mono ?_
              rintro en w41 ⟨rfl, hl, hf⟩
              have HZ41 := zh (HZ40.out.most hl hf)
              clear hl hf
              go_wp2_with fail
              go_roundw
              case rel => exact ⟨j + 1, (o + 1), _, hltj, by go_num, rfl, by omega, by omega, by rw [← HEQ.out, HO.out, H14.out]; simp [Bool.and_assoc], HZ41.out⟩
              case measure => simp [RowKit.intOf]; omega
             by_cases k4 : z.op = 4
             ·obtain rfl : n = 4 := by rw [← hn, k4]; rfl
              have HO := zh (show opn o z = o + 1 from by unfold opn; rw [if_pos (by simp [k4])])
              have H14 := zh (show (z.op != 14) = true from by rw [k4]; rfl)
              have HON := zh hn
              clear hn
              go_wp2_with (first | (refine wpList_load_mid rfl 57 _ rfl gN (oN + j * 5) rfl z.cs _ (Gr.sl_range (HSL2.out.later HZl.out.bel) HZZ.out) Tryz.underlying57 rfl sizeIns ?_; (try simp only [Act.put, sA, sB, sC])) | (refine wl_put (Lies.new _ _ _) z.cs _ _ rfl rfl rfl rfl rfl sizeIns (oneIns (HZO.out.later HZl.out.bel)) (fun w40 hl40 hf40 => ?_); have hb40 : Below wr.heap.size wr w40 := below_put ((Below.refl wr.heap.size wr).alloc (Nat.le_refl _) _) hf40 (Nat.le_refl _); have HZ40 := zh (HZl.out.later hb40); obtain ⟨Bz, hBz⟩ : ∃ Bz, Bz = wr.heap.size := ⟨_, rfl⟩; rw [← hBz] at hl40 ⊢; have z0 : w40.cell? ⟨Bz, 0, none⟩ = some (.int .u8 4) := (hl40.cell 0).trans (congrArg (fun q : Nat => some (Value.int .u8 (q : Int))) HON.out); have z4 : w40.cell? ⟨Bz, 4, none⟩ = some (.slice sz z.ls.length cz) := (hl40.cell 4).trans (congrArg some HVZ.out); clear hl40 hf40 hb40 hBz; (try simp only [Act.put])))
              refine (most_any HZ40.out.ok _ _).mono ?_
              rintro en w41 ⟨rfl, hl, hf⟩
              have HZ41 := zh (HZ40.out.most hl hf)
              clear hl hf
              go_wp2_with fail
              go_roundw
              case rel => exact ⟨j + 1, (o + 1), _, hltj, by go_num, rfl, by omega, by omega, by rw [← HEQ.out, HO.out, H14.out]; simp [Bool.and_assoc], HZ41.out⟩
              case measure => simp [RowKit.intOf]; omega
             by_cases k11 : z.op = 11
             ·obtain rfl : n = 11 := by rw [← hn, k11]; rfl
              have HO := zh (show opn o z = o - 1 from by unfold opn; rw [if_neg (by simp [k11]), if_pos k11])
              have H14 := zh (show (z.op != 14) = true from by rw [k11]; rfl)
              have HON := zh hn
              clear hn
              go_wp2_with (first | (refine wpList_load_mid rfl 57 _ rfl gN (oN + j * 5) rfl z.cs _ (Gr.sl_range (HSL2.out.later HZl.out.bel) HZZ.out) Tryz.underlying57 rfl sizeIns ?_; (try simp only [Act.put, sA, sB, sC])) | (refine wl_put (Lies.new _ _ _) z.cs _ _ rfl rfl rfl rfl rfl sizeIns (oneIns (HZO.out.later HZl.out.bel)) (fun w40 hl40 hf40 => ?_); have hb40 : Below wr.heap.size wr w40 := below_put ((Below.refl wr.heap.size wr).alloc (Nat.le_refl _) _) hf40 (Nat.le_refl _); have HZ40 := zh (HZl.out.later hb40); obtain ⟨Bz, hBz⟩ : ∃ Bz, Bz = wr.heap.size := ⟨_, rfl⟩; rw [← hBz] at hl40 ⊢; have z0 : w40.cell? ⟨Bz, 0, none⟩ = some (.int .u8 11) := (hl40.cell 0).trans (congrArg (fun q : Nat => some (Value.int .u8 (q : Int))) HON.out); have z4 : w40.cell? ⟨Bz, 4, none⟩ = some (.slice sz z.ls.length cz) := (hl40.cell 4).trans (congrArg some HVZ.out); clear hl40 hf40 hb40 hBz; (try simp only [Act.put])))
              refine (most_any HZ40.out.ok _ _).mono ?_
              rintro en w41 ⟨rfl, hl, hf⟩
              have HZ41 := zh (HZ40.out.most hl hf)
              clear hl hf
              go_wp2_with fail
              go_roundw
              case rel => exact ⟨j + 1, (o - 1), _, hltj, by go_num, rfl, by omega, by omega, by rw [← HEQ.out, HO.out, H14.out]; simp [Bool.and_assoc], HZ41.out⟩
              case measure => simp [RowKit.intOf]; omega
             by_cases k14 : z.op = 14
             ·obtain rfl : n = 14 := by rw [← hn, k14]; rfl
              have HO := zh (show opn o z = o from by unfold opn; rw [if_neg (by simp [k14]), if_neg (by simp [k14])])
              have H14 := zh (show (z.op != 14) = false from by rw [k14]; rfl)
              have HON := zh hn
              clear hn
              go_wp2_with (first | (refine wpList_load_mid rfl 57 _ rfl gN (oN + j * 5) rfl z.cs _ (Gr.sl_range (HSL2.out.later HZl.out.bel) HZZ.out) Tryz.underlying57 rfl sizeIns ?_; (try simp only [Act.put, sA, sB, sC])) | (refine wl_put (Lies.new _ _ _) z.cs _ _ rfl rfl rfl rfl rfl sizeIns (oneIns (HZO.out.later HZl.out.bel)) (fun w40 hl40 hf40 => ?_); have hb40 : Below wr.heap.size wr w40 := below_put ((Below.refl wr.heap.size wr).alloc (Nat.le_refl _) _) hf40 (Nat.le_refl _); have HZ40 := zh (HZl.out.later hb40); obtain ⟨Bz, hBz⟩ : ∃ Bz, Bz = wr.heap.size := ⟨_, rfl⟩; rw [← hBz] at hl40 ⊢; have z0 : w40.cell? ⟨Bz, 0, none⟩ = some (.int .u8 14) := (hl40.cell 0).trans (congrArg (fun q : Nat => some (Value.int .u8 (q : Int))) HON.out); have z4 : w40.cell? ⟨Bz, 4, none⟩ = some (.slice sz z.ls.length cz) := (hl40.cell 4).trans (congrArg some HVZ.out); clear hl40 hf40 hb40 hBz; (try simp only [Act.put])))
              refine (most_nat HZ40.out.ok (n := z.ls.length) (k := 256) rfl rfl).mono ?_
              rintro en w41 ⟨rfl, hl, hf⟩
              obtain ⟨b41, hb41⟩ : ∃ b, b = (bl && decide (z.ls.length ≤ 256)) := ⟨_, rfl⟩
              have HZ41 := zh ((HZ40.out.most hl hf).cast hb41.symm)
              have HB41 := zh hb41
              clear hl hf hb41
              go_wp2_with fail
              refine (most_any HZ41.out.ok _ _).mono ?_
              rintro en w42 ⟨rfl, hl, hf⟩
              have HZ42 := zh (HZ41.out.most hl hf)
              clear hl hf
              go_wp2_with fail
              go_roundw
              case rel => exact ⟨j + 1, o, _, hltj, by go_num, rfl, by omega, by omega, by rw [← HEQ.out, HO.out, H14.out, HB41.out]; simp [Bool.and_assoc], HZ42.out⟩
              case measure => simp [RowKit.intOf]; omega
             have HO := zh (show opn o z = o from by unfold opn; rw [if_neg (by simp [k2, k3, k4]), if_neg k11])
             have H14 := zh (show (z.op != 14) = true from by simpa using k14)
             have g2 : ((n : Int) == 2) = false := by rw [beq_eq_false_iff_ne]; intro e; exact k2 (UInt8.toNat_inj.1 (hn.trans (by have h5 : n = 2 := (by omega); rw [h5]; rfl)))
             have g3 : ((n : Int) == 3) = false := by rw [beq_eq_false_iff_ne]; intro e; exact k3 (UInt8.toNat_inj.1 (hn.trans (by have h5 : n = 3 := (by omega); rw [h5]; rfl)))
             have g4 : ((n : Int) == 4) = false := by rw [beq_eq_false_iff_ne]; intro e; exact k4 (UInt8.toNat_inj.1 (hn.trans (by have h5 : n = 4 := (by omega); rw [h5]; rfl)))
             have g11 : ((n : Int) == 11) = false := by rw [beq_eq_false_iff_ne]; intro e; exact k11 (UInt8.toNat_inj.1 (hn.trans (by have h5 : n = 11 := (by omega); rw [h5]; rfl)))
             have g14 : ((n : Int) == 14) = false := by rw [beq_eq_false_iff_ne]; intro e; exact k14 (UInt8.toNat_inj.1 (hn.trans (by have h5 : n = 14 := (by omega); rw [h5]; rfl)))
             clear k2 k3 k4 k11 k14
             have HON := zh hn
             clear hn
             go_wp2_with (first | (refine wpList_load_mid rfl 57 _ rfl gN (oN + j * 5) rfl z.cs _ (Gr.sl_range (HSL2.out.later HZl.out.bel) HZZ.out) Tryz.underlying57 rfl sizeIns ?_; (try simp only [Act.put, sA, sB, sC])) | (refine wl_put (Lies.new _ _ _) z.cs _ _ rfl rfl rfl rfl rfl sizeIns (oneIns (HZO.out.later HZl.out.bel)) (fun w40 hl40 hf40 => ?_); have hb40 : Below wr.heap.size wr w40 := below_put ((Below.refl wr.heap.size wr).alloc (Nat.le_refl _) _) hf40 (Nat.le_refl _); have HZ40 := zh (HZl.out.later hb40); obtain ⟨Bz, hBz⟩ : ∃ Bz, Bz = wr.heap.size := ⟨_, rfl⟩; rw [← hBz] at hl40 ⊢; have z0 : w40.cell? ⟨Bz, 0, none⟩ = some (.int .u8 n) := (hl40.cell 0).trans (congrArg (fun q : Nat => some (Value.int .u8 (q : Int))) HON.out); have z4 : w40.cell? ⟨Bz, 4, none⟩ = some (.slice sz z.ls.length cz) := (hl40.cell 4).trans (congrArg some HVZ.out); clear hl40 hf40 hb40 hBz; (try simp only [Act.put])))
             refine (most_any HZ40.out.ok _ _).mono ?_
             rintro en w41 ⟨rfl, hl, hf⟩
             have HZ41 := zh (HZ40.out.most hl hf)
             clear hl hf
             go_wp2_with fail
             go_roundw
             case rel => exact ⟨j + 1, o, _, hltj, by go_num, rfl, by omega, by omega, by rw [← HEQ.out, HO.out, H14.out]; simp [Bool.and_assoc], HZ41.out⟩
             case measure => simp [RowKit.intOf]; omega
            ·obtain rfl : j = x.body.length := by omega
             have HB38 := zh (show bl = (b37 && opnS 0 x.body) from by rw [← HEQ.out, List.drop_length]; simp [opnS])
             go_wp2_with fail
             go_roundw
             case rel => exact ⟨k + 1, hlt, by go_num, bl, by rw [codsP_succ HXX.out, HB38.out, HB37.out, HB36.out, HB35.out, HBB.out, HHK.out, HQE.out, HNQ.out, HYP.out]; unfold codS; simp [Bool.and_assoc], HZl.out⟩
             case measure => simp [RowKit.intOf]; omega
         ·obtain rfl : k = m.codes.length := by omega
          go_wp2_with fail
          go_meet
          exact ⟨_, HBB.out, HZr.out⟩
       case rest =>
        obtain ⟨b21, hb21, hz⟩ := hcut
        have HB21 := zh hb21
        have HZ21 := zh hz
        clear hz hb21
        obtain ⟨w21, hw21⟩ : ∃ w21, w21 = wc := ⟨_, rfl⟩
        rw [← hw21] at HZ21 ⊢
        clear hw21
        have xo : w21.cell? ⟨ob, 0, none⟩ = some (.bool b21) := HZ21.out.ok.cell 0
        go_wp2_with fail
        go_ret
        refine ⟨?_, HZ21.out.bel⟩
        congr 2
        rw [HB21.out, HB20.out, HB17.out, HB14.out, HB13.out, HB12.out, HB11.out, HB10.out, HB9.out, HB8.out, HB7.out, HB5.out, HB4.out, HB3.out]
        simp [sizeS, listS, Bool.and_assoc]
end Go.Proofs.YtmgjcaikldeioaaGreat.Ru
/- rule.exports: has a module its main? -/
namespace Go.Proofs.YtmgjcaikldeioaaGreat.Ru
open Go Go.RowKit Go.Lib Kt Fm Gr Ty Va

def mainL : List UInt8 := [109, 97, 105, 110]
def initL : List UInt8 := [105, 110, 105, 116]
def fsig (m : Mod) (i : Nat) : List UInt8 × List UInt8 := match ftype m i with | some t => (t.p, t.r) | none => ([], [])
def expR (m : Mod) : List Exp → Bool → Bool
 | [], mn => mn
 | x :: r, mn => if nmL x.nm = mainL ∨ nmL x.nm = initL then (if x.kind = 0 ∧ fsig m x.ix = ([], []) then expR m r (mn || decide (nmL x.nm = mainL)) else false) else expR m r mn
theorem expR_cons (m : Mod) (x : Exp) (r : List Exp) (mn : Bool) : expR m (x :: r) mn = if nmL x.nm = mainL ∨ nmL x.nm = initL then (if x.kind = 0 ∧ fsig m x.ix = ([], []) then expR m r (mn || decide (nmL x.nm = mainL)) else false) else expR m r mn := rfl
theorem same_nil {m : Mod} {i : Nat} {y : Ft} (h : FnTold m i y) : same y ⟨.slice none 0 0, [], .slice none 0 0, []⟩ = decide (fsig m i = ([], [])) := by
 have h1 : (y.p, y.r) = fsig m i := h
 unfold same
 rw [← h1, Bool.eq_iff_iff]
 simp
theorem nm_eq (b : ByteArray) (l : List UInt8) : (b.toList == l) = decide (nmL b = l) := by
 rw [ByteArray.toList_eq, Bool.eq_iff_iff, beq_iff_eq, decide_eq_true_iff]
 rfl
theorem drop_next {α : Type} {L : List α} {k : Nat} {x : α} (h : L[k]? = some x) : L.drop k = x :: L.drop (k + 1) := by
 have hk := List.getElem?_eq_some_iff.1 h
 rw [List.drop_eq_getElem_cons hk.1, hk.2]
theorem fn_ok {U w : World} {m : Mod} (hm : ModOk U m) {i : Nat} {y : Ft} (h : FnTold m i y) (ho : FtOwn w y) : FtOk w y := ho.ok (fntold_len hm h).1 (fntold_len hm h).2
set_option maxRecDepth 100000 in
set_option maxHeartbeats 16000000 in
theorem exports_any {W : World} {S0 : Nat} {m : Mod} (hm : ModOk W m) (hsp : SpX W S0 m) :
  Calls Tryz.prog 73 #[.agg m.cs.toArray, .pointer (some ⟨S0, 0, none⟩)] W fun e w' => e = .returned (.bool (expR m m.exps false)) ∧ Below W.heap.size W w' := by
 have HM := zh hm
 have HSP := zh hsp
 clear hm hsp
 obtain ⟨sX, cX, hX, hnX⟩ := HM.out.2.2.2.2.2.2.1.1.form
 have HV := zh hX
 have HN := zh hnX
 clear hX hnX
 go_enter Tryz.func73, Tryz.ntmps73
 go_wp2_with (refine wl_box m.cs _ rfl rfl rfl (fun w1 hb1 hl1 => ?_); have HB1 := zh hb1; have x6 : w1.cell? ⟨W.heap.size, 6, none⟩ = some (.slice sX m.exps.length cX) := (hl1.cell 6).trans (congrArg some HV.out); clear hb1 hl1; (try simp only [Act.put, sA, sB, sC]))
 go_loopw [5, 13] (fun mv iv wr => ∃ (k : Nat) (mn : Bool), k ≤ m.exps.length ∧ iv = .int .i64 k ∧ mv = .bool mn ∧ Below W.heap.size W wr ∧ expR m m.exps false = expR m (m.exps.drop k) mn) (fun _ iv _ => m.exps.length - (RowKit.intOf iv).toNat)
 case atStart => exact ⟨0, false, Nat.zero_le _, rfl, rfl, HB1.out, rfl⟩
 case round =>
  obtain ⟨k, mn, hk, rfl, rfl, hw, he⟩ := hrel
  have HW := zh hw
  have HE := zh he
  clear hw he
  have hBnd : m.exps.length ≤ 1048576 := HM.out.2.2.2.2.2.2.1.2.2
  by_cases hlt : k < m.exps.length
  ·obtain ⟨x, hx⟩ : ∃ x, m.exps[k]? = some x := ⟨_, List.getElem?_eq_getElem hlt⟩
   have hix : x.ix < 4294967296 := (HM.out.2.2.2.2.2.2.1.2.1 x (List.mem_of_getElem? hx)).1
   have HXX := zh hx
   clear hx
   rw [drop_next HXX.out] at HE
   rw [expR_cons] at HE
   obtain ⟨gX, oX, hg, _⟩ := HN.out (by intro e; rw [e] at hlt; simp at hlt)
   subst hg
   have HSL := zh (show Sl W 3 Exp.cs (.slice (some ⟨gX, oX, none⟩) m.exps.length cX) m.exps from by rw [← HV.out]; exact HM.out.2.2.2.2.2.2.1.1)
   have h1 := nm_eq x.nm mainL
   have h2 := nm_eq x.nm initL
   rw [show mainL = [109, 97, 105, 110] from rfl] at h1
   rw [show initL = [105, 110, 105, 116] from rfl] at h2
   by_cases hmn : nmL x.nm = [109, 97, 105, 110]
   ·rw [decide_eq_true hmn] at h1
    rw [if_pos (.inl hmn), show decide (nmL x.nm = mainL) = true from decide_eq_true hmn] at HE
    clear h2 hmn
    go_wp2_with (first | (refine wpList_load_mid rfl 61 _ rfl gX (oX + k * 3) rfl x.cs _ (Gr.sl_range (HSL.out.later HW.out) HXX.out) Tryz.underlying61 rfl sizeExp ?_; (try simp only [Act.put, sA, sB, sC])) | (refine wl_put (Lies.new _ _ _) x.cs _ _ rfl rfl rfl rfl rfl sizeExp (by simp [Exp.cs, Value.oneCell']) (fun w3 hl3 hf3 => ?_); have hb3 : Below wr.heap.size wr w3 := below_put ((Below.refl wr.heap.size wr).alloc (Nat.le_refl _) _) hf3 (Nat.le_refl _); have HB3 := zh (bt HW.out hb3); obtain ⟨Bx, hBx⟩ : ∃ Bx, Bx = wr.heap.size := ⟨_, rfl⟩; rw [← hBx] at hl3 ⊢; have HX3 := zh hl3; have z0 : w3.cell? ⟨Bx, 0, none⟩ = some (.string x.nm) := hl3.cell 0; have z1 : w3.cell? ⟨Bx, 1, none⟩ = some (.int .u8 x.kind.toNat) := hl3.cell 1; have z2 : w3.cell? ⟨Bx, 2, none⟩ = some (.int .u32 x.ix) := hl3.cell 2; clear hl3 hf3 hb3 hBx; (try simp only [Act.put])))
    refine (func_anyI (i := x.ix) HM.out (spx_later HSP.out HB3.out).sp hix rfl).mono ?_
    rintro en w4 ⟨y, rfl, hoy, hty, hb⟩
    have HB4 := zh (bt HB3.out hb)
    have HX4 := zh (HX3.out.below hb HX3.out.lt)
    have HOY := zh hoy
    have HTY := zh hty
    clear hb hoy hty z0 z1 z2
    by_cases hkd : x.kind = 0
    ·have HKD := zh hkd
     clear hkd
     go_wp2_with (first | (refine wl_put (Lies.new _ _ _) y.cs _ _ rfl rfl rfl rfl rfl sizeFt (oneFtO HOY.out) (fun w5 hl5 hf5 => ?_); have hb5 : Below w4.heap.size w4 w5 := below_put ((Below.refl w4.heap.size w4).alloc (Nat.le_refl _) _) hf5 (Nat.le_refl _); have HB5 := zh (bt HB4.out hb5); have HOY5 := zh (HOY.out.later hb5); have HX5 := zh (HX4.out.below hb5 HX4.out.lt); obtain ⟨By, hBy⟩ : ∃ By, By = w4.heap.size := ⟨_, rfl⟩; rw [← hBy] at hl5 ⊢; have HY5 := zh hl5; have y0 : w5.cell? ⟨By, 0, none⟩ = some y.pv := hl5.cell 0; have y1 : w5.cell? ⟨By, 1, none⟩ = some y.rv := hl5.cell 1; have z0 : w5.cell? ⟨Bx, 0, none⟩ = some (.string x.nm) := HX5.out.cell 0; have z1 : w5.cell? ⟨Bx, 1, none⟩ = some (.int .u8 0) := (HX5.out.cell 1).trans (by show some (Value.int .u8 (x.kind.toNat : Int)) = _; rw [HKD.out]; rfl); clear hl5 hf5 hb5 hBy; (try simp only [Act.put])))
     refine (same_any (x := y) (y := ⟨.slice none 0 0, [], .slice none 0 0, []⟩) (fn_ok HM.out HTY.out HOY5.out) ⟨⟨Sl.nil _ _ _ _, fun _ _ => trivial, Nat.zero_le _⟩, ⟨Sl.nil _ _ _ _, fun _ _ => trivial, Nat.zero_le _⟩⟩).mono ?_
     rintro en w6 ⟨rfl, hb⟩
     have HB6 := zh (bt HB5.out hb)
     have HX6 := zh (HX5.out.below hb HX5.out.lt)
     clear hb z0 z1 y0 y1
     have z0 : w6.cell? ⟨Bx, 0, none⟩ = some (.string x.nm) := HX6.out.cell 0
     rw [same_nil HTY.out]
     by_cases hsg : fsig m x.ix = ([], [])
     ·rw [decide_eq_true hsg]
      rw [if_pos ⟨HKD.out, hsg⟩] at HE
      clear hsg
      cases mn with
      | true =>
       go_wp2_with fail
       go_roundw
       case rel => exact ⟨k + 1, _, hlt, by go_num, rfl, HB6.out, HE.out⟩
       case measure => simp [RowKit.intOf]; omega
      | false =>
       go_wp2_with fail
       go_roundw
       case rel => exact ⟨k + 1, _, hlt, by go_num, rfl, HB6.out, HE.out⟩
       case measure => simp [RowKit.intOf]; omega
     ·rw [decide_eq_false hsg]
      rw [if_neg (fun h => hsg h.2)] at HE
      clear hsg
      go_wp2_with fail
      go_ret
      exact ⟨by rw [HE.out]; rfl, HB6.out⟩
    ·have hkn : ¬ (x.kind.toNat : Int) = 0 := fun e => hkd (UInt8.toNat_inj.1 (by have h5 : x.kind.toNat = 0 := (by omega); rw [h5]; rfl))
     have hkb : ((x.kind.toNat : Int) != 0) = true := by simpa using hkn
     rw [if_neg (fun h => hkd h.1)] at HE
     clear hkd
     go_wp2_with (first | (refine wl_put (Lies.new _ _ _) y.cs _ _ rfl rfl rfl rfl rfl sizeFt (oneFtO HOY.out) (fun w5 hl5 hf5 => ?_); have hb5 : Below w4.heap.size w4 w5 := below_put ((Below.refl w4.heap.size w4).alloc (Nat.le_refl _) _) hf5 (Nat.le_refl _); have HB5 := zh (bt HB4.out hb5); have HOY5 := zh (HOY.out.later hb5); have HX5 := zh (HX4.out.below hb5 HX4.out.lt); obtain ⟨By, hBy⟩ : ∃ By, By = w4.heap.size := ⟨_, rfl⟩; rw [← hBy] at hl5 ⊢; have HY5 := zh hl5; have y0 : w5.cell? ⟨By, 0, none⟩ = some y.pv := hl5.cell 0; have y1 : w5.cell? ⟨By, 1, none⟩ = some y.rv := hl5.cell 1; have z0 : w5.cell? ⟨Bx, 0, none⟩ = some (.string x.nm) := HX5.out.cell 0; have z1 : w5.cell? ⟨Bx, 1, none⟩ = some (.int .u8 x.kind.toNat) := HX5.out.cell 1; clear hl5 hf5 hb5 hBy; (try simp only [Act.put])))
     go_ret
     exact ⟨by rw [HE.out]; rfl, HB5.out⟩
   ·rw [decide_eq_false hmn] at h1
    by_cases hin : nmL x.nm = [105, 110, 105, 116]
    ·rw [decide_eq_true hin] at h2
     rw [if_pos (.inr hin), show decide (nmL x.nm = mainL) = false from decide_eq_false hmn] at HE
     clear hmn hin
     go_wp2_with (first | (refine wpList_load_mid rfl 61 _ rfl gX (oX + k * 3) rfl x.cs _ (Gr.sl_range (HSL.out.later HW.out) HXX.out) Tryz.underlying61 rfl sizeExp ?_; (try simp only [Act.put, sA, sB, sC])) | (refine wl_put (Lies.new _ _ _) x.cs _ _ rfl rfl rfl rfl rfl sizeExp (by simp [Exp.cs, Value.oneCell']) (fun w3 hl3 hf3 => ?_); have hb3 : Below wr.heap.size wr w3 := below_put ((Below.refl wr.heap.size wr).alloc (Nat.le_refl _) _) hf3 (Nat.le_refl _); have HB3 := zh (bt HW.out hb3); obtain ⟨Bx, hBx⟩ : ∃ Bx, Bx = wr.heap.size := ⟨_, rfl⟩; rw [← hBx] at hl3 ⊢; have HX3 := zh hl3; have z0 : w3.cell? ⟨Bx, 0, none⟩ = some (.string x.nm) := hl3.cell 0; have z1 : w3.cell? ⟨Bx, 1, none⟩ = some (.int .u8 x.kind.toNat) := hl3.cell 1; have z2 : w3.cell? ⟨Bx, 2, none⟩ = some (.int .u32 x.ix) := hl3.cell 2; clear hl3 hf3 hb3 hBx; (try simp only [Act.put])))
     refine (func_anyI (i := x.ix) HM.out (spx_later HSP.out HB3.out).sp hix rfl).mono ?_
     rintro en w4 ⟨y, rfl, hoy, hty, hb⟩
     have HB4 := zh (bt HB3.out hb)
     have HX4 := zh (HX3.out.below hb HX3.out.lt)
     have HOY := zh hoy
     have HTY := zh hty
     clear hb hoy hty z0 z1 z2
     by_cases hkd : x.kind = 0
     ·have HKD := zh hkd
      clear hkd
      go_wp2_with (first | (refine wl_put (Lies.new _ _ _) y.cs _ _ rfl rfl rfl rfl rfl sizeFt (oneFtO HOY.out) (fun w5 hl5 hf5 => ?_); have hb5 : Below w4.heap.size w4 w5 := below_put ((Below.refl w4.heap.size w4).alloc (Nat.le_refl _) _) hf5 (Nat.le_refl _); have HB5 := zh (bt HB4.out hb5); have HOY5 := zh (HOY.out.later hb5); have HX5 := zh (HX4.out.below hb5 HX4.out.lt); obtain ⟨By, hBy⟩ : ∃ By, By = w4.heap.size := ⟨_, rfl⟩; rw [← hBy] at hl5 ⊢; have HY5 := zh hl5; have y0 : w5.cell? ⟨By, 0, none⟩ = some y.pv := hl5.cell 0; have y1 : w5.cell? ⟨By, 1, none⟩ = some y.rv := hl5.cell 1; have z0 : w5.cell? ⟨Bx, 0, none⟩ = some (.string x.nm) := HX5.out.cell 0; have z1 : w5.cell? ⟨Bx, 1, none⟩ = some (.int .u8 0) := (HX5.out.cell 1).trans (by show some (Value.int .u8 (x.kind.toNat : Int)) = _; rw [HKD.out]; rfl); clear hl5 hf5 hb5 hBy; (try simp only [Act.put])))
      refine (same_any (x := y) (y := ⟨.slice none 0 0, [], .slice none 0 0, []⟩) (fn_ok HM.out HTY.out HOY5.out) ⟨⟨Sl.nil _ _ _ _, fun _ _ => trivial, Nat.zero_le _⟩, ⟨Sl.nil _ _ _ _, fun _ _ => trivial, Nat.zero_le _⟩⟩).mono ?_
      rintro en w6 ⟨rfl, hb⟩
      have HB6 := zh (bt HB5.out hb)
      have HX6 := zh (HX5.out.below hb HX5.out.lt)
      clear hb z0 z1 y0 y1
      have z0 : w6.cell? ⟨Bx, 0, none⟩ = some (.string x.nm) := HX6.out.cell 0
      rw [same_nil HTY.out]
      by_cases hsg : fsig m x.ix = ([], [])
      ·rw [decide_eq_true hsg]
       rw [if_pos ⟨HKD.out, hsg⟩] at HE
       clear hsg
       cases mn with
       | true =>
        go_wp2_with fail
        go_roundw
        case rel => exact ⟨k + 1, _, hlt, by go_num, rfl, HB6.out, HE.out⟩
        case measure => simp [RowKit.intOf]; omega
       | false =>
        go_wp2_with fail
        go_roundw
        case rel => exact ⟨k + 1, _, hlt, by go_num, rfl, HB6.out, HE.out⟩
        case measure => simp [RowKit.intOf]; omega
      ·rw [decide_eq_false hsg]
       rw [if_neg (fun h => hsg h.2)] at HE
       clear hsg
       go_wp2_with fail
       go_ret
       exact ⟨by rw [HE.out]; rfl, HB6.out⟩
     ·have hkn : ¬ (x.kind.toNat : Int) = 0 := fun e => hkd (UInt8.toNat_inj.1 (by have h5 : x.kind.toNat = 0 := (by omega); rw [h5]; rfl))
      have hkb : ((x.kind.toNat : Int) != 0) = true := by simpa using hkn
      rw [if_neg (fun h => hkd h.1)] at HE
      clear hkd
      go_wp2_with (first | (refine wl_put (Lies.new _ _ _) y.cs _ _ rfl rfl rfl rfl rfl sizeFt (oneFtO HOY.out) (fun w5 hl5 hf5 => ?_); have hb5 : Below w4.heap.size w4 w5 := below_put ((Below.refl w4.heap.size w4).alloc (Nat.le_refl _) _) hf5 (Nat.le_refl _); have HB5 := zh (bt HB4.out hb5); have HOY5 := zh (HOY.out.later hb5); have HX5 := zh (HX4.out.below hb5 HX4.out.lt); obtain ⟨By, hBy⟩ : ∃ By, By = w4.heap.size := ⟨_, rfl⟩; rw [← hBy] at hl5 ⊢; have HY5 := zh hl5; have y0 : w5.cell? ⟨By, 0, none⟩ = some y.pv := hl5.cell 0; have y1 : w5.cell? ⟨By, 1, none⟩ = some y.rv := hl5.cell 1; have z0 : w5.cell? ⟨Bx, 0, none⟩ = some (.string x.nm) := HX5.out.cell 0; have z1 : w5.cell? ⟨Bx, 1, none⟩ = some (.int .u8 x.kind.toNat) := HX5.out.cell 1; clear hl5 hf5 hb5 hBy; (try simp only [Act.put])))
      go_ret
      exact ⟨by rw [HE.out]; rfl, HB5.out⟩
    ·rw [decide_eq_false hin] at h2
     rw [if_neg (by rintro (h | h); exact hmn h; exact hin h)] at HE
     clear hmn hin
     go_wp2_with (first | (refine wpList_load_mid rfl 61 _ rfl gX (oX + k * 3) rfl x.cs _ (Gr.sl_range (HSL.out.later HW.out) HXX.out) Tryz.underlying61 rfl sizeExp ?_; (try simp only [Act.put, sA, sB, sC])) | (refine wl_put (Lies.new _ _ _) x.cs _ _ rfl rfl rfl rfl rfl sizeExp (by simp [Exp.cs, Value.oneCell']) (fun w3 hl3 hf3 => ?_); have hb3 : Below wr.heap.size wr w3 := below_put ((Below.refl wr.heap.size wr).alloc (Nat.le_refl _) _) hf3 (Nat.le_refl _); have HB3 := zh (bt HW.out hb3); obtain ⟨Bx, hBx⟩ : ∃ Bx, Bx = wr.heap.size := ⟨_, rfl⟩; rw [← hBx] at hl3 ⊢; have HX3 := zh hl3; have z0 : w3.cell? ⟨Bx, 0, none⟩ = some (.string x.nm) := hl3.cell 0; have z1 : w3.cell? ⟨Bx, 1, none⟩ = some (.int .u8 x.kind.toNat) := hl3.cell 1; have z2 : w3.cell? ⟨Bx, 2, none⟩ = some (.int .u32 x.ix) := hl3.cell 2; clear hl3 hf3 hb3 hBx; (try simp only [Act.put])))
     go_roundw
     case rel => exact ⟨k + 1, mn, hlt, by go_num, rfl, HB3.out, HE.out⟩
     case measure => simp [RowKit.intOf]; omega
  ·obtain rfl : k = m.exps.length := by omega
   go_wp2_with fail
   go_ret
   exact ⟨by rw [HE.out, List.drop_length]; rfl, HW.out⟩
end Go.Proofs.YtmgjcaikldeioaaGreat.Ru
/- rule.imports: are a module's imports offered? -/
namespace Go.Proofs.YtmgjcaikldeioaaGreat.Ru
open Go Go.RowKit Go.Lib Kt Fm Gr Ty Va

def envL : List UInt8 := [101, 110, 118]
def tsig (m : Mod) (i : Nat) : List UInt8 × List UInt8 := match m.types[i]? with | some t => (t.p, t.r) | none => ([], [])
/-- Is it offered so? -/
def impO (m : Mod) (x : Imp) : Bool := decide (x.kind = 0) && (decide (nmL x.mod = envL) && ((hfind (nmL x.nm)).isSome && decide (tsig m x.ty = (hostsT.getD ((hfind (nmL x.nm)).getD 0) ([], [], [])).2)))
theorem tyfn_ok {U w : World} {m : Mod} (hm : ModOk U m) {i : Nat} {y : Ft} (h : TyTold m i y) (ho : FtOwn w y) : FtOk w y := by
 have h1 : (y.p, y.r) = tsig m i := h
 unfold tsig at h1
 cases hf : m.types[i]? with
 | none => rw [hf] at h1; exact ho.ok (by rw [(Prod.mk.inj h1).1]; exact Nat.zero_le _) (by rw [(Prod.mk.inj h1).2]; exact Nat.zero_le _)
 | some t =>
  rw [hf] at h1
  have ht := hm.1.2.1 t (List.mem_of_getElem? hf)
  exact ho.ok (by rw [(Prod.mk.inj h1).1]; exact ht.1.2.2) (by rw [(Prod.mk.inj h1).2]; exact ht.2.2.2)
theorem host_len {L : List Hst} (ht : L.map Hst.tri = hostsT) {u : Hst} (hu : u ∈ L) : u.ft.p.length ≤ Bd ∧ u.ft.r.length ≤ Bd := by
 have h1 : hostsT.all (fun t => decide (t.2.1.length ≤ 16 ∧ t.2.2.length ≤ 16)) = true := by decide +kernel
 have h2 := List.all_eq_true.1 h1 u.tri (by rw [← ht]; exact List.mem_map.2 ⟨u, hu, rfl⟩)
 have h3 := of_decide_eq_true h2
 exact ⟨Nat.le_trans h3.1 (by decide), Nat.le_trans h3.2 (by decide)⟩
theorem imp_same {L : List Hst} (ht : L.map Hst.tri = hostsT) {m : Mod} {x : Imp} {y : Ft} (hy : TyTold m x.ty y) (hk : x.kind = 0) (hm : decide (nmL x.mod = envL) = true) {h : Nat} (hf : hfind (nmL x.nm) = some h) {u : Hst} (hu : L[h]? = some u) : impO m x = same y u.ft := by
 have h1 : (y.p, y.r) = tsig m x.ty := hy
 unfold impO
 rw [hf, hm, ← h1, ← ht]
 have h2 : (L.map Hst.tri).getD h ([], [], []) = u.tri := by rw [List.getD_eq_getElem?_getD, List.getElem?_map, hu]; rfl
 rw [show (some h : Option Nat).getD 0 = h from rfl, h2, hk]
 unfold same Hst.tri
 rw [Bool.eq_iff_iff]
 simp
set_option maxRecDepth 100000 in
set_option maxHeartbeats 16000000 in
theorem imports_any {W : World} {S0 : Nat} {m : Mod} (hm : ModOk W m) (hsp : SpX W S0 m) :
  Calls Tryz.prog 72 #[.agg m.cs.toArray, .pointer (some ⟨S0, 0, none⟩)] W fun e w' => e = .returned (.bool (m.imps.all (impO m))) ∧ Below W.heap.size W w' := by
 have HM := zh hm
 have HSP := zh hsp
 clear hm hsp
 obtain ⟨sX, cX, hX, hnX⟩ := HM.out.2.1.1.form
 have HV := zh hX
 have HN := zh hnX
 clear hX hnX
 go_enter Tryz.func72, Tryz.ntmps72
 go_wp2_with (refine wl_box m.cs _ rfl rfl rfl (fun w1 hb1 hl1 => ?_); have HB1 := zh hb1; have HL1 := zh hl1; clear hb1 hl1; (try simp only [Act.put, sA, sB, sC]))
 refine (hosts_any w1).mono ?_
 rintro en w2 ⟨v, L, rfl, hs, ht, ho, hb⟩
 have hlen : L.length = 16 := by rw [← List.length_map (f := Hst.tri), ht, hostsT_len]
 obtain ⟨s, c, rfl, hf⟩ := hs.form
 obtain ⟨g, off, rfl, _⟩ := hf (by intro e; rw [e] at hlen; cases hlen)
 rw [hlen]
 have HS := zh hs
 have HT := zh ht
 have HO := zh ho
 have HB2 := zh (bt HB1.out hb)
 have x1 : w2.cell? ⟨W.heap.size, 1, none⟩ = some (.slice sX m.imps.length cX) := ((HL1.out.below hb HL1.out.lt).cell 1).trans (congrArg some HV.out)
 clear hs ht ho hb hf
 go_wp2_with fail
 go_loopw [16] (fun iv wr => ∃ k : Nat, k ≤ m.imps.length ∧ iv = .int .i64 k ∧ Below w2.heap.size w2 wr ∧ m.imps.all (impO m) = (m.imps.drop k).all (impO m)) (fun iv _ => m.imps.length - (RowKit.intOf iv).toNat)
 case atStart => exact ⟨0, Nat.zero_le _, rfl, Below.refl _ _, rfl⟩
 case round =>
  obtain ⟨k, hk, rfl, hw, he⟩ := hrel
  have HW2 := zh hw
  have HW := zh (bt HB2.out hw)
  have HE := zh he
  clear hw he
  have hBnd : m.imps.length ≤ 1048576 := HM.out.2.1.2.2
  by_cases hlt : k < m.imps.length
  ·obtain ⟨x, hx⟩ : ∃ x, m.imps[k]? = some x := ⟨_, List.getElem?_eq_getElem hlt⟩
   have hty0 : x.ty < 4294967296 := (HM.out.2.1.2.1 x (List.mem_of_getElem? hx)).1
   have HXX := zh hx
   clear hx
   rw [drop_next HXX.out, List.all_cons] at HE
   obtain ⟨gX, oX, hg, _⟩ := HN.out (by intro e; rw [e] at hlt; simp at hlt)
   subst hg
   have HSL := zh (show Sl W 8 Imp.cs (.slice (some ⟨gX, oX, none⟩) m.imps.length cX) m.imps from by rw [← HV.out]; exact HM.out.2.1.1)
   go_wp2_with (first | (refine wpList_load_mid rfl 88 _ rfl gX (oX + k * 8) rfl x.cs _ (Gr.sl_range (HSL.out.later HW.out) HXX.out) Tryz.underlying88 rfl sizeImp ?_; (try simp only [Act.put, sA, sB, sC])) | (refine wl_put (Lies.new _ _ _) x.cs _ _ rfl rfl rfl rfl rfl sizeImp (oneImp x) (fun w3 hl3 hf3 => ?_); have hb3 : Below wr.heap.size wr w3 := below_put ((Below.refl wr.heap.size wr).alloc (Nat.le_refl _) _) hf3 (Nat.le_refl _); have HB3 := zh (bt HW.out hb3); have HC3 := zh (bt HW2.out hb3); obtain ⟨Bx, hBx⟩ : ∃ Bx, Bx = wr.heap.size := ⟨_, rfl⟩; rw [← hBx] at hl3 ⊢; have HX3 := zh hl3; have z1 : w3.cell? ⟨Bx, 1, none⟩ = some (.string x.nm) := hl3.cell 1; clear hl3 hf3 hb3 hBx; (try simp only [Act.put])))
   refine (find_any x.nm w3).mono ?_
   rintro en w4 ⟨rfl, hb⟩
   have HB4 := zh (bt HB3.out hb)
   have HX4 := zh (HX3.out.below hb HX3.out.lt)
   have HC4 := zh (bt HC3.out hb)
   clear hb z1
   have z3 : w4.cell? ⟨Bx, 3, none⟩ = some (.int .u32 x.ty) := HX4.out.cell 3
   go_wp2_with fail
   refine (type_any (i := x.ty) HM.out (spx_later HSP.out HB4.out).sp hty0).mono ?_
   rintro en w5 ⟨y, rfl, hoy, hty, hb, _⟩
   have HB5 := zh (bt HB4.out hb)
   have HC5 := zh (bt HC4.out hb)
   have HX5 := zh (HX4.out.below hb HX4.out.lt)
   have HOY := zh hoy
   have HTY := zh hty
   clear hb hoy hty z3
   go_upto_region 7 with (first | (refine wl_put (Lies.new _ _ _) y.cs _ _ rfl rfl rfl rfl rfl sizeFt (oneFtO HOY.out) (fun w6 hl6 hf6 => ?_); have hb6 : Below w5.heap.size w5 w6 := below_put ((Below.refl w5.heap.size w5).alloc (Nat.le_refl _) _) hf6 (Nat.le_refl _); have HB6 := zh (bt HB5.out hb6); have HC6 := zh (bt HC5.out hb6); have HOY6 := zh (HOY.out.later hb6); have HX6 := zh (HX5.out.below hb6 HX5.out.lt); obtain ⟨By, hBy⟩ : ∃ By, By = w5.heap.size := ⟨_, rfl⟩; rw [← hBy] at hl6 ⊢; have HY6 := zh hl6; clear hl6 hf6 hb6 hBy; (try simp only [Act.put])))
   have zk : w6.cell? ⟨Bx, 2, none⟩ = some (.int .u8 x.kind.toNat) := HX6.out.cell 2
   have zm : w6.cell? ⟨Bx, 0, none⟩ = some (.string x.mod) := HX6.out.cell 0
   have y0 : w6.cell? ⟨By, 0, none⟩ = some y.pv := HY6.out.cell 0
   have y1 : w6.cell? ⟨By, 1, none⟩ = some y.rv := HY6.out.cell 1
   have hen := nm_eq x.mod envL
   rw [show envL = [101, 110, 118] from rfl] at hen
   by_cases hkd : x.kind = 0
   ·have HKD := zh hkd
    have zk0 : w6.cell? ⟨Bx, 2, none⟩ = some (.int .u8 0) := by rw [zk, hkd]; rfl
    clear zk hkd
    by_cases hmd : nmL x.mod = [101, 110, 118]
    ·rw [decide_eq_true hmd] at hen
     have HMD := zh (show decide (nmL x.mod = envL) = true from decide_eq_true hmd)
     clear hmd
     obtain ⟨f, hf⟩ : ∃ f, f = hfind (nmL x.nm) := ⟨_, rfl⟩
     rw [← hf]
     have HF := zh hf
     clear hf
     cases f with
     | none =>
      refine wp_region_b [(0, true), (1, true), (2, true), (3, true), (4, true), (5, true), (6, true), (7, true), (8, true), (9, true), (10, true), (11, true), (12, true), (13, true), (14, true), (15, true), (16, true), (17, true), (18, true), (19, false), (20, true), (21, true)] (by kernel_rfl) (by kernel_rfl) (fun _ _ d _ _ h => by cases d <;> exact h) ?_
      intro V0 hbV0
      replace zk0 := keepc hbV0 zk0
      replace zm := keepc hbV0 zm
      have hS0 : Below V0.heap.size V0 V0 := Below.refl _ _
      have HV0 := zh (bt HB6.out hbV0)
      repeat (first | (refine hs_take (v := ?_) rfl rfl (fun w' hw' => ?_) ?_; rotate_left; (focus (have q0 := keepc hw' zk0; have q1 := keepc hw' zm; clear hw'; (try simp only [Act.put, sA, sB, sC]); go_simp; (try go_bits); (try (with_reducible rfl)))); (try simp only [Act.put, sA, sB, sC])) | (refine hs_skip rfl rfl ?_; (try simp only [Act.put, sA, sB, sC])))
      refine hs_pass rfl rfl hS0 ?_
      have hS1 := hS0
      (try simp only [Act.put, sA, sB, sC])
      repeat (first | (refine hs_take (v := ?_) rfl rfl (fun w' hw' => ?_) ?_; rotate_left; (focus (have q0 := keepc hw' zk0; have q1 := keepc hw' zm; clear hw'; (try simp only [Act.put, sA, sB, sC]); go_simp; (try go_bits); (try (with_reducible rfl)))); (try simp only [Act.put, sA, sB, sC])) | (refine hs_skip rfl rfl ?_; (try simp only [Act.put, sA, sB, sC])))
      refine hs_done ?_
      go_wp2_with fail
      go_ret
      exact ⟨by rw [HE.out]; unfold impO; rw [← HF.out]; simp, HV0.out⟩
     | some h =>
      have hh : h < 16 := hfind_lt HF.out.symm
      have hh2 : (h : Int) < 16 := by omega
      obtain ⟨u, hu⟩ : ∃ u, L[h]? = some u := ⟨_, List.getElem?_eq_getElem (by omega)⟩
      have HU := zh hu
      have xh1 : w6.cell? ⟨g, off + h * 3 + 1, none⟩ = some u.ft.pv := (HS.out.later HC6.out).cell hu (j := 1) rfl
      have xh2 : w6.cell? ⟨g, off + h * 3 + 2, none⟩ = some u.ft.rv := (HS.out.later HC6.out).cell hu (j := 2) rfl
      clear hu
      refine wp_region_b [(0, true), (1, true), (2, true), (3, true), (4, true), (5, true), (6, true), (7, true), (8, true), (9, true), (10, true), (11, true), (12, true), (13, true), (14, true), (15, true), (16, true), (17, true), (18, true), (19, false), (20, true), (21, true)] (by kernel_rfl) (by kernel_rfl) (fun _ _ d _ _ h => by cases d <;> exact h) ?_
      intro V0 hbV0
      replace zk0 := keepc hbV0 zk0
      replace zm := keepc hbV0 zm
      replace y0 := keepc hbV0 y0
      replace y1 := keepc hbV0 y1
      replace xh1 := keepc hbV0 xh1
      replace xh2 := keepc hbV0 xh2
      have hS0 : Below V0.heap.size V0 V0 := Below.refl _ _
      have HV0 := zh (bt HB6.out hbV0)
      repeat (first | (refine hs_take (v := ?_) rfl rfl (fun w' hw' => ?_) ?_; rotate_left; (focus (have q0 := keepc hw' zk0; have q1 := keepc hw' zm; have q2 := keepc hw' y0; have q3 := keepc hw' y1; have q4 := keepc hw' xh1; have q5 := keepc hw' xh2; clear hw'; (try simp only [Act.put, sA, sB, sC]); go_simp; (try go_bits); (try (with_reducible rfl)))); (try simp only [Act.put, sA, sB, sC])) | (refine hs_skip rfl rfl ?_; (try simp only [Act.put, sA, sB, sC])))
      refine hs_run rfl (fun K hK => ?_)
      go_simp
      refine (same_any (x := y) (y := u.ft) ((tyfn_ok HM.out HTY.out HOY6.out).later (bt hbV0 hS0)) ((FtOwn.ok (HO.out u (List.mem_of_getElem? HU.out)) (host_len HT.out (List.mem_of_getElem? HU.out)).1 (host_len HT.out (List.mem_of_getElem? HU.out)).2).later (bt (bt HC6.out hbV0) hS0))).mono ?_
      rintro en V01 ⟨rfl, hB1⟩
      have hS1 := bt hS0 hB1
      clear hB1 hS0
      refine hK.out _ _ hS1 ?_
      clear hK K
      (try simp only [Act.put, sA, sB, sC])
      repeat (first | (refine hs_take (v := ?_) rfl rfl (fun w' hw' => ?_) ?_; rotate_left; (focus (have q0 := keepc hw' zk0; have q1 := keepc hw' zm; have q2 := keepc hw' y0; have q3 := keepc hw' y1; have q4 := keepc hw' xh1; have q5 := keepc hw' xh2; clear hw'; (try simp only [Act.put, sA, sB, sC]); go_simp; (try go_bits); (try (with_reducible rfl)))); (try simp only [Act.put, sA, sB, sC])) | (refine hs_skip rfl rfl ?_; (try simp only [Act.put, sA, sB, sC])))
      refine hs_done ?_
      have HSM := zh (imp_same HT.out HTY.out HKD.out HMD.out HF.out.symm HU.out)
      have HC7 := zh (bt (bt HC6.out hbV0) hS1)
      have HB7 := zh (bt HV0.out hS1)
      clear zk0 zm y0 y1 xh1 xh2 hbV0 hS1
      obtain ⟨b, hb⟩ : ∃ b, b = same y u.ft := ⟨_, rfl⟩
      rw [← hb] at HSM ⊢
      clear hb
      cases b with
      | true =>
       go_wp2_with fail
       go_roundw
       case rel => exact ⟨k + 1, hlt, by go_num, HC7.out, by rw [HE.out, HSM.out]; rfl⟩
       case measure => simp [RowKit.intOf]; omega
      | false =>
       go_wp2_with fail
       go_ret
       exact ⟨by rw [HE.out, HSM.out]; rfl, HB7.out⟩
    ·rw [decide_eq_false hmd] at hen
     have HMD := zh (show decide (nmL x.mod = envL) = false from decide_eq_false hmd)
     clear hmd
     obtain ⟨f, hf⟩ : ∃ f, f = hfind (nmL x.nm) := ⟨_, rfl⟩
     rw [← hf]
     clear hf
     refine wp_region_b [(0, true), (1, true), (2, true), (3, true), (4, true), (5, true), (6, true), (7, true), (8, true), (9, true), (10, true), (11, true), (12, true), (13, true), (14, true), (15, true), (16, true), (17, true), (18, true), (19, false), (20, true), (21, true)] (by kernel_rfl) (by kernel_rfl) (fun _ _ d _ _ h => by cases d <;> exact h) ?_
     intro V0 hbV0
     replace zk0 := keepc hbV0 zk0
     replace zm := keepc hbV0 zm
     have hS0 : Below V0.heap.size V0 V0 := Below.refl _ _
     have HV0 := zh (bt HB6.out hbV0)
     repeat (first | (refine hs_take (v := ?_) rfl rfl (fun w' hw' => ?_) ?_; rotate_left; (focus (have q0 := keepc hw' zk0; have q1 := keepc hw' zm; clear hw'; (try simp only [Act.put, sA, sB, sC]); go_simp; (try go_bits); (try (with_reducible rfl)))); (try simp only [Act.put, sA, sB, sC])) | (refine hs_skip rfl rfl ?_; (try simp only [Act.put, sA, sB, sC])))
     refine hs_pass rfl rfl hS0 ?_
     have hS1 := hS0
     (try simp only [Act.put, sA, sB, sC])
     repeat (first | (refine hs_take (v := ?_) rfl rfl (fun w' hw' => ?_) ?_; rotate_left; (focus (have q0 := keepc hw' zk0; have q1 := keepc hw' zm; clear hw'; (try simp only [Act.put, sA, sB, sC]); go_simp; (try go_bits); (try (with_reducible rfl)))); (try simp only [Act.put, sA, sB, sC])) | (refine hs_skip rfl rfl ?_; (try simp only [Act.put, sA, sB, sC])))
     refine hs_done ?_
     go_wp2_with fail
     go_ret
     exact ⟨by rw [HE.out]; unfold impO; rw [HMD.out]; simp, HV0.out⟩
   ·have hkn : ¬ (x.kind.toNat : Int) = 0 := fun e => hkd (UInt8.toNat_inj.1 (by have h5 : x.kind.toNat = 0 := (by omega); rw [h5]; rfl))
    have hkb : ((x.kind.toNat : Int) != 0) = true := by simpa using hkn
    have HKD := zh (decide_eq_false hkd)
    clear hkd
    obtain ⟨f, hf⟩ : ∃ f, f = hfind (nmL x.nm) := ⟨_, rfl⟩
    rw [← hf]
    clear hf
    refine wp_region_b [(0, true), (1, true), (2, true), (3, true), (4, true), (5, true), (6, true), (7, true), (8, true), (9, true), (10, true), (11, true), (12, true), (13, true), (14, true), (15, true), (16, true), (17, true), (18, true), (19, false), (20, true), (21, true)] (by kernel_rfl) (by kernel_rfl) (fun _ _ d _ _ h => by cases d <;> exact h) ?_
    intro V0 hbV0
    replace zk := keepc hbV0 zk
    have hS0 : Below V0.heap.size V0 V0 := Below.refl _ _
    have HV0 := zh (bt HB6.out hbV0)
    repeat (first | (refine hs_take (v := ?_) rfl rfl (fun w' hw' => ?_) ?_; rotate_left; (focus (have q0 := keepc hw' zk; clear hw'; (try simp only [Act.put, sA, sB, sC]); go_simp; (try go_bits); (try (with_reducible rfl)))); (try simp only [Act.put, sA, sB, sC])) | (refine hs_skip rfl rfl ?_; (try simp only [Act.put, sA, sB, sC])))
    refine hs_pass rfl rfl hS0 ?_
    have hS1 := hS0
    (try simp only [Act.put, sA, sB, sC])
    repeat (first | (refine hs_take (v := ?_) rfl rfl (fun w' hw' => ?_) ?_; rotate_left; (focus (have q0 := keepc hw' zk; clear hw'; (try simp only [Act.put, sA, sB, sC]); go_simp; (try go_bits); (try (with_reducible rfl)))); (try simp only [Act.put, sA, sB, sC])) | (refine hs_skip rfl rfl ?_; (try simp only [Act.put, sA, sB, sC])))
    refine hs_done ?_
    go_wp2_with fail
    go_ret
    exact ⟨by rw [HE.out]; unfold impO; rw [HKD.out]; simp, HV0.out⟩
  ·obtain rfl : k = m.imps.length := by omega
   go_wp2_with fail
   go_ret
   exact ⟨by rw [HE.out, List.drop_length]; rfl, HW.out⟩
end Go.Proofs.YtmgjcaikldeioaaGreat.Ru
/- rule.Check: may a module be deployed? -/
namespace Go.Proofs.YtmgjcaikldeioaaGreat.Ru
open Go Go.RowKit Go.Lib Kt Fm Gr Ty Va

/-- What rule.Check tells. -/
def rchk (m : Mod) : Nat := if (vchk m).2 ≠ 0 then (vchk m).2 else if sizeS m (vchk m).1 = false then 122 else if m.imps.all (impO m) = false then 120 else if expR m m.exps false = false then 121 else 0
set_option maxRecDepth 100000 in
set_option maxHeartbeats 8000000 in
theorem rcheck_any {W : World} {m : Mod} (hm : ModOk W m) :
  Calls Tryz.prog 26 #[.agg m.cs.toArray] W fun e w' => e = .returned (.int .i64 (rchk m : Nat)) ∧ Below W.heap.size W w' := by
 have HM := zh hm
 clear hm
 go_enter Tryz.func26, Tryz.ntmps26
 go_wp2_with (first | (refine wl_box m.cs _ rfl rfl rfl (fun w1 hb1 hl1 => ?_); have HB1 := zh hb1; have HL1 := zh hl1; obtain ⟨Bm, hBm⟩ : ∃ Bm, Bm = W.heap.size := ⟨_, rfl⟩; rw [← hBm] at HL1 ⊢; clear hBm hb1 hl1; (try simp only [Act.put, sA, sB, sC])) | (refine wpList_load_mid rfl 33 _ rfl Bm 0 rfl m.cs _ (lies_range HL1.out) Tryz.underlying33 rfl sizeMod ?_; (try simp only [Act.put, sA, sB, sC])))
 refine (vcheck_any (HM.out.later HB1.out)).mono ?_
 rintro en w2 ⟨v, rfl, hv, hb⟩
 have HB2 := zh (bt HB1.out hb)
 have HL2 := zh (HL1.out.below hb HL1.out.lt)
 have HV := zh hv
 obtain ⟨s, c, hvs, _⟩ := hv.form
 clear hb hv
 have HR := zh (show rchk m = if (vchk m).2 ≠ 0 then (vchk m).2 else if sizeS m (vchk m).1 = false then 122 else if m.imps.all (impO m) = false then 120 else if expR m m.exps false = false then 121 else 0 from rfl)
 have HSD := zh (fun h : (vchk m).2 = 0 => (sound_of h).len)
 obtain ⟨ev, hev⟩ : ∃ ev, ev = (vchk m).2 := ⟨_, rfl⟩
 rw [← hev] at HR HSD ⊢
 clear hev
 obtain ⟨H, hH⟩ : ∃ H, H = (vchk m).1 := ⟨_, rfl⟩
 rw [← hH] at HR HSD HV hvs
 clear hH
 by_cases he : ev = 0
 ·subst he
  rw [if_neg (by decide)] at HR
  have HLN := zh (HSD.out rfl)
  have HVS := zh hvs
  clear hvs
  go_wp2_with (refine wpList_load_mid rfl 33 _ rfl Bm 0 rfl m.cs _ (lies_range HL2.out) Tryz.underlying33 rfl sizeMod ?_; (try simp only [Act.put, sA, sB, sC]))
  refine (sofX_any (HM.out.later HB2.out)).mono ?_
  rintro en w3 ⟨S0, rfl, hsp, _, hb⟩
  have HB3 := zh (bt HB2.out hb)
  have HL3 := zh (HL2.out.below hb HL2.out.lt)
  have HV3 := zh (HV.out.later hb)
  have HSP := zh hsp
  clear hb hsp
  go_wp2_with (refine wpList_load_mid rfl 33 _ rfl Bm 0 rfl m.cs _ (lies_range HL3.out) Tryz.underlying33 rfl sizeMod ?_; (try simp only [Act.put, sA, sB, sC]))
  refine (sizes_any (HM.out.later HB3.out) HSP.out HV3.out HLN.out).mono ?_
  rintro en w4 ⟨rfl, hb⟩
  have HB4 := zh (bt HB3.out hb)
  have HL4 := zh (HL3.out.below hb HL3.out.lt)
  have HSP4 := zh (spx_later HSP.out hb)
  clear hb
  generalize sizeS m H = sz at HR ⊢
  cases sz with
  | false =>
   rw [if_pos rfl] at HR
   go_wp2_with fail
   go_ret
   exact ⟨by rw [HR.out]; rfl, HB4.out⟩
  | true =>
   rw [if_neg (by decide)] at HR
   go_wp2_with (refine wpList_load_mid rfl 33 _ rfl Bm 0 rfl m.cs _ (lies_range HL4.out) Tryz.underlying33 rfl sizeMod ?_; (try simp only [Act.put, sA, sB, sC]))
   refine (imports_any (HM.out.later HB4.out) HSP4.out).mono ?_
   rintro en w5 ⟨rfl, hb⟩
   have HB5 := zh (bt HB4.out hb)
   have HL5 := zh (HL4.out.below hb HL4.out.lt)
   have HSP5 := zh (spx_later HSP4.out hb)
   clear hb
   generalize m.imps.all (impO m) = im at HR ⊢
   cases im with
   | false =>
    rw [if_pos rfl] at HR
    go_wp2_with fail
    go_ret
    exact ⟨by rw [HR.out]; rfl, HB5.out⟩
   | true =>
    rw [if_neg (by decide)] at HR
    go_wp2_with (refine wpList_load_mid rfl 33 _ rfl Bm 0 rfl m.cs _ (lies_range HL5.out) Tryz.underlying33 rfl sizeMod ?_; (try simp only [Act.put, sA, sB, sC]))
    refine (exports_any (HM.out.later HB5.out) HSP5.out).mono ?_
    rintro en w6 ⟨rfl, hb⟩
    have HB6 := zh (bt HB5.out hb)
    clear hb
    generalize expR m m.exps false = ex at HR ⊢
    cases ex with
    | false =>
     rw [if_pos rfl] at HR
     go_wp2_with fail
     go_ret
     exact ⟨by rw [HR.out]; rfl, HB6.out⟩
    | true =>
     rw [if_neg (by decide)] at HR
     go_wp2_with fail
     go_ret
     exact ⟨by rw [HR.out]; rfl, HB6.out⟩
 ·rw [if_pos he] at HR
  have h01 : ¬ (ev : Int) = 0 := by omega
  have h02 : ((ev : Int) != 0) = true := by simpa using he
  subst hvs
  clear he
  go_wp2_with fail
  go_ret
  exact ⟨by rw [HR.out]; rfl, HB2.out⟩
end Go.Proofs.YtmgjcaikldeioaaGreat.Ru
