/- slices.Backward at bytes; the stack's left, Want, Close. -/
import Derived.Test.YtmgjcaikldeioaaGreatXTt
import Derived.Test.YtmgjcaikldeioaaGreatXSq
import Derived.RangeFuncBound
import Derived.RangeFuncLeaves
import Derived.OwnWalkIn
import Derived.TacticsInMore
import Derived.LoopNIn
import Derived.LoopIn
import Derived.Shelf.Abstract
namespace Go.Proofs.YtmgjcaikldeioaaGreat.Ty
open Go Go.RowKit Go.Lib Go.Shelf Kt Fm Gr
attribute [local go_sem] Oper.semAt_some

/-- Blocks of cells but some stay. -/
def KeepC (M : Nat → Prop) (A B : World) : Prop := ∀ b cs t f, ¬ M b → A.heap[b]? = some (.cells cs t f) → B.heap[b]? = some (.cells cs t f)
theorem KeepC.refl (M : Nat → Prop) (A : World) : KeepC M A A := fun _ _ _ _ _ h => h
theorem KeepC.trans {M : Nat → Prop} {A B C : World} (h : KeepC M A B) (k : KeepC M B C) : KeepC M A C := fun b cs t f hm ha => k b cs t f hm (h b cs t f hm ha)
theorem KeepC.below {M : Nat → Prop} {A B : World} (h : Below A.heap.size A B) : KeepC M A B := fun b _ _ _ _ ha => (h.block b (Array.getElem?_eq_some_iff.1 ha).1).trans ha
theorem KeepC.cell {M : Nat → Prop} {A B : World} (h : KeepC M A B) {p : Addr} {v : Value} (hp : ¬ M p.block) (hc : A.cell? p = some v) : B.cell? p = some v := by
 obtain ⟨b, o, s⟩ := p
 have hs := World.cell?_spot hc
 simp only at hs
 subst hs
 cases hb : A.heap[b]? with
 | none => simp [World.cell?, hb] at hc
 | some ob =>
  cases ob with
  | cells cs t f =>
   have := h b cs t f hp hb
   simp only [World.cell?, this]
   simp only [World.cell?, hb] at hc
   exact hc
  | _ => simp [World.cell?, hb] at hc
theorem KeepC.lies {M : Nat → Prop} {A B : World} (h : KeepC M A B) {b : Nat} {t : TypeId} {cs : Array Value} (hm : ¬ M b) (hl : Lies A b t cs) : Lies B b t cs := h b cs t _ hm hl
theorem KeepC.put {M : Nat → Prop} {A : World} {l : Nat} {o : Obj} (o' : Obj) (ho : A.heap[l]? = some o) (hc : o.isCells = false) : KeepC M A (A.putObj l o') := fun b cs t f _ hb => by
 have hne : b ≠ l := fun e => by
  subst e
  rw [hb] at ho
  cases ho
  simp [Obj.isCells] at hc
 simp only [World.putObj, Array.getElem?_setIfInBounds]
 rw [if_neg (fun e => hne e.symm)]
 exact hb
theorem KeepC.fr {M m : Nat → Prop} {A B : World} (h : Fr A B m) (hm : ∀ k, m k → M k) : KeepC M A B := fun b _ _ _ hn ha => (h.block b (Array.getElem?_eq_some_iff.1 ha).1 (fun e => hn (hm b e))).trans ha

abbrev Bk := Int × UInt8
theorem eBack : ∀ args w, (callFunc 132 args).run Tryz.prog w = .ok (.enter 132 args) w := enters_of Tryz.func132 (by kernel_rfl) rfl
/-- Where bytes stand that a slice shows. -/
def InB (M : Nat → Prop) (v : Value) : Prop := ∀ g off n c, v = .slice (some ⟨g, off, none⟩) n c → ¬ M g
theorem KeepC.sl {M : Nat → Prop} {A B : World} (h : KeepC M A B) {v : Value} {L : Bts} (hv : L ≠ [] → InB M v) (hs : Sl A 1 u8c v L) : Sl B 1 u8c v L := by
 obtain ⟨s, cap, rfl, hs⟩ := hs
 refine ⟨s, cap, rfl, fun hne => ?_⟩
 obtain ⟨g, off, rfl, h1, h2⟩ := hs hne
 have hg := hv hne g off _ _ rfl
 have hcell : ∀ i x, L[i]? = some x → ∀ j c, (u8c x)[j]? = some c → B.cell? ⟨g, off + i * 1 + j, none⟩ = some c := fun i x hi j c hj => h.cell hg (h2 i x hi j c hj)
 obtain ⟨x0, hx0⟩ : ∃ x, L[0]? = some x := ⟨_, List.getElem?_eq_getElem (List.length_pos_iff.2 hne)⟩
 exact ⟨g, off, rfl, World.block_lt_of_cell? B _ (hcell 0 x0 hx0 0 _ rfl), hcell⟩
set_option maxRecDepth 100000 in
set_option maxHeartbeats 4000000 in
theorem back_off (n : Nat) (hn : 1 ≤ n) (p1 : Nat) {w : World} {v : Value} {L : Bts} {M : Nat → Prop} (h1 : Lies w p1 49 #[v]) (hm1 : ¬ M p1) (hs : Sl w 1 u8c v L) (hv : L ≠ [] → InB M v) (hN : L.length ≤ 4194304) :
  SeqOff Fence.wide n Tryz.prog 132 #[.pointer (some ⟨p1, 0, none⟩)] (fun x : Bk => #[.int .i64 x.1, .int .u8 x.2.toNat]) (fun pre x _ => L.reverse[pre.length]? = some x.2) (KeepC M) (fun xs => xs.map (·.2) = L.reverse) w := fun l J Jx W hW hJ hJx hY h0 => by
 have HL1 := zh (h1.below hW h1.lt)
 have HS1 := zh (hs.later hW)
 obtain ⟨sv, cv, rfl, hsv⟩ := hs.form
 have HJ := zh hJ
 have HY := zh hY
 have H0 := zh h0
 have hc0 : W.cell? ⟨p1, 0, none⟩ = some (.slice sv L.length cv) := HL1.out.cell 0
 clear hJ hJx hY h0 hW h1 hs
 refine callsIn_of_wp Tryz.func132 rfl trivial ?_ rfl
 simp only [Tryz.ntmps132, List.size_toArray, List.length_cons, List.length_nil, Nat.reduceAdd, Nat.reduceSub, Array.replicate_succ, Array.replicate_zero, List.push_toArray, List.append_toArray, List.nil_append, List.cons_append]
 gi_wp2
 clear hc0
 gi_loopw [3] (fun i wr => ∃ (k : Nat) (pre : List Bk), k ≤ L.length ∧ i = .int .i64 ((k : Int) - 1) ∧ pre.length = L.length - k ∧ pre.map (·.2) = L.reverse.take pre.length ∧ Lies wr p1 49 #[.slice sv L.length cv] ∧ Sl wr 1 u8c (.slice sv L.length cv) L ∧ J pre wr)
  (fun i _ => (RowKit.intOf i + 1).toNat)
 case atStart => exact ⟨L.length, [], Nat.le_refl _, rfl, by simp, rfl, HL1.out, HS1.out, H0.out⟩
 case round =>
  clear HL1 HS1 H0
  obtain ⟨k, pre, hk, rfl, hpl, hpm, hl1, hs1, hj⟩ := hrel
  have HL1 := zh hl1
  have HS1 := zh hs1
  have HJ1 := zh hj
  have HPM := zh hpm
  clear hl1 hs1 hj hpm
  by_cases hlt : 0 < k
  ·obtain ⟨q, rfl⟩ : ∃ q, k = q + 1 := ⟨k - 1, by omega⟩
   obtain ⟨x, hx⟩ : ∃ x, L[q]? = some x := ⟨_, List.getElem?_eq_getElem (by omega)⟩
   have hrx : L.reverse[pre.length]? = some x := by
    rw [List.getElem?_reverse (by omega), hpl, show L.length - 1 - (L.length - (q + 1)) = q by omega]
    exact hx
   obtain ⟨g, off, rfl, _⟩ := hsv (by intro e; rw [e] at hx; simp at hx)
   have hcx := HS1.out.cell hx (j := 0) rfl
   rw [Nat.mul_one, Nat.add_zero] at hcx
   have hc0 : wr.cell? ⟨p1, 0, none⟩ = some (.slice (some ⟨g, off, none⟩) L.length cv) := HL1.out.cell 0
   have hq1 : (((q + 1 : Nat) : Int) - 1) = (q : Int) := by omega
   have hql : q < L.length := by omega
   rw [hq1]
   obtain ⟨fn, tmps, assign, body, hy, hR⟩ := HY.out pre ((q : Int), x) wr HJ1.out hrx
   dsimp only at hy
   have HRX := zh hrx
   clear hx hrx HJ1 HY hq1 hk hlt
   gi_wp2
   refine hR.mono ?_
   rintro e W3 (⟨rfl, hJ4, hk3⟩ | ⟨rfl, hJ4⟩)
   ·gi_wp2
    go_roundw
    case rel => exact ⟨q, pre ++ [((q : Int), x)], by omega, rfl, by rw [List.length_append, hpl]; simp; omega, by
     rw [List.map_append, HPM.out, List.length_append, List.length_singleton, List.take_add_one, HRX.out]; rfl, hk3.lies hm1 HL1.out, hk3.sl hv HS1.out, hJ4⟩
    case measure => simp [RowKit.intOf]
   ·gi_wp2
    refine bodyPost_ret (results_none rfl _ _ _) rfl ?_
    exact ⟨⟨_, rfl⟩, .inr ⟨_, hJ4⟩⟩
  ·obtain rfl : k = 0 := by omega
   gi_wp2
   go_end0
   exact ⟨⟨_, rfl⟩, .inl ⟨pre, by rw [HPM.out, List.take_of_length_le (by rw [List.length_reverse]; omega)], HJ1.out⟩⟩
set_option maxRecDepth 100000 in
theorem backward_any {W : World} {s : Option Addr} {n c : Nat} : Calls Tryz.prog 127 #[.slice s n c] W fun e w' => e = .returned (.func (.func 132) #[] #[.pointer (some ⟨W.heap.size, 0, none⟩)]) ∧ Lies w' W.heap.size 49 #[.slice s n c] ∧ Below W.heap.size W w' := by
 go_enter Tryz.func127, Tryz.ntmps127
 go_wp2_with fail
 go_ret
 exact ⟨rfl, Lies.new _ _ _, (Below.refl _ _).alloc (Nat.le_refl _) _⟩
theorem results_cell1 {P : Program} {fn : Func} {p : Tmp} {ty : TypeId} (h : fn.results = #[.cell p ty]) (tmps : Array Value) (w : World) (g : Nat) (v : Value) (hp : tmps.getD p undef = .pointer (some ⟨g, 0, none⟩)) (hl : (loadVar ty ⟨g, 0, none⟩).run P w = .ok v w) :
  (results fn tmps).run P w = .ok v w := by
 have hp' : tmps[p]?.getD undef = .pointer (some ⟨g, 0, none⟩) := by simpa using hp
 simp [results, h, hp', asAddr, hl]
/-- A region along a plan that does not panic, in a round. -/
def Calm (Q : Exit → Act → World → Prop) : Exit → Act → World → Prop := fun e a w => e = .normal ∧ Q .normal a w
theorem regionR {P : Program} {n : Nat} {ops : Array Oper} {Q : Exit → Act → World → Prop} {l : Nat} {id : Nat} {a : Act} {w : World} (p : RP) (S : World → Prop) (hm : P.follows .mixedOrders = true)
  (hok : (Region.noSelect ops && (p.ok ops (Array.replicate ops.size false) && decide (p.size ≤ ops.size))) = true) (hd : noDefer ops = true) (hS : S w.drew) (h : S w.drew → p.go P ops (Calm Q) S a w.drew) : (Code.region id ops true).wpIn (Fence.wide.inRound l) n P Q a w :=
 wpIn_mono (RP.region_round (Q := Calm Q) p S hm hok hd (fun h => by obtain ⟨a, w, h⟩ := h; cases h.1) (fun _ _ _ _ _ h => by cases h.1) hS h) (fun e a w h => by obtain ⟨rfl, h⟩ := h; exact h)
theorem below_putObj {W A : World} {B l : Nat} {o : Obj} (h : Below B W A) (hl : B ≤ l) : Below B W (A.putObj l o) := by
 refine ⟨h.os, h.tape, h.output, ?_, fun k hk => ?_⟩
 ·have := h.size
  simp only [World.putObj, Array.size_setIfInBounds]
  exact this
 ·simp only [World.putObj, Array.getElem?_setIfInBounds]
  rw [if_neg (by omega)]
  exact h.block k hk
/-- Between the rounds. -/
structure Lf (W w5 : World) (R B6 : Nat) (l : Bts) (f : Frm) (ts : Bts) (pre : List Bk) (Wi : World) : Prop where
 hpre : pre.map (·.2) = ts.reverse.take pre.length
 low : Below W.heap.size W Wi
 keep : KeepC (fun k => k = B6 ∨ k = R) w5 Wi
structure Lg (W w5 : World) (R B6 : Nat) (l : Bts) (f : Frm) (ts : Bts) (pre : List Bk) (Wi : World) : Prop extends Lf W w5 R B6 l f ts pre Wi where
 num : ∃ k, leftGo l f (pre.map (·.2)) l.length = some k ∧ Lies Wi B6 3 #[.int .i64 k]
 res : Lies Wi R 3 #[.int .i64 0]
structure Lx (W w5 : World) (R B6 : Nat) (l : Bts) (f : Frm) (ts : Bts) (c : Code) (pre : List Bk) (Wi : World) : Prop extends Lf W w5 R B6 l f ts pre Wi where
 ret : c = .ret
 none : leftGo l f (pre.map (·.2)) l.length = none
 res : Lies Wi R 3 #[.int .i64 (-1)]
section
variable {W w5 A B : World} {R B6 ll : Nat} {l : Bts} {f : Frm} {ts : Bts} {pre : List Bk} {c : Code} {o o' : Obj}
theorem Lf.below (h : Lf W w5 R B6 l f ts pre A) (hb : Below A.heap.size A B) : Lf W w5 R B6 l f ts pre B := ⟨h.hpre, bt h.low hb, h.keep.trans (KeepC.below hb)⟩
theorem Lf.put (h : Lf W w5 R B6 l f ts pre A) (h1 : W.heap.size ≤ ll) (ho : A.heap[ll]? = some o) (hc : o.isCells = false) : Lf W w5 R B6 l f ts pre (A.putObj ll o') := ⟨h.hpre, below_putObj h.low h1, h.keep.trans (KeepC.put o' ho hc)⟩
theorem Lg.below (h : Lg W w5 R B6 l f ts pre A) (hb : Below A.heap.size A B) : Lg W w5 R B6 l f ts pre B := by
 obtain ⟨k, e, hk⟩ := h.num
 exact ⟨h.toLf.below hb, ⟨k, e, hk.below hb hk.lt⟩, h.res.below hb h.res.lt⟩
theorem Lg.put (h : Lg W w5 R B6 l f ts pre A) (h1 : W.heap.size ≤ ll) (ho : A.heap[ll]? = some o) (hc : o.isCells = false) : Lg W w5 R B6 l f ts pre (A.putObj ll o') := by
 obtain ⟨k, e, hk⟩ := h.num
 exact ⟨h.toLf.put h1 ho hc, ⟨k, e, (KeepC.put (M := fun _ => False) o' ho hc).lies (fun h => h) hk⟩, (KeepC.put (M := fun _ => False) o' ho hc).lies (fun h => h) h.res⟩
theorem Lx.below (h : Lx W w5 R B6 l f ts c pre A) (hb : Below A.heap.size A B) : Lx W w5 R B6 l f ts c pre B := ⟨h.toLf.below hb, h.ret, h.none, h.res.below hb h.res.lt⟩
theorem Lx.put (h : Lx W w5 R B6 l f ts c pre A) (h1 : W.heap.size ≤ ll) (ho : A.heap[ll]? = some o) (hc : o.isCells = false) : Lx W w5 R B6 l f ts c pre (A.putObj ll o') :=
 ⟨h.toLf.put h1 ho hc, h.ret, h.none, (KeepC.put (M := fun _ => False) o' ho hc).lies (fun h => h) h.res⟩
end
def leftV : Option Nat → Int
 | some n => n
 | none => -1
theorem leftGo_append (l : Bts) (f : Frm) : ∀ (a b : List UInt8) (n : Nat), leftGo l f (a ++ b) n = (leftGo l f a n).bind (leftGo l f b)
 | [], b, n => rfl
 | t :: r, b, n => by
  rw [List.cons_append, leftGo, leftGo]
  split
  ·split
   ·exact leftGo_append l f r b n
   ·rfl
  ·split
   ·split
    ·rfl
    ·exact leftGo_append l f r b (n - 1)
   ·rfl
theorem leftGo_bd (l : Bts) (f : Frm) : ∀ (r : List UInt8) (n k : Nat), leftGo l f r n = some k → k ≤ n ∧ (f.ht ≤ n → f.ht ≤ k)
 | [], n, k, h => by obtain rfl := Option.some.inj h; exact ⟨Nat.le_refl _, id⟩
 | t :: r, n, k, h => by
  rw [leftGo] at h
  split at h
  ·split at h
   ·exact leftGo_bd l f r n k h
   ·cases h
  ·split at h
   ·split at h
    ·cases h
    ·have := leftGo_bd l f r (n - 1) k h
     exact ⟨by omega, fun hn => this.2 (by omega)⟩
   ·cases h
theorem leftGo_dead {l : Bts} {f : Frm} (t : UInt8) (hd : f.dead = true) : leftGo l f [t] f.ht = some f.ht := by simp [leftGo, hd]
theorem leftGo_stop {l : Bts} {f : Frm} (t : UInt8) (hd : f.dead = false) : leftGo l f [t] f.ht = none := by simp [leftGo, hd]
theorem leftGo_own {l : Bts} {f : Frm} {t o : UInt8} {q : Nat} (hn : q + 1 ≠ f.ht) (ho : l[q]? = some o) : leftGo l f [t] (q + 1) = if o ≠ t ∧ o ≠ 0 ∧ t ≠ 0 then none else some q := by
 rw [leftGo, if_neg hn, Nat.add_sub_cancel, ho]
 simp only [leftGo]
theorem leftGo_snoc {l : Bts} {f : Frm} {pre : List Bk} {y : Bk} {n k : Nat} (h : leftGo l f (pre.map (·.2)) n = some k) : leftGo l f ((pre ++ [y]).map (·.2)) n = leftGo l f [y.2] k := by
 rw [List.map_append, leftGo_append, h]
 rfl
theorem KeepC.set {M : Nat → Prop} {A : World} {p : Addr} {v : Value} (hm : M p.block) : KeepC M A (A.setCell p v) := KeepC.fr (Fr.setCell A p v) (fun k e => by rw [e]; exact hm)
theorem pre_snoc {pre : List Bk} {y : Bk} {r : List UInt8} (h : pre.map (·.2) = r.take pre.length) (hy : r[pre.length]? = some y.2) : (pre ++ [y]).map (·.2) = r.take (pre ++ [y]).length := by
 rw [List.map_append, List.length_append, List.length_singleton, List.take_add_one, hy, h]
 rfl
set_option maxRecDepth 100000 in
set_option maxHeartbeats 8000000 in
theorem left_any {W : World} {H sb : Nat} {lv fv : Value} {FV : List Fv} {s : Stk} (h : Stm W H sb lv fv FV s) (hne : s.fs ≠ []) (hbd : s.fs.length ≤ 1000000000) (hm : s.most ≤ 1000000000) {v : Value} {ts : Bts} (hv : Sl W 1 u8c v ts) (hl : ts.length ≤ 4194304) :
  Calls Tryz.prog 105 #[.pointer (some ⟨sb, 0, none⟩), v] W fun e w' => e = .returned (.int .i64 (leftV (left s ts))) ∧ Below W.heap.size W w' := by
 obtain ⟨fb, N, n, cf, x, ht⟩ := h.top hne hbd
 have hgl := ht.last s h.fs
 have hle : x.f.ht ≤ s.l.length := h.inv.top _ hgl
 have hlm : s.l.length ≤ s.most := h.inv.most
 have hL : left s ts = leftGo s.l x.f ts.reverse s.l.length := by unfold left; rw [hgl]
 rw [hL]
 obtain ⟨sl, cl, rfl, _, hsl⟩ := row_form h.row
 obtain ⟨sv, cv, rfl, _⟩ := hv.form
 have hfv := ht.fv
 have HT := zh ht
 have HS := zh h
 have HV := zh hv
 clear h hv ht hgl hL
 subst hfv
 refine (callsIn_wide (n := 9)).1 ?_
 refine callsIn_of_wp_marks Tryz.func105 rfl trivial ?_ rfl
 simp only [Tryz.ntmps105, List.size_toArray, List.length_cons, List.length_nil, Nat.reduceAdd, Nat.reduceSub, Array.replicate_succ, Array.replicate_zero, List.push_toArray, List.append_toArray, List.nil_append, List.cons_append]
 refine wpIn_wide.2 ?_
 go_wp2_with fail
 obtain ⟨w1, hw1⟩ : ∃ w1, w1 = (W.alloc (.cells #[.pointer (some ⟨sb, 0, none⟩)] 137)).alloc (.cells #[.int .i64 0] 3) := ⟨_, rfl⟩
 have hb1 : Below W.heap.size W w1 := hw1 ▸ ((Below.refl _ _).alloc (Nat.le_refl _) _).alloc (by simp) _
 have hl1 : Lies w1 W.heap.size 137 #[.pointer (some ⟨sb, 0, none⟩)] := hw1 ▸ (Lies.new W _ _).alloc _
 have hl2 : Lies w1 (W.heap.size + 1) 3 #[.int .i64 0] := by
  rw [hw1]
  have := Lies.new (W.alloc (.cells #[.pointer (some ⟨sb, 0, none⟩)] 137)) 3 #[.int .i64 0]
  rwa [World.size_alloc] at this
 rw [← hw1]
 clear hw1
 have HB1 := zh hb1
 have HS1 := zh (HS.out.later hb1)
 have HA1 := zh hl1
 have HA2 := zh hl2
 clear hb1 hl1 hl2
 refine (top_any HS1.out HT.out).mono ?_
 rintro en w2 ⟨rfl, hb2⟩
 have HB2 := zh (bt HB1.out hb2)
 have HS2 := zh (HS1.out.later hb2)
 have hA1 := HA1.out.below hb2 HA1.out.lt
 have hA2 := HA2.out.below hb2 HA2.out.lt
 have hc1 := hA1.cell 0
 clear HB1 HS1 HA1 HA2
 go_upto_region 4 with fail
 clear hc1
 obtain ⟨w3, hw3⟩ : ∃ w3, w3 = w2.alloc (.cells #[.pointer (some ⟨fb, n * 4, none⟩)] 174) := ⟨_, rfl⟩
 have hb3 : Below w2.heap.size w2 w3 := hw3 ▸ (Below.refl _ _).alloc (Nat.le_refl _) _
 have hA5 : Lies w3 w2.heap.size 174 #[.pointer (some ⟨fb, n * 4, none⟩)] := hw3 ▸ Lies.new _ _ _
 rw [← hw3]
 clear hw3
 have HB3 := zh (bt HB2.out hb3)
 have HS3 := zh (HS2.out.later hb3)
 have HA1 := zh (hA1.below hb3 hA1.lt)
 have HA2 := zh (hA2.below hb3 hA2.lt)
 have HA5 := zh hA5
 have h5lt : W.heap.size + 1 < w2.heap.size := hA2.lt
 obtain ⟨B5, hB5⟩ : ∃ B5, B5 = w2.heap.size := ⟨_, rfl⟩
 rw [← hB5] at HA5 h5lt ⊢
 clear hb3 hA5 HB2 HS2 hA1 hA2 hb2 hB5
 have hc1 : w3.cell? ⟨W.heap.size, 0, none⟩ = some (.pointer (some ⟨sb, 0, none⟩)) := HA1.out.cell 0
 have hc0 : w3.cell? ⟨sb, 0, none⟩ = some (.slice sl s.l.length cl) := HS3.out.cell.cell 0
 go_upto_region 5 with fail
 clear hc0 hc1
 obtain ⟨w4, hw4⟩ : ∃ w4, w4 = w3.alloc (.cells #[.int .i64 s.l.length] 3) := ⟨_, rfl⟩
 have hb4 : Below w3.heap.size w3 w4 := hw4 ▸ (Below.refl _ _).alloc (Nat.le_refl _) _
 have hA6 : Lies w4 w3.heap.size 3 #[.int .i64 s.l.length] := hw4 ▸ Lies.new _ _ _
 rw [← hw4]
 clear hw4
 have HB4 := zh (bt HB3.out hb4)
 have HS4 := zh (HS3.out.later hb4)
 have HA14 := zh (HA1.out.below hb4 HA1.out.lt)
 have HA24 := zh (HA2.out.below hb4 HA2.out.lt)
 have HA54 := zh (HA5.out.below hb4 HA5.out.lt)
 have h6lt : B5 < w3.heap.size := HA5.out.lt
 have HA64 := zh hA6
 obtain ⟨B6, hB6⟩ : ∃ B6, B6 = w3.heap.size := ⟨_, rfl⟩
 rw [← hB6] at HA64 h6lt ⊢
 clear hb4 hA6 HB3 HS3 HA1 HA2 HA5 hB6
 go_wp2_with fail
 refine backward_any.mono ?_
 rintro en w5 ⟨rfl, hl5, hb5⟩
 have HB5 := zh (bt HB4.out hb5)
 have HS5 := zh (HS4.out.later hb5)
 have HA15 := zh (HA14.out.below hb5 HA14.out.lt)
 have HA25 := zh (HA24.out.below hb5 HA24.out.lt)
 have HA55 := zh (HA54.out.below hb5 HA54.out.lt)
 have HA65 := zh (HA64.out.below hb5 HA64.out.lt)
 have HA75 := zh hl5
 have h7lt : B6 < w4.heap.size := HA64.out.lt
 obtain ⟨B7, hB7⟩ : ∃ B7, B7 = w4.heap.size := ⟨_, rfl⟩
 rw [← hB7] at HA75 h7lt ⊢
 clear hl5 hb5 HB4 HS4 HA14 HA24 HA54 HA64 hB7
 go_wp2_with fail
 have hsv : ts ≠ [] → InB (fun k => k = B6 ∨ k = W.heap.size + 1) (.slice sv ts.length cv) := fun hne g off n c e => by
  obtain ⟨s', c', e', hs'⟩ := HV.out
  obtain ⟨g', off', e2, hg, _⟩ := hs' hne
  injection e' with e1 _ _
  injection e with e3 _ _
  rw [e1, e2] at e3
  injection e3 with e3
  injection e3 with e3 _ _
  subst e3
  omega
 have HQ := zh (back_off 8 (by decide) B7 (M := fun k => k = B6 ∨ k = W.heap.size + 1) HA75.out (by omega) (HV.out.later HB5.out) hsv hl)
 have hW5 : W.heap.size ≤ w5.heap.size := HB5.out.size
 have H0 := zh (show Lg W w5 (W.heap.size + 1) B6 s.l x.f ts [] w5 from ⟨⟨rfl, HB5.out, KeepC.refl _ _⟩, ⟨s.l.length, rfl, HA65.out⟩, HA25.out⟩)
 clear hsv
 refine (wpIn_wide (n := 9)).1 ?_
 refine wpIn_rangeFunc_off rfl (by decide) (gf := 132) (lb := #[.pointer (some ⟨B7, 0, none⟩)]) rfl trivial eBack HQ.out (Below.refl _ _) (fun _ => rfl)
  (fun pre Wi => Lg W w5 (W.heap.size + 1) B6 s.l x.f ts pre Wi) (fun c pre Wi => Lx W w5 (W.heap.size + 1) B6 s.l x.f ts c pre Wi)
  (fun _ A B h hb => h.below hb) (fun _ _ A B h hb => h.below hb) (fun _ A l o o' h h1 _ ho hc _ => h.put (by omega) ho hc) (fun _ _ A l o o' h h1 _ ho hc _ => h.put (by omega) ho hc)
  (fun _ _ _ _ _ _ h _ _ _ => h) (fun h k => h.trans k) (fun A l o o' ho hc _ => KeepC.put o' ho hc) H0.out ?a1 ?assign ?body ?done ?stop
 case assign =>
  intro l y Wi K2 hK2
  gi_wp2
  exact hK2
 case body =>
  intro l pre y Wi hsz hI hOf
  (try dsimp only)
  obtain ⟨k, hk, hkl⟩ := hI.num
  obtain ⟨hkn, hkh⟩ := leftGo_bd _ _ _ _ _ hk
  replace hkh := hkh hle
  have hd : Below Wi.heap.size Wi Wi.drew := (Below.refl _ _).drew
  have HBW := zh hd
  have HI1 := zh (hI.below hd)
  have HK1 := zh (hkl.below hd hkl.lt)
  have HPS := zh (pre_snoc hI.hpre hOf)
  have HLS := zh (leftGo_snoc (y := y) hk)
  have hfW : fb < W.heap.size := World.block_lt_of_cell? W _ (frame_cell HS.out HT.out (j := 0) rfl)
  have hsW : sb < W.heap.size := HS.out.cell.lt
  clear hI hk hkl hd hOf
  generalize hV : Wi.drew = V at HBW HI1 HK1
  have hc6 : V.cell? ⟨B6, 0, none⟩ = some (.int .i64 k) := HK1.out.cell 0
  have hc5 : V.cell? ⟨B5, 0, none⟩ = some (.pointer (some ⟨fb, n * 4, none⟩)) := (HI1.out.keep.lies (by omega) HA55.out).cell 0
  have hc2 : V.cell? ⟨fb, n * 4 + 2, none⟩ = some (.int .i64 x.f.ht) := HI1.out.keep.cell (by show ¬ (fb = _ ∨ fb = _); omega) (frame_cell HS5.out HT.out rfl)
  have hc3 : V.cell? ⟨fb, n * 4 + 3, none⟩ = some (.bool x.f.dead) := HI1.out.keep.cell (by show ¬ (fb = _ ∨ fb = _); omega) (frame_cell HS5.out HT.out rfl)
  have hb0 : V.heap[w5.heap.size]? = Wi.heap[w5.heap.size]? ∧ V.heap[w5.heap.size + 1]? = Wi.heap[w5.heap.size + 1]? := ⟨HBW.out.block _ (by omega), HBW.out.block _ (by omega)⟩
  have hr0 : W.heap.size + 1 < w5.heap.size := HA25.out.lt
  have h60 : B6 < w5.heap.size := HA65.out.lt
  gi_wp2_with fail
  refine regionR (RP.take 0 (RP.take 1 (RP.take 2 (RP.take 3 (RP.take 4 (RP.take 5 RP.done)))))) (fun w' => w'.cell? ⟨B6, 0, none⟩ = some (.int .i64 k) ∧ w'.cell? ⟨B5, 0, none⟩ = some (.pointer (some ⟨fb, n * 4, none⟩)) ∧ w'.cell? ⟨fb, n * 4 + 2, none⟩ = some (.int .i64 x.f.ht)) (by as_aux_lemma => kernel_rfl) (by as_aux_lemma => kernel_rfl) (by as_aux_lemma => kernel_rfl) (by rw [hV]; exact ⟨hc6, hc5, hc2⟩) (fun hS => ?_)
  clear hS
  rw [hV]
  clear hc2
  repeat (first | (refine RP.t_take (v := ?_) rfl rfl (fun w' hw' => ?_) ?_; rotate_left; (focus ((obtain ⟨q0, q1, q2⟩ := hw'); go_simp; (try go_bits); (try (with_reducible rfl)))); (try simp only [Act.put, sA, sB, sC])) | (refine RP.t_skip rfl rfl ?_; (try simp only [Act.put, sA, sB, sC])))
  refine RP.t_done ⟨rfl, ?_⟩
  (try simp only [Act.put, sA, sB, sC])
  have hcR : V.cell? ⟨W.heap.size + 1, 0, none⟩ = some (.int .i64 0) := HI1.out.res.cell 0
  have hfR : V.frozen? ⟨W.heap.size + 1, 0, none⟩ = false := HI1.out.res.frozen 0
  by_cases hkh2 : k = x.f.ht
  ·have hdk : ((k : Int) == (x.f.ht : Int)) = true := by simp [hkh2]
   cases hdd : x.f.dead with
   | true =>
    rw [hdd] at hc3
    gi_wp2
    exact ⟨hb0, KeepC.below HBW.out, ⟨⟨HPS.out, HI1.out.low, HI1.out.keep⟩, ⟨k, by rw [HLS.out, hkh2]; exact leftGo_dead _ hdd, HK1.out⟩, HI1.out.res⟩⟩
   | false =>
    rw [hdd] at hc3
    gi_wp2
    exact ⟨⟨(Below.heap_setCell _ _ _ _ (by show _ ≠ W.heap.size + 1; omega)).trans hb0.1, (Below.heap_setCell _ _ _ _ (by show _ ≠ W.heap.size + 1; omega)).trans hb0.2⟩, ⟨⟨HPS.out, HI1.out.low.setCell (by show W.heap.size ≤ W.heap.size + 1; omega) _, HI1.out.keep.trans (KeepC.set (Or.inr rfl))⟩, rfl, by rw [HLS.out, hkh2]; exact leftGo_stop _ hdd, HI1.out.res.set 0 _⟩⟩
  ·have hdk : ((k : Int) == (x.f.ht : Int)) = false := by simp; omega
   obtain ⟨q, hkq⟩ : ∃ q, k = q + 1 := ⟨k - 1, by omega⟩
   have hq1 : (k : Int) - 1 = (q : Int) := by omega
   have hql : q < s.l.length := by omega
   have hkB : k ≤ 1000000000 := by omega
   obtain ⟨o, ho⟩ : ∃ o, s.l[q]? = some o := ⟨_, List.getElem?_eq_getElem hql⟩
   obtain ⟨g, rfl⟩ := hsl (by omega)
   have hf6 : V.frozen? ⟨B6, 0, none⟩ = false := HK1.out.frozen 0
   have hgs : W.cell? ⟨g, q, none⟩ = some (.int .u8 o.toNat) := by
    have := row_at (en := u8c) (fun _ => rfl) HS.out.row ho 0 _ rfl
    rw [Nat.mul_one, Nat.add_zero] at this
    exact this
   have hgW : g < W.heap.size := World.block_lt_of_cell? W _ hgs
   have hHL := leftGo_own (t := y.2) (f := x.f) (by omega) ho
   rw [← hkq, ← HLS.out] at hHL
   have HLQ := zh hHL
   clear hHL HLS hc3 hc5
   gi_wp2
   obtain ⟨V1, hV1⟩ : ∃ V1, V1 = V.setCell ⟨B6, 0, none⟩ (.int .i64 q) := ⟨_, rfl⟩
   have hlow1 : Below W.heap.size W V1 := hV1 ▸ HI1.out.low.setCell (p := ⟨B6, 0, none⟩) (by show W.heap.size ≤ B6; omega) (.int .i64 q)
   have hkeep1 : KeepC (fun k => k = B6 ∨ k = W.heap.size + 1) w5 V1 := hV1 ▸ HI1.out.keep.trans (KeepC.set (Or.inl rfl))
   have hkw1 : KeepC (fun k => k = B6 ∨ k = W.heap.size + 1) Wi V1 := hV1 ▸ (KeepC.below HBW.out).trans (KeepC.set (Or.inl rfl))
   have hk1 : Lies V1 B6 3 #[.int .i64 q] := hV1 ▸ HK1.out.set 0 _
   have hres1 : Lies V1 (W.heap.size + 1) 3 #[.int .i64 0] := hV1 ▸ lies_fr HI1.out.res (Fr.setCell _ _ _) (by show ¬ (_ = B6); omega)
   have hbl1 : V1.heap[w5.heap.size]? = Wi.heap[w5.heap.size]? ∧ V1.heap[w5.heap.size + 1]? = Wi.heap[w5.heap.size + 1]? := by
    rw [hV1]
    exact ⟨(Below.heap_setCell _ _ _ _ (by show _ ≠ B6; omega)).trans hb0.1, (Below.heap_setCell _ _ _ _ (by show _ ≠ B6; omega)).trans hb0.2⟩
   have hVs : V1.heap.size = V.heap.size := by rw [hV1]; exact World.size_setCell _ _ _
   have hWs := HBW.out.size
   have hd1 : Below V1.heap.size V1 V1.drew := (Below.refl _ _).drew
   rw [← hV1]
   have HLow := zh (bt hlow1 hd1)
   have HKe := zh (hkeep1.trans (KeepC.below hd1))
   have HKw := zh (hkw1.trans (KeepC.below hd1))
   have HK2 := zh (hk1.below hd1 hk1.lt)
   have HR2 := zh (hres1.below hd1 hres1.lt)
   have HBl := zh (show V1.drew.heap[w5.heap.size]? = Wi.heap[w5.heap.size]? ∧ V1.drew.heap[w5.heap.size + 1]? = Wi.heap[w5.heap.size + 1]? from ⟨(hd1.block _ (by omega)).trans hbl1.1, (hd1.block _ (by omega)).trans hbl1.2⟩)
   clear hlow1 hkeep1 hkw1 hk1 hres1 hbl1 hd1 hb0 hc6 hcR hfR hf6 HBW HI1 HK1 hVs hWs hV1
   generalize hV2 : V1.drew = V2 at HLow HKe HKw HK2 HR2 HBl
   have hc6 : V2.cell? ⟨B6, 0, none⟩ = some (.int .i64 q) := HK2.out.cell 0
   have hcR : V2.cell? ⟨W.heap.size + 1, 0, none⟩ = some (.int .i64 0) := HR2.out.cell 0
   have hfR : V2.frozen? ⟨W.heap.size + 1, 0, none⟩ = false := HR2.out.frozen 0
   have hcS : V2.cell? ⟨W.heap.size, 0, none⟩ = some (.pointer (some ⟨sb, 0, none⟩)) := (HKe.out.lies (by omega) HA15.out).cell 0
   have hcL : V2.cell? ⟨sb, 0, none⟩ = some (.slice (some ⟨g, 0, none⟩) s.l.length cl) := HKe.out.cell (by show ¬ (sb = _ ∨ sb = _); omega) (HS5.out.cell.cell 0)
   have hcG : V2.cell? ⟨g, q, none⟩ = some (.int .u8 o.toNat) := HKe.out.cell (by show ¬ (g = _ ∨ g = _); omega) (by
    have := row_at (en := u8c) (fun _ => rfl) HS5.out.row ho 0 _ rfl
    rw [Nat.mul_one, Nat.add_zero] at this
    exact this)
   refine regionR (RP.take 0 (RP.take 1 (RP.take 2 (RP.take 3 (RP.take 4 (RP.take 5 (RP.take 6 (RP.take 7 RP.done)))))))) (fun w' => w'.cell? ⟨B6, 0, none⟩ = some (.int .i64 q) ∧ w'.cell? ⟨W.heap.size, 0, none⟩ = some (.pointer (some ⟨sb, 0, none⟩)) ∧ w'.cell? ⟨sb, 0, none⟩ = some (.slice (some ⟨g, 0, none⟩) s.l.length cl) ∧ w'.cell? ⟨g, q, none⟩ = some (.int .u8 o.toNat)) (by as_aux_lemma => kernel_rfl) (by as_aux_lemma => kernel_rfl) (by as_aux_lemma => kernel_rfl) (by rw [hV2]; exact ⟨hc6, hcS, hcL, hcG⟩) (fun hS => ?_)
   clear hS
   rw [hV2]
   clear hcS hcL hcG hc6
   repeat (first | (refine RP.t_take (v := ?_) rfl rfl (fun w' hw' => ?_) ?_; rotate_left; (focus ((obtain ⟨q0, q1, q2, q3⟩ := hw'); go_simp; (try go_bits); (try (with_reducible rfl)))); (try simp only [Act.put, sA, sB, sC])) | (refine RP.t_skip rfl rfl ?_; (try simp only [Act.put, sA, sB, sC])))
   refine RP.t_done ⟨rfl, ?_⟩
   (try simp only [Act.put, sA, sB, sC])
   by_cases h1 : o = y.2
   ·have hnn : leftGo s.l x.f ((pre ++ [y]).map (·.2)) s.l.length = some q := by rw [HLQ.out, if_neg (fun e => e.1 h1)]
    have hb1 : ((o.toNat : Int) == (y.2.toNat : Int)) = true := by simp [h1]
    gi_wp2
    all_goals exact ⟨HBl.out, HKw.out, ⟨⟨HPS.out, HLow.out, HKe.out⟩, ⟨q, hnn, HK2.out⟩, HR2.out⟩⟩
   ·have hb1 : ((o.toNat : Int) == (y.2.toNat : Int)) = false := by
     have : ¬ o.toNat = y.2.toNat := fun e => h1 (UInt8.toNat_inj.1 e)
     simp; omega
    have hx1 : ¬ o.toNat = y.2.toNat := fun e => h1 (UInt8.toNat_inj.1 e)
    by_cases h2 : o = 0
    ·have hnn : leftGo s.l x.f ((pre ++ [y]).map (·.2)) s.l.length = some q := by rw [HLQ.out, if_neg (fun e => e.2.1 h2)]
     have hb2 : ((o.toNat : Int) == 0) = true := by simp [h2]
     gi_wp2
     all_goals exact ⟨HBl.out, HKw.out, ⟨⟨HPS.out, HLow.out, HKe.out⟩, ⟨q, hnn, HK2.out⟩, HR2.out⟩⟩
    ·have hb2 : ((o.toNat : Int) == 0) = false := by
      have : ¬ o.toNat = 0 := fun e => h2 (UInt8.toNat_inj.1 e)
      simp; omega
     have hx2 : ¬ o.toNat = 0 := fun e => h2 (UInt8.toNat_inj.1 e)
     by_cases h3 : y.2 = 0
     ·have hnn : leftGo s.l x.f ((pre ++ [y]).map (·.2)) s.l.length = some q := by rw [HLQ.out, if_neg (fun e => e.2.2 h3)]
      have hb3 : ((y.2.toNat : Int) == 0) = true := by simp [h3]
      gi_wp2
      all_goals exact ⟨HBl.out, HKw.out, ⟨⟨HPS.out, HLow.out, HKe.out⟩, ⟨q, hnn, HK2.out⟩, HR2.out⟩⟩
     ·have hnn : leftGo s.l x.f ((pre ++ [y]).map (·.2)) s.l.length = none := by rw [HLQ.out, if_pos ⟨h1, h2, h3⟩]
      have hb3 : ((y.2.toNat : Int) == 0) = false := by
       have : ¬ y.2.toNat = 0 := fun e => h3 (UInt8.toNat_inj.1 e)
       simp; omega
      have hx3 : ¬ y.2.toNat = 0 := fun e => h3 (UInt8.toNat_inj.1 e)
      gi_wp2
      all_goals first | exact ⟨⟨(Below.heap_setCell _ _ _ _ (by show _ ≠ W.heap.size + 1; omega)).trans HBl.out.1, (Below.heap_setCell _ _ _ _ (by show _ ≠ W.heap.size + 1; omega)).trans HBl.out.2⟩, ⟨⟨HPS.out, HLow.out.setCell (by show W.heap.size ≤ W.heap.size + 1; omega) _, HKe.out.trans (KeepC.set (Or.inr rfl))⟩, rfl, hnn, HR2.out.set 0 _⟩⟩ | (exfalso; omega) | (exfalso; rename_i h; simp [hx2, hx3] at h <;> omega)
 case done =>
  intro ys Wi hS hI hm
  obtain ⟨k, hk, hkl⟩ := hI.num
  rw [hS] at hk
  replace hk := zh hk
  have hc6 := hkl.cell 0
  simp only [List.getElem?_toArray, List.getElem?_cons_zero] at hc6
  have hcR := hI.res.cell 0
  simp only [List.getElem?_toArray, List.getElem?_cons_zero] at hcR
  have hfR := hI.res.frozen 0
  have hlow := hI.low
  have hres := hI.res
  have hr0 : W.heap.size + 1 < w5.heap.size := HA25.out.lt
  clear hI hkl hS HQ H0
  go_wp2_with fail
  have hm2 : (Wi.setCell ⟨W.heap.size + 1, 0, none⟩ (.int .i64 k)).heap[w5.heap.size]? = some (.deferred (some [])) := (Below.heap_setCell _ _ _ _ (by show _ ≠ W.heap.size + 1; omega)).trans hm
  have hl2 : Lies ((Wi.setCell ⟨W.heap.size + 1, 0, none⟩ (.int .i64 k)).putObj w5.heap.size (.deferred none)) (W.heap.size + 1) 3 #[.int .i64 k] := (KeepC.put (M := fun _ => False) _ hm2 rfl).lies (fun h => h) (hres.set 0 _)
  have hc2 := hl2.cell 0
  simp only [List.getElem?_toArray, List.getElem?_cons_zero] at hc2
  refine ⟨by simp, .inl ⟨_, _, rfl, run_takeDeferred hm2, ?_⟩⟩
  exact ⟨_, results_cell1 rfl _ _ (W.heap.size + 1) (.int .i64 k) rfl (by simp [loadVar, go_sem, hc2]), by rw [hk.out]; rfl, below_putObj (hlow.setCell (by show W.heap.size ≤ W.heap.size + 1; omega) _) hW5⟩
 case stop =>
  intro c ys Wi hI hm
  obtain rfl := hI.ret
  have hnn : leftGo s.l x.f ts.reverse s.l.length = none := by
   have : ts.reverse = ys.map (·.2) ++ ts.reverse.drop ys.length := by rw [hI.hpre, List.take_append_drop]
   rw [this, leftGo_append, hI.none]
   rfl
  replace hnn := zh hnn
  have hlow := hI.low
  have hres := hI.res
  have hr0 : W.heap.size + 1 < w5.heap.size := HA25.out.lt
  clear hI HQ H0
  gi_wp2
  have hl2 : Lies (Wi.putObj w5.heap.size (.deferred none)) (W.heap.size + 1) 3 #[.int .i64 (-1)] := (KeepC.put (M := fun _ => False) _ hm rfl).lies (fun h => h) hres
  have hc2 := hl2.cell 0
  simp only [List.getElem?_toArray, List.getElem?_cons_zero] at hc2
  refine ⟨by simp, .inl ⟨_, _, rfl, run_takeDeferred hm, ?_⟩⟩
  exact ⟨_, results_cell1 rfl _ _ (W.heap.size + 1) (.int .i64 (-1)) rfl (by simp [loadVar, go_sem, hc2]), by rw [hnn.out]; rfl, below_putObj hlow hW5⟩
end Go.Proofs.YtmgjcaikldeioaaGreat.Ty
