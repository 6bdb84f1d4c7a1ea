/- A region that draws its order, along an invariant that tells of each operation whether it has come up: whatever order is drawn, each operation is shown once. Over any program. -/
import Derived.Test.YteeghdkejnhjnaaRt
import Derived.Test.YteeghdkejnhjnaaKvR
import Derived.Maps.AppendAt
namespace Go.Proofs.Yteeghdkejnhjnaa.Kt
open Go Go.RowKit

/-- Each operation waits for earlier ones only. -/
def backs (ops : Array Oper) : Bool := (List.range ops.size).all fun i => ((ops[i]?).map (·.after.all fun e => decide (e.on < i))).getD true
theorem all_listed {ops : Array Oper} (hb : backs ops = true) {l : Array Bool} (hl : l.size = ops.size) (hr : Region.ready .any ops l = []) : ∀ i, i < ops.size → l.getD i false = true := by
  intro i
  induction i using Nat.strongRecOn with
  | _ i ih =>
    intro hi
    obtain ⟨o, ho⟩ : ∃ o, ops[i]? = some o := ⟨_, Array.getElem?_eq_getElem hi⟩
    have hb' : (o.after.all fun e => decide (e.on < i)) = true := by
      have := (List.all_eq_true.1 hb) i (List.mem_range.2 hi)
      simpa [ho] using this
    cases hc : l.getD i false with
    | true => rfl
    | false =>
      exfalso
      have hm : i ∈ Region.ready .any ops l := by
        unfold Region.ready
        rw [List.mem_filter]
        refine ⟨List.mem_range.2 hi, ?_⟩
        rw [ho]
        have h1 : l.getD i true = false := by
          have hil : i < l.size := by omega
          simp [Array.getD, hil] at hc ⊢
          exact hc
        rw [h1]
        simp only [Bool.not_false, Bool.true_and, Option.map_some, Option.getD_some]
        rw [Array.all_eq_true_iff_forall_mem]
        intro e he
        have hlt : e.on < i := by
          have := Array.all_eq_true_iff_forall_mem.1 hb' e he
          simpa using this
        rw [ih e.on hlt (by omega)]
        simp
      rw [hr] at hm
      cases hm
theorem getD_put {l : Array Bool} {i : Nat} (hi : i < l.size) (j : Nat) : (l.setIfInBounds i true).getD j false = (j == i || l.getD j false) := by
  by_cases hji : j = i
  · subst hji
    simp [Array.getD, hi]
  · have hb : (j == i) = false := by simpa using hji
    rw [hb, Bool.false_or]
    simp only [Array.getD_eq_getD_getElem?, Array.getElem?_setIfInBounds_ne (fun e => hji e.symm)]

theorem countP_less {α : Type} {p q : α → Bool} (h : ∀ x, p x = true → q x = true) : ∀ {l : List α} {x0 : α}, x0 ∈ l → q x0 = true → p x0 = false → l.countP p < l.countP q
  | [], _, h0, _, _ => by cases h0
  | y :: l, x0, h0, hq, hp => by
    have hm : l.countP p ≤ l.countP q := List.countP_mono_left (fun x _ => h x)
    rcases List.mem_cons.1 h0 with rfl | h1
    · rw [List.countP_cons_of_pos hq, List.countP_cons_of_neg (by simp [hp])]
      omega
    · have := countP_less h h1 hq hp
      rw [List.countP_cons, List.countP_cons]
      have hy : (if p y = true then 1 else 0) ≤ (if q y = true then 1 else 0 : Nat) := by
        by_cases e : p y = true
        · simp [e, h y e]
        · simp [e]
      omega
variable {P : Program} {ops : Array Oper} {Q : Exit → Act → World → Prop}
theorem region_inv_go (Inv : (Nat → Bool) → Act → World → Prop) (hb : backs ops = true)
    (hstep : ∀ (f : Nat → Bool) (a : Act) (w : World) (i : Nat) (o : Oper), ops.toList[i]? = some o → f i = false → (∀ e ∈ o.after, Region.binds .any e = true → f e.on = true) → Inv f a w →
      ∀ K : Act → World → Prop, (∀ a' w', Inv (fun j => j == i || f j) a' w' → K a' w') → if Region.wanted o (yielded ops a.tmps) = true then Oper.wp P o a w K Q else K (a.put o.dst undef) w)
    (hend : ∀ f a w, (∀ i, i < ops.size → f i = true) → Inv f a w → Q .normal a w) :
    ∀ (n : Nat) (l : Array Bool) (a : Act) (w : World), l.size = ops.size → (List.range ops.size).countP (fun i => !l.getD i false) ≤ n → Inv (fun i => l.getD i false) a w → wpAny P .any ops Q n l a w := by
  intro n
  induction n with
  | zero =>
    intro l a w hl hn hI
    have hall : ∀ i, i < ops.size → l.getD i false = true := fun i hi => by
      have h0 := List.countP_eq_zero.1 (Nat.le_zero.1 hn) i (List.mem_range.2 hi)
      simpa using h0
    refine ⟨?_, hend _ a w hall hI⟩
    unfold Region.ready
    rw [List.filter_eq_nil_iff]
    intro i hi
    have hi' := List.mem_range.1 hi
    have h1 : l.getD i true = true := by
      have := hall i hi'
      have hil : i < l.size := by omega
      simp [Array.getD, hil] at this ⊢
      exact this
    rw [h1]
    simp
  | succ n ih =>
    intro l a w hl hn hI
    refine ⟨fun hr => hend _ a w (all_listed hb hl hr) hI, fun i hi => ?_⟩
    obtain ⟨hun, o, ho, hall⟩ := mem_ready.1 hi
    have hi' : i < ops.size := (Array.getElem?_eq_some_iff.1 ho).1
    have hil : i < l.size := by omega
    have hf : l.getD i false = false := by
      simp [Array.getD, hil] at hun ⊢
      exact hun
    refine wpOp_step ho (fun K hK => hstep _ a w i o (by simpa using ho) hf hall hI K (fun a' w' hI' => hK a' w' ?_))
    refine ih _ a' w' (by simpa using hl) ?_ (by
      have : (fun j => (l.setIfInBounds i true).getD j false) = fun j => j == i || l.getD j false := funext fun j => getD_put hil j
      rw [this]
      exact hI')
    have hlt : (List.range ops.size).countP (fun j => !(l.setIfInBounds i true).getD j false) < (List.range ops.size).countP (fun j => !l.getD j false) := by
      refine countP_less (fun j hj => ?_) (List.mem_range.2 hi') (by simp only [hf, Bool.not_false]) (by simp only [getD_put hil]; simp)
      simp only [getD_put hil, Bool.not_or, Bool.and_eq_true] at hj
      exact hj.2
    omega
/-- THE REGION, ALONG AN INVARIANT. -/
theorem region_inv {id : Nat} {a : Act} {w : World} (Inv : (Nat → Bool) → Act → World → Prop) (hm : P.follows .mixedOrders = true) (hb : backs ops = true) (h0 : Inv (fun _ => false) a w.drew)
    (hstep : ∀ (f : Nat → Bool) (a : Act) (w : World) (i : Nat) (o : Oper), ops.toList[i]? = some o → f i = false → (∀ e ∈ o.after, Region.binds .any e = true → f e.on = true) → Inv f a w →
      ∀ K : Act → World → Prop, (∀ a' w', Inv (fun j => j == i || f j) a' w' → K a' w') → if Region.wanted o (yielded ops a.tmps) = true then Oper.wp P o a w K Q else K (a.put o.dst undef) w)
    (hend : ∀ f a w, (∀ i, i < ops.size → f i = true) → Inv f a w → Q .normal a w) : (Code.region id ops true).wp P Q a w := by
  refine wp_region_any hm (region_inv_go Inv hb hstep hend _ _ _ _ (by simp) ?_ ?_)
  · exact Nat.le_trans List.countP_le_length (by simp)
  · have : (fun i => (Array.replicate ops.size false).getD i false) = fun _ => false := funext fun i => by
      by_cases h : i < ops.size <;> simp [Array.getD, h]
    rw [this]
    exact h0
end Go.Proofs.Yteeghdkejnhjnaa.Kt

/- The document's Put: what is there while its entry is made, in whatever order. -/
namespace Go.Proofs.Yteeghdkejnhjnaa.Kv
open Go Go.RowKit Go.Shelf Kt Ad Bo

/-- Bytes of a row of one's own. -/
def OwB (w : World) (n : Nat) (v : Value) (b : Bs) : Prop := w.ownsRow n 5 1 v b.length (b.map u8v)
set_option maxRecDepth 100000 in
theorem run_append_bytes2 {w : World} {base g : Nat} (hg : w.ownsRow base 5 1 (.slice (some ⟨g, 0, none⟩) 0 0) 0 []) (hbase : base ≤ w.heap.size) {v : Value} {b : List UInt8} (h : Byt w v b) (hn : b.length ≤ 1000000000) (ty : TypeId) :
    ∃ v' w', (Builtin.append_ #[25, 25] ty #[.slice (some ⟨g, 0, none⟩) 0 0, v]).run Try.prog w = .ok v' w' ∧ OwB w' base v' b ∧ w.grownBy w' (some g) ∧ (v'.ownBlock = some g ∨ v'.ownBlock = some w.heap.size) := by
  obtain ⟨i0, hi, hz0, hz1, hz2⟩ := info_parts infoU8
  obtain ⟨s, cap, rfl, hb⟩ := h
  cases s with
  | none =>
    have hb0 : b = [] := by
      by_cases h0 : b = []
      · exact h0
      · obtain ⟨g, off, e, _⟩ := hb h0; cases e
    subst hb0
    refine ⟨_, w, ?_, hg, World.grownBy.refl _ _, Or.inl rfl⟩
    simp [Builtin.append_, run_underlying Try.underlying25, sizeOf, typeInfo, hi, Builtin.lenOf, Builtin.firstCells, storeCells]
  | some ad =>
    obtain ⟨v', w', hrun, r1, r2, _, r4⟩ := run_append_own_at (P := Try.prog) (w := w) base 25 ty 5 i0 (.int .u8 0) 1 1 Try.underlying25 hi hz0 hz1 hz2 rfl (by decide) _ 0 [] hg ad b.length cap (b.map u8v) (by simp) (fun j u hj => by
      have hjl : j < b.length := by simpa using (List.getElem?_eq_some_iff.1 hj).1
      obtain ⟨g, off, e, _, hc⟩ := hb (by intro e; simp [e] at hjl)
      injection e with e
      subst e
      rw [Addr.add_lit, hc j b[j] (List.getElem?_eq_getElem hjl)]
      simpa [hjl] using hj) (by intro u hu; obtain ⟨x, _, rfl⟩ := List.mem_map.1 hu; rfl) (by unfold maxLen; omega) (by omega) hbase
    refine ⟨v', w', hrun, ?_, r2, r4⟩
    unfold OwB
    simpa only [Nat.zero_add, List.nil_append] using r1

/-- The block of a chain's row, by what has come up. -/
def blk (b0 b1 : Bool) (t0 t1 : Value) : Option Nat := if b1 then t1.ownBlock else if b0 then t0.ownBlock else none
/-- WHAT IS THERE while the entry is made: b0 .. b9 tell which operations have come up. -/
structure Mk (V : World) (a : A8) (vk vv : Value) (k v : Bs) (f : Nat → Bool) (t23 t24 t25 t26 t27 t28 t29 t30 t9 : Value) (w : World) : Prop where
  below : Below V.heap.size V w
  o3 : f 3 = true → f 1 = true
  o6 : f 6 = true → f 4 = true
  o7 : f 7 = true → f 0 = true ∧ f 3 = true ∧ f 6 = true
  o9 : f 9 = true → f 7 = true ∧ f 8 = true
  e23 : f 0 = true → t23 = a.v
  e25 : f 2 = true → t25 = vk
  e28 : f 5 = true → t28 = vv
  r24 : f 1 = true → f 3 = false → ∃ g, t24 = .slice (some ⟨g, 0, none⟩) 0 0 ∧ OwB w V.heap.size t24 []
  r26 : f 3 = true → OwB w V.heap.size t26 k
  r27 : f 4 = true → f 6 = false → ∃ g, t27 = .slice (some ⟨g, 0, none⟩) 0 0 ∧ OwB w V.heap.size t27 []
  r29 : f 6 = true → OwB w V.heap.size t29 v
  ap : ∀ x y, blk (f 1) (f 3) t24 t26 = some x → blk (f 4) (f 6) t27 t29 = some y → x ≠ y
  e30 : f 7 = true → t30 = .agg (En.cs ⟨a, t26, k, t29, v⟩).toArray
  r9 : f 8 = true → ∃ g C, t9 = .pointer (some ⟨g, 0, none⟩) ∧ V.heap.size ≤ g ∧ Lies w g 122 C ∧ C.size = 10 ∧ (f 9 = true → C = (En.cs ⟨a, t26, k, t29, v⟩).toArray)
section
variable {V w w' : World} {a : A8} {vk vv : Value} {k v : Bs} {f : Nat → Bool} {t23 t24 t25 t26 t27 t28 t29 t30 t9 : Value}
theorem Mk.zero (V : World) (a : A8) (vk vv : Value) (k v : Bs) (t23 t24 t25 t26 t27 t28 t29 t30 t9 : Value) (hb : Below V.heap.size V w) : Mk V a vk vv k v (fun _ => false) t23 t24 t25 t26 t27 t28 t29 t30 t9 w := by
  constructor <;> first | exact hb | (intro h; cases h; done) | (intro x y h; simp [blk] at h)
theorem blk_lt (h : Mk V a vk vv k v f t23 t24 t25 t26 t27 t28 t29 t30 t9 w) : (∀ x, blk (f 1) (f 3) t24 t26 = some x → x < w.heap.size) ∧ (∀ x, blk (f 4) (f 6) t27 t29 = some x → x < w.heap.size) := by
  constructor
  · intro x hx
    unfold blk at hx
    cases h3 : f 3 with
    | true => rw [h3, if_pos rfl] at hx; exact ((h.r26 h3).lt x hx).2
    | false =>
      cases h1 : f 1 with
      | true =>
        rw [h3, h1, if_neg (by decide), if_pos rfl] at hx
        obtain ⟨_, _, hr⟩ := h.r24 h1 h3
        exact (World.ownsRow.lt hr x hx).2
      | false => rw [h3, h1] at hx; cases hx
  · intro x hx
    unfold blk at hx
    cases h3 : f 6 with
    | true => rw [h3, if_pos rfl] at hx; exact ((h.r29 h3).lt x hx).2
    | false =>
      cases h1 : f 4 with
      | true =>
        rw [h3, h1, if_neg (by decide), if_pos rfl] at hx
        obtain ⟨_, _, hr⟩ := h.r27 h1 h3
        exact (World.ownsRow.lt hr x hx).2
      | false => rw [h3, h1] at hx; cases hx
theorem own_fr {x : Value} {n : Nat} {b : Bs} {g : Nat} (h : OwB w n x b) (hf : Fr w w' (fun i => i = g)) (hne : ¬ some g = x.ownBlock) : OwB w' n x b := by
  refine World.ownsRow.kept h (row := some g) ⟨hf.os, hf.tape, hf.output, hf.size, fun j hj hn => hf.block j hj (fun e => hn (by rw [e]))⟩ (Or.inr (fun e => hne e.symm))

theorem Mk.s0 (h : Mk V a vk vv k v f t23 t24 t25 t26 t27 t28 t29 t30 t9 w) : Mk V a vk vv k v (fun j => j == 0 || f j) a.v t24 t25 t26 t27 t28 t29 t30 t9 w := by
  constructor
  case below => have hh := h.below; simpa only [Nat.reduceBEq, Bool.false_or, Bool.true_or] using hh
  case o3 => have hh := h.o3; simpa only [Nat.reduceBEq, Bool.false_or] using hh
  case o6 => have hh := h.o6; simpa only [Nat.reduceBEq, Bool.false_or] using hh
  case o7 => have hh := h.o7; simp only [Nat.reduceBEq, Bool.false_or, Bool.true_or]; first | exact hh | (intro e; have := hh e; simp_all)
  case o9 => have hh := h.o9; simpa only [Nat.reduceBEq, Bool.false_or] using hh
  case e23 => exact fun _ => rfl
  case e25 => have hh := h.e25; simpa only [Nat.reduceBEq, Bool.false_or] using hh
  case e28 => have hh := h.e28; simpa only [Nat.reduceBEq, Bool.false_or] using hh
  case r24 => have hh := h.r24; simpa only [Nat.reduceBEq, Bool.false_or] using hh
  case r26 => have hh := h.r26; simpa only [Nat.reduceBEq, Bool.false_or] using hh
  case r27 => have hh := h.r27; simpa only [Nat.reduceBEq, Bool.false_or] using hh
  case r29 => have hh := h.r29; simpa only [Nat.reduceBEq, Bool.false_or] using hh
  case ap => have hh := h.ap; simpa only [Nat.reduceBEq, Bool.false_or] using hh
  case e30 => have hh := h.e30; simpa only [Nat.reduceBEq, Bool.false_or] using hh
  case r9 => have hh := h.r9; simpa only [Nat.reduceBEq, Bool.false_or] using hh
theorem Mk.s2 (h : Mk V a vk vv k v f t23 t24 t25 t26 t27 t28 t29 t30 t9 w) : Mk V a vk vv k v (fun j => j == 2 || f j) t23 t24 vk t26 t27 t28 t29 t30 t9 w := by
  constructor
  case below => have hh := h.below; simpa only [Nat.reduceBEq, Bool.false_or, Bool.true_or] using hh
  case o3 => have hh := h.o3; simpa only [Nat.reduceBEq, Bool.false_or] using hh
  case o6 => have hh := h.o6; simpa only [Nat.reduceBEq, Bool.false_or] using hh
  case o7 => have hh := h.o7; simpa only [Nat.reduceBEq, Bool.false_or] using hh
  case o9 => have hh := h.o9; simpa only [Nat.reduceBEq, Bool.false_or] using hh
  case e23 => have hh := h.e23; simpa only [Nat.reduceBEq, Bool.false_or] using hh
  case e25 => exact fun _ => rfl
  case e28 => have hh := h.e28; simpa only [Nat.reduceBEq, Bool.false_or] using hh
  case r24 => have hh := h.r24; simpa only [Nat.reduceBEq, Bool.false_or] using hh
  case r26 => have hh := h.r26; simpa only [Nat.reduceBEq, Bool.false_or] using hh
  case r27 => have hh := h.r27; simpa only [Nat.reduceBEq, Bool.false_or] using hh
  case r29 => have hh := h.r29; simpa only [Nat.reduceBEq, Bool.false_or] using hh
  case ap => have hh := h.ap; simpa only [Nat.reduceBEq, Bool.false_or] using hh
  case e30 => have hh := h.e30; simpa only [Nat.reduceBEq, Bool.false_or] using hh
  case r9 => have hh := h.r9; simpa only [Nat.reduceBEq, Bool.false_or] using hh
theorem Mk.s5 (h : Mk V a vk vv k v f t23 t24 t25 t26 t27 t28 t29 t30 t9 w) : Mk V a vk vv k v (fun j => j == 5 || f j) t23 t24 t25 t26 t27 vv t29 t30 t9 w := by
  constructor
  case below => have hh := h.below; simpa only [Nat.reduceBEq, Bool.false_or, Bool.true_or] using hh
  case o3 => have hh := h.o3; simpa only [Nat.reduceBEq, Bool.false_or] using hh
  case o6 => have hh := h.o6; simpa only [Nat.reduceBEq, Bool.false_or] using hh
  case o7 => have hh := h.o7; simpa only [Nat.reduceBEq, Bool.false_or] using hh
  case o9 => have hh := h.o9; simpa only [Nat.reduceBEq, Bool.false_or] using hh
  case e23 => have hh := h.e23; simpa only [Nat.reduceBEq, Bool.false_or] using hh
  case e25 => have hh := h.e25; simpa only [Nat.reduceBEq, Bool.false_or] using hh
  case e28 => exact fun _ => rfl
  case r24 => have hh := h.r24; simpa only [Nat.reduceBEq, Bool.false_or] using hh
  case r26 => have hh := h.r26; simpa only [Nat.reduceBEq, Bool.false_or] using hh
  case r27 => have hh := h.r27; simpa only [Nat.reduceBEq, Bool.false_or] using hh
  case r29 => have hh := h.r29; simpa only [Nat.reduceBEq, Bool.false_or] using hh
  case ap => have hh := h.ap; simpa only [Nat.reduceBEq, Bool.false_or] using hh
  case e30 => have hh := h.e30; simpa only [Nat.reduceBEq, Bool.false_or] using hh
  case r9 => have hh := h.r9; simpa only [Nat.reduceBEq, Bool.false_or] using hh
theorem Mk.s1 (h : Mk V a vk vv k v f t23 t24 t25 t26 t27 t28 t29 t30 t9 w) (hf : f 1 = false) : Mk V a vk vv k v (fun j => j == 1 || f j) t23 (.slice (some ⟨w.heap.size, 0, none⟩) 0 0) t25 t26 t27 t28 t29 t30 t9 (w.alloc (.cells #[] 5)) := by
  have hj : f 3 = false := by cases e : f 3 with | false => rfl | true => exact absurd (h.o3 e) (by rw [hf]; decide)
  constructor
  case below => exact h.below.alloc h.below.size _
  case o3 => have hh := h.o3; simp only [Nat.reduceBEq, Bool.false_or, Bool.true_or]; first | exact hh | (intro e; have := hh e; simp_all)
  case o6 => have hh := h.o6; simpa only [Nat.reduceBEq, Bool.false_or] using hh
  case o7 => have hh := h.o7; simpa only [Nat.reduceBEq, Bool.false_or] using hh
  case o9 => have hh := h.o9; simpa only [Nat.reduceBEq, Bool.false_or] using hh
  case e23 => have hh := h.e23; simpa only [Nat.reduceBEq, Bool.false_or] using hh
  case e25 => have hh := h.e25; simpa only [Nat.reduceBEq, Bool.false_or] using hh
  case e28 => have hh := h.e28; simpa only [Nat.reduceBEq, Bool.false_or] using hh
  case r24 => intro _ _; exact ⟨_, rfl, World.ownsRow_made w #[] 0 h.below.size (Nat.zero_le _) rfl⟩
  case r26 => simp only [Nat.reduceBEq, Bool.false_or]; intro e; rw [hj] at e; cases e
  case r27 => simp only [Nat.reduceBEq, Bool.false_or]; intro e e2; obtain ⟨g, e3, e4⟩ := h.r27 e e2; exact ⟨g, e3, World.ownsRow.alloc e4 _⟩
  case r29 => simp only [Nat.reduceBEq, Bool.false_or]; intro e; exact World.ownsRow.alloc (h.r29 e) _
  case ap => simp only [Nat.reduceBEq, Bool.false_or, Bool.true_or, BEq.rfl]; intro x y hx hy; have hy2 := (blk_lt h).2 y hy; unfold blk at hx; rw [hj, if_neg (by decide), if_pos rfl] at hx; injection hx with hx; simp only at hx; omega
  case e30 => have hh := h.e30; simpa only [Nat.reduceBEq, Bool.false_or] using hh
  case r9 => simp only [Nat.reduceBEq, Bool.false_or]; intro e; obtain ⟨g, C, e1, e2, e3, e4⟩ := h.r9 e; exact ⟨g, C, e1, e2, e3.alloc _, e4⟩
theorem Mk.s4 (h : Mk V a vk vv k v f t23 t24 t25 t26 t27 t28 t29 t30 t9 w) (hf : f 4 = false) : Mk V a vk vv k v (fun j => j == 4 || f j) t23 t24 t25 t26 (.slice (some ⟨w.heap.size, 0, none⟩) 0 0) t28 t29 t30 t9 (w.alloc (.cells #[] 5)) := by
  have hj : f 6 = false := by cases e : f 6 with | false => rfl | true => exact absurd (h.o6 e) (by rw [hf]; decide)
  constructor
  case below => exact h.below.alloc h.below.size _
  case o3 => have hh := h.o3; simpa only [Nat.reduceBEq, Bool.false_or] using hh
  case o6 => have hh := h.o6; simp only [Nat.reduceBEq, Bool.false_or, Bool.true_or]; first | exact hh | (intro e; have := hh e; simp_all)
  case o7 => have hh := h.o7; simpa only [Nat.reduceBEq, Bool.false_or] using hh
  case o9 => have hh := h.o9; simpa only [Nat.reduceBEq, Bool.false_or] using hh
  case e23 => have hh := h.e23; simpa only [Nat.reduceBEq, Bool.false_or] using hh
  case e25 => have hh := h.e25; simpa only [Nat.reduceBEq, Bool.false_or] using hh
  case e28 => have hh := h.e28; simpa only [Nat.reduceBEq, Bool.false_or] using hh
  case r24 => simp only [Nat.reduceBEq, Bool.false_or]; intro e e2; obtain ⟨g, e3, e4⟩ := h.r24 e e2; exact ⟨g, e3, World.ownsRow.alloc e4 _⟩
  case r26 => simp only [Nat.reduceBEq, Bool.false_or]; intro e; exact World.ownsRow.alloc (h.r26 e) _
  case r27 => intro _ _; exact ⟨_, rfl, World.ownsRow_made w #[] 0 h.below.size (Nat.zero_le _) rfl⟩
  case r29 => simp only [Nat.reduceBEq, Bool.false_or]; intro e; rw [hj] at e; cases e
  case ap => simp only [Nat.reduceBEq, Bool.false_or, Bool.true_or, BEq.rfl]; intro x y hx hy; have hy2 := (blk_lt h).1 x hx; unfold blk at hy; rw [hj, if_neg (by decide), if_pos rfl] at hy; injection hy with hy; simp only at hy; omega
  case e30 => have hh := h.e30; simpa only [Nat.reduceBEq, Bool.false_or] using hh
  case r9 => simp only [Nat.reduceBEq, Bool.false_or]; intro e; obtain ⟨g, C, e1, e2, e3, e4⟩ := h.r9 e; exact ⟨g, C, e1, e2, e3.alloc _, e4⟩
theorem Mk.s3 (h : Mk V a vk vv k v f t23 t24 t25 t26 t27 t28 t29 t30 t9 w) (hf : f 3 = false) (hp : f 1 = true) {g : Nat} {v' : Value} (hg : t24 = .slice (some ⟨g, 0, none⟩) 0 0) (ho : OwB w V.heap.size t24 []) (hr : OwB w' V.heap.size v' k) (hw : w.grownBy w' (some g)) (hb : v'.ownBlock = some g ∨ v'.ownBlock = some w.heap.size) : Mk V a vk vv k v (fun j => j == 3 || f j) t23 t24 t25 v' t27 t28 t29 t30 t9 w' := by
  have h7 : f 7 = false := by cases e : f 7 with | false => rfl | true => exact absurd (h.o7 e).2.1 (by rw [hf]; decide)
  have h9 : f 9 = false := by cases e : f 9 with | false => rfl | true => exact absurd (h.o9 e).1 (by rw [h7]; decide)
  have hgb : blk (f 1) (f 3) t24 t26 = some g := by unfold blk; rw [hf, hp, if_neg (by decide), if_pos rfl, hg]; rfl
  have hoth : ∀ x, blk (f 4) (f 6) t27 t29 = some x → x ≠ g := fun x hx e => h.ap _ _ hgb hx e.symm
  have hgl : g < w.heap.size := (World.ownsRow.lt ho g (by rw [hg]; rfl)).2
  constructor
  case below => exact h.below.grown hw h.below.size (fun x hx => by cases hx; exact (World.ownsRow.lt ho g (by rw [hg]; rfl)).1)
  case o3 => exact fun _ => by simpa only [Nat.reduceBEq, Bool.false_or] using hp
  case o6 => have hh := h.o6; simpa only [Nat.reduceBEq, Bool.false_or] using hh
  case o7 => have hh := h.o7; simp only [Nat.reduceBEq, Bool.false_or, Bool.true_or]; first | exact hh | (intro e; have := hh e; simp_all)
  case o9 => have hh := h.o9; simpa only [Nat.reduceBEq, Bool.false_or] using hh
  case e23 => have hh := h.e23; simpa only [Nat.reduceBEq, Bool.false_or] using hh
  case e25 => have hh := h.e25; simpa only [Nat.reduceBEq, Bool.false_or] using hh
  case e28 => have hh := h.e28; simpa only [Nat.reduceBEq, Bool.false_or] using hh
  case r24 => simp only [Nat.reduceBEq, Bool.false_or, Bool.true_or, BEq.rfl]; intro _ e; cases e
  case r26 => intro _; exact hr
  case r27 => simp only [Nat.reduceBEq, Bool.false_or]; intro e e2; obtain ⟨g2, e3, e4⟩ := h.r27 e e2; refine ⟨g2, e3, World.ownsRow.kept e4 hw (Or.inr (fun e5 => ?_))⟩; exact hoth g (by unfold blk; rw [e, e2, if_neg (by decide), if_pos rfl]; exact e5) rfl
  case r29 => simp only [Nat.reduceBEq, Bool.false_or]; intro e; refine World.ownsRow.kept (h.r29 e) hw (Or.inr (fun e5 => ?_)); exact hoth g (by unfold blk; rw [e, if_pos rfl]; exact e5) rfl
  case ap => simp only [Nat.reduceBEq, Bool.false_or, Bool.true_or, BEq.rfl]; intro x y hx hy; have hy2 := (blk_lt h).2 y hy; have hy3 := hoth y hy; unfold blk at hx; rw [if_pos rfl] at hx; rcases hb with hb | hb <;> (rw [hb] at hx; injection hx with hx; omega)
  case e30 => simp only [Nat.reduceBEq, Bool.false_or]; intro e; rw [h7] at e; cases e
  case r9 => simp only [Nat.reduceBEq, Bool.false_or]; intro e; obtain ⟨g2, C, e1, e2, e3, e4, e5⟩ := h.r9 e; exact ⟨g2, C, e1, e2, lies_fr e3 (Fr.of_grown hw) (fun e6 => row_ne_lies ho e3 (by decide) (by rw [hg]; exact e6)), e4, fun e6 => by rw [h9] at e6; cases e6⟩
theorem Mk.s6 (h : Mk V a vk vv k v f t23 t24 t25 t26 t27 t28 t29 t30 t9 w) (hf : f 6 = false) (hp : f 4 = true) {g : Nat} {v' : Value} (hg : t27 = .slice (some ⟨g, 0, none⟩) 0 0) (ho : OwB w V.heap.size t27 []) (hr : OwB w' V.heap.size v' v) (hw : w.grownBy w' (some g)) (hb : v'.ownBlock = some g ∨ v'.ownBlock = some w.heap.size) : Mk V a vk vv k v (fun j => j == 6 || f j) t23 t24 t25 t26 t27 t28 v' t30 t9 w' := by
  have h7 : f 7 = false := by cases e : f 7 with | false => rfl | true => exact absurd (h.o7 e).2.2 (by rw [hf]; decide)
  have h9 : f 9 = false := by cases e : f 9 with | false => rfl | true => exact absurd (h.o9 e).1 (by rw [h7]; decide)
  have hgb : blk (f 4) (f 6) t27 t29 = some g := by unfold blk; rw [hf, hp, if_neg (by decide), if_pos rfl, hg]; rfl
  have hoth : ∀ x, blk (f 1) (f 3) t24 t26 = some x → x ≠ g := fun x hx e => h.ap _ _ hx hgb e
  have hgl : g < w.heap.size := (World.ownsRow.lt ho g (by rw [hg]; rfl)).2
  constructor
  case below => exact h.below.grown hw h.below.size (fun x hx => by cases hx; exact (World.ownsRow.lt ho g (by rw [hg]; rfl)).1)
  case o3 => have hh := h.o3; simpa only [Nat.reduceBEq, Bool.false_or] using hh
  case o6 => exact fun _ => by simpa only [Nat.reduceBEq, Bool.false_or] using hp
  case o7 => have hh := h.o7; simp only [Nat.reduceBEq, Bool.false_or, Bool.true_or]; first | exact hh | (intro e; have := hh e; simp_all)
  case o9 => have hh := h.o9; simpa only [Nat.reduceBEq, Bool.false_or] using hh
  case e23 => have hh := h.e23; simpa only [Nat.reduceBEq, Bool.false_or] using hh
  case e25 => have hh := h.e25; simpa only [Nat.reduceBEq, Bool.false_or] using hh
  case e28 => have hh := h.e28; simpa only [Nat.reduceBEq, Bool.false_or] using hh
  case r24 => simp only [Nat.reduceBEq, Bool.false_or]; intro e e2; obtain ⟨g2, e3, e4⟩ := h.r24 e e2; refine ⟨g2, e3, World.ownsRow.kept e4 hw (Or.inr (fun e5 => ?_))⟩; exact hoth g (by unfold blk; rw [e, e2, if_neg (by decide), if_pos rfl]; exact e5) rfl
  case r26 => simp only [Nat.reduceBEq, Bool.false_or]; intro e; refine World.ownsRow.kept (h.r26 e) hw (Or.inr (fun e5 => ?_)); exact hoth g (by unfold blk; rw [e, if_pos rfl]; exact e5) rfl
  case r27 => simp only [Nat.reduceBEq, Bool.false_or, Bool.true_or, BEq.rfl]; intro _ e; cases e
  case r29 => intro _; exact hr
  case ap => simp only [Nat.reduceBEq, Bool.false_or, Bool.true_or, BEq.rfl]; intro x y hx hy; have hy2 := (blk_lt h).1 x hx; have hy3 := hoth x hx; unfold blk at hy; rw [if_pos rfl] at hy; rcases hb with hb | hb <;> (rw [hb] at hy; injection hy with hy; omega)
  case e30 => simp only [Nat.reduceBEq, Bool.false_or]; intro e; rw [h7] at e; cases e
  case r9 => simp only [Nat.reduceBEq, Bool.false_or]; intro e; obtain ⟨g2, C, e1, e2, e3, e4, e5⟩ := h.r9 e; exact ⟨g2, C, e1, e2, lies_fr e3 (Fr.of_grown hw) (fun e6 => row_ne_lies ho e3 (by decide) (by rw [hg]; exact e6)), e4, fun e6 => by rw [h9] at e6; cases e6⟩
theorem Mk.s7 (h : Mk V a vk vv k v f t23 t24 t25 t26 t27 t28 t29 t30 t9 w) (h0 : f 0 = true) (h3 : f 3 = true) (h6 : f 6 = true) : Mk V a vk vv k v (fun j => j == 7 || f j) t23 t24 t25 t26 t27 t28 t29 (.agg (En.cs ⟨a, t26, k, t29, v⟩).toArray) t9 w := by
  constructor
  case below => have hh := h.below; simpa only [Nat.reduceBEq, Bool.false_or, Bool.true_or] using hh
  case o3 => have hh := h.o3; simpa only [Nat.reduceBEq, Bool.false_or] using hh
  case o6 => have hh := h.o6; simpa only [Nat.reduceBEq, Bool.false_or] using hh
  case o7 => simp only [Nat.reduceBEq, Bool.false_or]; exact fun _ => ⟨h0, h3, h6⟩
  case o9 => have hh := h.o9; simp only [Nat.reduceBEq, Bool.false_or, Bool.true_or]; first | exact hh | (intro e; have := hh e; simp_all)
  case e23 => have hh := h.e23; simpa only [Nat.reduceBEq, Bool.false_or] using hh
  case e25 => have hh := h.e25; simpa only [Nat.reduceBEq, Bool.false_or] using hh
  case e28 => have hh := h.e28; simpa only [Nat.reduceBEq, Bool.false_or] using hh
  case r24 => have hh := h.r24; simpa only [Nat.reduceBEq, Bool.false_or] using hh
  case r26 => have hh := h.r26; simpa only [Nat.reduceBEq, Bool.false_or] using hh
  case r27 => have hh := h.r27; simpa only [Nat.reduceBEq, Bool.false_or] using hh
  case r29 => have hh := h.r29; simpa only [Nat.reduceBEq, Bool.false_or] using hh
  case ap => have hh := h.ap; simpa only [Nat.reduceBEq, Bool.false_or] using hh
  case e30 => exact fun _ => rfl
  case r9 => have hh := h.r9; simpa only [Nat.reduceBEq, Bool.false_or] using hh
theorem Mk.s8 (h : Mk V a vk vv k v f t23 t24 t25 t26 t27 t28 t29 t30 t9 w) (hf : f 8 = false) {C : Array Value} (hC : C.size = 10) : Mk V a vk vv k v (fun j => j == 8 || f j) t23 t24 t25 t26 t27 t28 t29 t30 (.pointer (some ⟨w.heap.size, 0, none⟩)) (w.alloc (.cells C 122)) := by
  have h9 : f 9 = false := by cases e : f 9 with | false => rfl | true => exact absurd (h.o9 e).2 (by rw [hf]; decide)
  constructor
  case below => exact h.below.alloc h.below.size _
  case o3 => have hh := h.o3; simpa only [Nat.reduceBEq, Bool.false_or] using hh
  case o6 => have hh := h.o6; simpa only [Nat.reduceBEq, Bool.false_or] using hh
  case o7 => have hh := h.o7; simpa only [Nat.reduceBEq, Bool.false_or] using hh
  case o9 => have hh := h.o9; simp only [Nat.reduceBEq, Bool.false_or, Bool.true_or]; first | exact hh | (intro e; have := hh e; simp_all)
  case e23 => have hh := h.e23; simpa only [Nat.reduceBEq, Bool.false_or] using hh
  case e25 => have hh := h.e25; simpa only [Nat.reduceBEq, Bool.false_or] using hh
  case e28 => have hh := h.e28; simpa only [Nat.reduceBEq, Bool.false_or] using hh
  case r24 => simp only [Nat.reduceBEq, Bool.false_or]; intro e e2; obtain ⟨g, e3, e4⟩ := h.r24 e e2; exact ⟨g, e3, World.ownsRow.alloc e4 _⟩
  case r26 => simp only [Nat.reduceBEq, Bool.false_or]; intro e; exact World.ownsRow.alloc (h.r26 e) _
  case r27 => simp only [Nat.reduceBEq, Bool.false_or]; intro e e2; obtain ⟨g, e3, e4⟩ := h.r27 e e2; exact ⟨g, e3, World.ownsRow.alloc e4 _⟩
  case r29 => simp only [Nat.reduceBEq, Bool.false_or]; intro e; exact World.ownsRow.alloc (h.r29 e) _
  case ap => have hh := h.ap; simpa only [Nat.reduceBEq, Bool.false_or] using hh
  case e30 => have hh := h.e30; simpa only [Nat.reduceBEq, Bool.false_or] using hh
  case r9 => simp only [Nat.reduceBEq, Bool.false_or]; intro _; exact ⟨_, C, rfl, h.below.size, Lies.new w _ _, hC, fun e => by rw [h9] at e; cases e⟩
theorem Mk.s9 (h : Mk V a vk vv k v f t23 t24 t25 t26 t27 t28 t29 t30 t9 w) (h7 : f 7 = true) (h8 : f 8 = true) {g : Nat} {C : Array Value} (ht : t9 = .pointer (some ⟨g, 0, none⟩)) (hgV : V.heap.size ≤ g) (hl : Lies w g 122 C) (hw : Fr w w' (fun x => x = g)) (hl' : Lies w' g 122 (En.cs ⟨a, t26, k, t29, v⟩).toArray) : Mk V a vk vv k v (fun j => j == 9 || f j) t23 t24 t25 t26 t27 t28 t29 t30 t9 w' := by
  have kp : ∀ (x : Value) (b : Bs), OwB w V.heap.size x b → OwB w' V.heap.size x b := fun x b hr => own_fr hr hw (fun e => row_ne_lies hr hl (by decide) e)
  constructor
  case below => exact h.below.trans (hw.below h.below.size (fun x e => e ▸ hgV))
  case o3 => have hh := h.o3; simpa only [Nat.reduceBEq, Bool.false_or] using hh
  case o6 => have hh := h.o6; simpa only [Nat.reduceBEq, Bool.false_or] using hh
  case o7 => have hh := h.o7; simpa only [Nat.reduceBEq, Bool.false_or] using hh
  case o9 => simp only [Nat.reduceBEq, Bool.false_or]; exact fun _ => ⟨h7, h8⟩
  case e23 => have hh := h.e23; simpa only [Nat.reduceBEq, Bool.false_or] using hh
  case e25 => have hh := h.e25; simpa only [Nat.reduceBEq, Bool.false_or] using hh
  case e28 => have hh := h.e28; simpa only [Nat.reduceBEq, Bool.false_or] using hh
  case r24 => simp only [Nat.reduceBEq, Bool.false_or]; intro e e2; obtain ⟨g, e3, e4⟩ := h.r24 e e2; exact ⟨g, e3, kp _ _ e4⟩
  case r26 => simp only [Nat.reduceBEq, Bool.false_or]; intro e; exact kp _ _ (h.r26 e)
  case r27 => simp only [Nat.reduceBEq, Bool.false_or]; intro e e2; obtain ⟨g, e3, e4⟩ := h.r27 e e2; exact ⟨g, e3, kp _ _ e4⟩
  case r29 => simp only [Nat.reduceBEq, Bool.false_or]; intro e; exact kp _ _ (h.r29 e)
  case ap => have hh := h.ap; simpa only [Nat.reduceBEq, Bool.false_or] using hh
  case e30 => have hh := h.e30; simpa only [Nat.reduceBEq, Bool.false_or] using hh
  case r9 => simp only [Nat.reduceBEq, Bool.false_or]; intro _; exact ⟨g, _, ht, hgV, hl', rfl, fun _ => rfl⟩
end
end Go.Proofs.Yteeghdkejnhjnaa.Kv

/- Several entries appended at once. -/
namespace Go.Proofs.Yteeghdkejnhjnaa.Kv
open Go Go.RowKit Go.Shelf Kt Ad Bo

theorem flat_len (ys : List En) : (ys.flatMap En.cs).length = ys.length * 10 := by
  induction ys with
  | nil => rfl
  | cons x ys ih => rw [List.flatMap_cons, List.length_append, ih, En.len, List.length_cons]; omega
/-- A slice's entries, to be appended. -/
def Src (w : World) (s : Option Addr) (ys : List En) : Prop := ys ≠ [] → ∃ A, s = some A ∧ ∀ j u, (ys.flatMap En.cs)[j]? = some u → w.cell? (A.add j) = some u
set_option maxRecDepth 100000 in
theorem run_append_ens {w : World} {base : Nat} {v : Value} {n : Nat} {xs : List Value} (h : w.ownsRow base 122 10 v n xs) (hbase : base ≤ w.heap.size) (hn : n ≤ 3000000) {s : Option Addr} {c : Nat} (ys : List En) (hm : ys.length ≤ 3000000) (h1 : ∀ u ∈ ys.flatMap En.cs, u.oneCell' = true) (hs : Src w s ys) (ty : TypeId) :
    ∃ v' w', (Builtin.append_ #[73, 73] ty #[v, .slice s ys.length c]).run Try.prog w = .ok v' w' ∧ w'.ownsRow base 122 10 v' (n + ys.length) (xs ++ ys.flatMap En.cs) ∧ w.grownBy w' v.ownBlock := by
  obtain ⟨i0, hi, hz0, hz1, hz2⟩ := info_parts infoEn
  cases s with
  | none =>
    have hy0 : ys = [] := by
      by_cases h0 : ys = []
      · exact h0
      · obtain ⟨A, e, _⟩ := hs h0; cases e
    subst hy0
    refine ⟨v, w, ?_, by simpa using h, World.grownBy.refl _ _⟩
    rcases h.2 with ⟨rfl, h0⟩ | ⟨g, cap, cur, rfl, _, hg, hle, _⟩
    · simp [Builtin.append_, run_underlying Try.underlying73, sizeOf, typeInfo, hi, Builtin.lenOf, Builtin.firstCells]
    · simp [Builtin.append_, run_underlying Try.underlying73, sizeOf, typeInfo, hi, Builtin.lenOf, Builtin.firstCells, storeCells, hle]
  | some A =>
    obtain ⟨v', w', hrun, r1, r2, _⟩ := run_append_own (P := Try.prog) w base 73 ty 122 i0 _ 10 56 Try.underlying73 hi hz0 hz1 hz2 rfl (by decide) v n xs h A ys.length c (ys.flatMap En.cs) (flat_len ys) (fun j u hj => by
      have hne : ys ≠ [] := fun e => by rw [e] at hj; cases hj
      obtain ⟨A', e, hc⟩ := hs hne
      injection e with e
      exact e ▸ hc j u hj) h1 (by unfold maxLen; omega) (by omega) hbase
    exact ⟨v', w', hrun, r1, r2⟩
theorem wp_append_ens {o : Oper} {a : Act} {w : World} {K : Act → World → Prop} {Q : Exit → Act → World → Prop} {base : Nat} {v : Value} {n : Nat} {xs : List Value} (h : w.ownsRow base 122 10 v n xs) (hbase : base ≤ w.heap.size) (hn : n ≤ 3000000) {s : Option Addr} {c m : Nat} (ys : List En) (hml : m = ys.length) (hm : m ≤ 3000000) (h1 : ∀ u ∈ ys.flatMap En.cs, u.oneCell' = true) (hs : Src w s ys) (p q : Operand)
    (ho : o.op = .call { callee := .builtin .append, args := #[p, q], argTypes := #[73, 73] }) (hp : a.eval p = v) (hq : a.eval q = .slice s m c)
    (hK : ∀ v' w', w'.ownsRow base 122 10 v' (n + m) (xs ++ ys.flatMap En.cs) → w.grownBy w' v.ownBlock → K (a.put o.dst v') w') : Oper.wp Try.prog o a w K Q := by
  subst hml
  obtain ⟨v', w', hrun, r1, r2⟩ := run_append_ens h hbase hn ys hm h1 hs (c := c) o.type
  unfold Oper.wp
  simp [execOp, ho, resolve, invoke, builtin, hp, hq, hrun, Result.andThen]
  exact hK v' w' r1 r2
theorem bslice_en0 (w : World) : (Instr.buildSlice 73 0 #[]).run Try.prog w = .ok (.slice (some ⟨w.heap.size, 0, none⟩) 0 0) (w.alloc (.cells #[] 122)) := by kernel_rfl
theorem wp_bslice_en0 {o : Oper} {a : Act} {w : World} {K : Act → World → Prop} {Q : Exit → Act → World → Prop} (ho : o.op = .buildSlice 73 0 #[])
    (hk : K (a.put o.dst (.slice (some ⟨w.heap.size, 0, none⟩) 0 0)) (w.alloc (.cells #[] 122))) : Oper.wp Try.prog o a w K Q := by
  have hb := bslice_en0 w
  unfold Oper.wp execOp
  simp only [ho, List.map_toArray, List.map_nil, hb, Sem.run_bind, Sem.run_pure, Result.andThen_ok]
  exact hk
theorem wp_bslice_en {o : Oper} {a : Act} {w : World} {K : Act → World → Prop} {Q : Exit → Act → World → Prop} (x : A8) (s s' : Option Addr) (n n' c c' : Nat) (b b' : Bs) (p : Operand) (ho : o.op = .buildSlice 73 1 #[(0, p)]) (hp : a.eval p = .agg (En.cs ⟨x, .slice s n c, b, .slice s' n' c', b'⟩).toArray)
    (hk : K (a.put o.dst (.slice (some ⟨w.heap.size, 0, none⟩) 1 1)) (w.alloc (.cells (En.cs ⟨x, .slice s n c, b, .slice s' n' c', b'⟩).toArray 122))) : Oper.wp Try.prog o a w K Q := by
  have hb := bslice_en x s s' n n' c c' b b' w
  unfold Oper.wp execOp
  simp only [ho, List.map_toArray, List.map_cons, List.map_nil, hp, hb, Sem.run_bind, Sem.run_pure, Result.andThen_ok]
  exact hk
theorem src_new {w : World} {g : Nat} {x : En} (h : Lies w g 122 x.cs.toArray) : Src w (some ⟨g, 0, none⟩) [x] := fun _ => ⟨_, rfl, fun j u hj => by
  rw [Addr.add_lit, Nat.zero_add, h.cell j]
  simpa using hj⟩
theorem src_take {w : World} {own : Nat → Prop} {g n c : Nat} {M : List En} (h : WRow w own 122 10 (.slice (some ⟨g, 0, none⟩) n c) n (M.flatMap En.cs)) (j : Nat) : Src w (some ⟨g, 0, none⟩) (M.take j) := fun _ => ⟨_, rfl, fun i u hi => by
  rw [Addr.add_lit, Nat.zero_add]
  refine h.cell ?_
  have : M.flatMap En.cs = (M.take j).flatMap En.cs ++ (M.drop j).flatMap En.cs := by rw [← List.flatMap_append, List.take_append_drop]
  rw [this, List.getElem?_append_left (List.getElem?_eq_some_iff.1 hi).1]
  exact hi⟩
theorem src_drop {w : World} {own : Nat → Prop} {g n c : Nat} {M : List En} (h : WRow w own 122 10 (.slice (some ⟨g, 0, none⟩) n c) n (M.flatMap En.cs)) {j : Nat} (hj : j ≤ M.length) : Src w (some ⟨g, j * 10, none⟩) (M.drop j) := fun _ => ⟨_, rfl, fun i u hi => by
  rw [Addr.add_lit]
  refine h.cell ?_
  have : M.flatMap En.cs = (M.take j).flatMap En.cs ++ (M.drop j).flatMap En.cs := by rw [← List.flatMap_append, List.take_append_drop]
  have hl : ((M.take j).flatMap En.cs).length = j * 10 := by rw [flat_len, List.length_take, Nat.min_eq_left hj]
  rw [this, List.getElem?_append_right (by omega), hl, Nat.add_sub_cancel_left]
  exact hi⟩
theorem ones_row {W : World} {own : Nat → Prop} {M : List En} (h : ∀ x ∈ M, Bts W own x.kv x.k ∧ Bts W own x.vv x.v) : ∀ u ∈ M.flatMap En.cs, u.oneCell' = true := by
  intro u hu
  obtain ⟨x, hx, hu⟩ := List.mem_flatMap.1 hu
  obtain ⟨h1, h2⟩ := h x hx
  obtain ⟨s, c, e1⟩ := h1.form
  obtain ⟨s', c', e2⟩ := h2.form
  obtain ⟨xa, xkv, xk, xvv, xv⟩ := x
  simp only at e1 e2
  subst e1 e2
  exact ones_en _ _ _ _ _ _ _ _ _ u hu
end Go.Proofs.Yteeghdkejnhjnaa.Kv

/- The document's Put: what is there while its longer row is put together, in whatever order. -/
namespace Go.Proofs.Yteeghdkejnhjnaa.Kv
open Go Go.RowKit Go.Shelf Kt Ad Bo

def upd (tv : Nat → Value) (i : Nat) (v : Value) : Nat → Value := fun j => if j == i then v else tv j
def on (f : Nat → Bool) (i : Nat) : Nat → Bool := fun j => j == i || f j
theorem upd_ne {tv : Nat → Value} {i k : Nat} {v : Value} (h : k ≠ i) : upd tv i v k = tv k := by simp [upd, h]
theorem upd_eq {tv : Nat → Value} {i : Nat} {v : Value} : upd tv i v i = v := by simp [upd]
theorem on_ne {f : Nat → Bool} {i k : Nat} (h : k ≠ i) : on f i k = f k := by simp [on, h]
theorem on_eq {f : Nat → Bool} {i : Nat} : on f i i = true := by simp [on]
/-- WHAT IS THERE: f tells which operations have come up, tv what they told. -/
structure Pk (V : World) (cv : Nat → Option Value) (j : Nat) (M : List En) (x : En) (br : Nat) (f : Nat → Bool) (tv : Nat → Value) (w : World) : Prop where
  sim : ∀ i v, f i = true → cv i = some v → tv i = v
  low : f 21 = false → Below V.heap.size V w
  o8 : f 8 = true → f 1 = true
  o11 : f 11 = true → f 8 = true ∧ f 10 = true
  o18 : f 18 = true → f 11 = true
  o21 : f 21 = true → f 18 = true
  al : f 21 = true → ∀ i, i < 19 → f i = true
  r1 : f 1 = true → f 8 = false → ∃ g, tv 1 = .slice (some ⟨g, 0, none⟩) 0 0 ∧ w.ownsRow V.heap.size 122 10 (tv 1) 0 [] ∧ (f 10 = true → ∀ xb, tv 10 = .slice (some ⟨xb, 0, none⟩) 1 1 → g ≠ xb)
  r10 : f 10 = true → f 11 = false → ∃ xb, tv 10 = .slice (some ⟨xb, 0, none⟩) 1 1 ∧ Lies w xb 122 x.cs.toArray
  r8 : f 8 = true → f 11 = false → w.ownsRow V.heap.size 122 10 (tv 8) j ((M.take j).flatMap En.cs)
  r11 : f 11 = true → f 18 = false → w.ownsRow V.heap.size 122 10 (tv 11) (j + 1) ((M.take j).flatMap En.cs ++ [x].flatMap En.cs)
  r18 : f 18 = true → f 21 = false → w.ownsRow V.heap.size 122 10 (tv 18) (j + 1 + (M.length - j)) (((M.take j).flatMap En.cs ++ [x].flatMap En.cs) ++ (M.drop j).flatMap En.cs)
  fin : f 21 = true → ∃ U vn, Below V.heap.size V U ∧ U.ownsRow V.heap.size 122 10 vn (j + 1 + (M.length - j)) (((M.take j).flatMap En.cs ++ [x].flatMap En.cs) ++ (M.drop j).flatMap En.cs) ∧ w = U.setCell ⟨br, 0, none⟩ vn
section
variable {V w w' : World} {cv : Nat → Option Value} {j br : Nat} {M : List En} {x : En} {f : Nat → Bool} {tv : Nat → Value}
theorem Pk.zero (V : World) (cv : Nat → Option Value) (j : Nat) (M : List En) (x : En) (br : Nat) (tv : Nat → Value) (hb : Below V.heap.size V w) : Pk V cv j M x br (fun _ => false) tv w := by
  constructor <;> first | exact fun _ => hb | (intro h; cases h; done) | (intro h i _; cases h; done) | (intro i v h; cases h; done)
theorem Pk.simple (h : Pk V cv j M x br f tv w) {i : Nat} {v : Value} (hv : cv i = some v) (n1 : 1 ≠ i) (n8 : 8 ≠ i) (n10 : 10 ≠ i) (n11 : 11 ≠ i) (n18 : 18 ≠ i) (n21 : 21 ≠ i) : Pk V cv j M x br (on f i) (upd tv i v) w := by
  constructor
  case sim =>
    intro k u hk hc
    by_cases e : k = i
    · subst e; rw [upd_eq]; rw [hv] at hc; exact Option.some.inj hc
    · rw [upd_ne e]; rw [on_ne e] at hk; exact h.sim k u hk hc
  all_goals simp only [on_ne n1, on_ne n8, on_ne n10, on_ne n11, on_ne n18, on_ne n21, upd_ne n1, upd_ne n8, upd_ne n10, upd_ne n11, upd_ne n18]
  case low => exact h.low
  case o8 => exact h.o8
  case o11 => exact h.o11
  case o18 => exact h.o18
  case al => intro e q hq; by_cases e2 : q = i
             · rw [e2]; exact on_eq
             · rw [on_ne e2]; exact h.al e q hq
  case o21 => exact h.o21
  case r1 => exact h.r1
  case r10 => exact h.r10
  case r8 => exact h.r8
  case r11 => exact h.r11
  case r18 => exact h.r18
  case fin => exact h.fin
theorem sim_chain (h : Pk V cv j M x br f tv w) {i : Nat} (v : Value) (hv : cv i = none) : ∀ k u, on f i k = true → cv k = some u → upd tv i v k = u := fun k u hk hc => by
  by_cases e : k = i
  · subst e; rw [hv] at hc; cases hc
  · rw [upd_ne e]; rw [on_ne e] at hk; exact h.sim k u hk hc
theorem off_of {b c : Bool} (h : c = true → b = true) (hb : b = false) : c = false := by cases c with | false => rfl | true => rw [h rfl] at hb; cases hb
theorem Pk.c1 (h : Pk V cv j M x br f tv w) (hf : f 1 = false) (hv : cv 1 = none) : Pk V cv j M x br (on f 1) (upd tv 1 (.slice (some ⟨w.heap.size, 0, none⟩) 0 0)) (w.alloc (.cells #[] 122)) := by
  have h8 := off_of h.o8 hf
  have h11 := off_of (fun e => (h.o11 e).1) h8
  have h18 := off_of h.o18 h11
  have h21 := off_of h.o21 h18
  have hB := h.low h21
  constructor
  case sim => exact sim_chain h _ hv
  all_goals simp only [on_eq, on_ne (show 8 ≠ 1 by decide), on_ne (show 10 ≠ 1 by decide), on_ne (show 11 ≠ 1 by decide), on_ne (show 18 ≠ 1 by decide), on_ne (show 21 ≠ 1 by decide), upd_eq, upd_ne (show 8 ≠ 1 by decide), upd_ne (show 10 ≠ 1 by decide), upd_ne (show 11 ≠ 1 by decide), upd_ne (show 18 ≠ 1 by decide), h8, h11, h18, h21]
  case low => exact fun _ => hB.alloc hB.size _
  case o8 => intro e; cases e
  case o11 => intro e; cases e
  case o18 => intro e; cases e
  case o21 => intro e; cases e
  case al => intro e; cases e
  case r1 =>
    intro _ _
    refine ⟨_, rfl, World.ownsRow_made w #[] 0 hB.size (Nat.zero_le _) rfl, fun e xb ex => ?_⟩
    obtain ⟨xb', e1, e2⟩ := h.r10 e h11
    rw [e1] at ex
    injection ex with ex; injection ex with ex; injection ex with ex
    have := e2.lt
    omega
  case r10 => intro e _; obtain ⟨xb, e1, e2⟩ := h.r10 e h11; exact ⟨xb, e1, e2.alloc _⟩
  case r8 => intro e; cases e
  case r11 => intro e; cases e
  case r18 => intro e; cases e
  case fin => intro e; cases e
theorem Pk.c10 (h : Pk V cv j M x br f tv w) (hf : f 10 = false) (hv : cv 10 = none) : Pk V cv j M x br (on f 10) (upd tv 10 (.slice (some ⟨w.heap.size, 0, none⟩) 1 1)) (w.alloc (.cells x.cs.toArray 122)) := by
  have h11 := off_of (fun e => (h.o11 e).2) hf
  have h18 := off_of h.o18 h11
  have h21 := off_of h.o21 h18
  have hB := h.low h21
  constructor
  case sim => exact sim_chain h _ hv
  all_goals simp only [on_eq, on_ne (show 8 ≠ 10 by decide), on_ne (show 1 ≠ 10 by decide), on_ne (show 11 ≠ 10 by decide), on_ne (show 18 ≠ 10 by decide), on_ne (show 21 ≠ 10 by decide), upd_eq, upd_ne (show 8 ≠ 10 by decide), upd_ne (show 1 ≠ 10 by decide), upd_ne (show 11 ≠ 10 by decide), upd_ne (show 18 ≠ 10 by decide), h11, h18, h21]
  case low => exact fun _ => hB.alloc hB.size _
  case o8 => exact h.o8
  case o11 => intro e; cases e
  case o18 => intro e; cases e
  case o21 => intro e; cases e
  case al => intro e; cases e
  case r1 =>
    intro e e8
    obtain ⟨g, e1, e2, _⟩ := h.r1 e e8
    refine ⟨g, e1, World.ownsRow.alloc e2 _, fun _ xb ex => ?_⟩
    injection ex with ex; injection ex with ex; injection ex with ex
    have := (World.ownsRow.lt e2 g (by rw [e1]; rfl)).2
    omega
  case r10 => intro _ _; exact ⟨_, rfl, Lies.new w _ _⟩
  case r8 => intro e _; exact World.ownsRow.alloc (h.r8 e h11) _
  case r11 => intro e; cases e
  case r18 => intro e; cases e
  case fin => intro e; cases e
theorem Pk.c8 (h : Pk V cv j M x br f tv w) (hf : f 8 = false) (hv : cv 8 = none) (hp : f 1 = true) {g : Nat} {v' : Value} (h1 : tv 1 = .slice (some ⟨g, 0, none⟩) 0 0) (hr : w'.ownsRow V.heap.size 122 10 v' j ((M.take j).flatMap En.cs)) (hg : w.grownBy w' (some g)) : Pk V cv j M x br (on f 8) (upd tv 8 v') w' := by
  have h11 := off_of (fun e => (h.o11 e).1) hf
  have h18 := off_of h.o18 h11
  have h21 := off_of h.o21 h18
  have hB := h.low h21
  obtain ⟨g', e1, e2, e3⟩ := h.r1 hp hf
  rw [h1] at e1
  injection e1 with e1; injection e1 with e1; injection e1 with e1
  subst e1
  constructor
  case sim => exact sim_chain h _ hv
  all_goals simp only [on_eq, on_ne (show 10 ≠ 8 by decide), on_ne (show 1 ≠ 8 by decide), on_ne (show 11 ≠ 8 by decide), on_ne (show 18 ≠ 8 by decide), on_ne (show 21 ≠ 8 by decide), upd_eq, upd_ne (show 10 ≠ 8 by decide), upd_ne (show 1 ≠ 8 by decide), upd_ne (show 11 ≠ 8 by decide), upd_ne (show 18 ≠ 8 by decide), h11, h18, h21]
  case low => exact fun _ => hB.grown hg hB.size (fun k e => by cases e; exact (World.ownsRow.lt e2 g (by rw [h1]; rfl)).1)
  case o8 => exact fun _ => hp
  case o11 => intro e; cases e
  case o18 => intro e; cases e
  case o21 => intro e; cases e
  case al => intro e; cases e
  case r1 => intro _ e; cases e
  case r10 =>
    intro e _
    obtain ⟨xb, e5, e6⟩ := h.r10 e h11
    exact ⟨xb, e5, lies_fr e6 (Fr.of_grown hg) (fun e7 => e3 e xb e5 (Option.some.inj e7).symm)⟩
  case r8 => exact fun _ _ => hr
  case r11 => intro e; cases e
  case r18 => intro e; cases e
  case fin => intro e; cases e
theorem Pk.c11 (h : Pk V cv j M x br f tv w) (hf : f 11 = false) (hv : cv 11 = none) (hp : f 8 = true) (hq : f 10 = true) {v' : Value} (hr : w'.ownsRow V.heap.size 122 10 v' (j + 1) ((M.take j).flatMap En.cs ++ [x].flatMap En.cs)) (hg : w.grownBy w' (tv 8).ownBlock) : Pk V cv j M x br (on f 11) (upd tv 11 v') w' := by
  have h18 := off_of h.o18 hf
  have h21 := off_of h.o21 h18
  have hB := h.low h21
  have e2 := h.r8 hp hf
  constructor
  case sim => exact sim_chain h _ hv
  all_goals simp only [on_eq, on_ne (show 10 ≠ 11 by decide), on_ne (show 1 ≠ 11 by decide), on_ne (show 8 ≠ 11 by decide), on_ne (show 18 ≠ 11 by decide), on_ne (show 21 ≠ 11 by decide), upd_eq, upd_ne (show 10 ≠ 11 by decide), upd_ne (show 1 ≠ 11 by decide), upd_ne (show 8 ≠ 11 by decide), upd_ne (show 18 ≠ 11 by decide), h18, h21]
  case low => exact fun _ => hB.grown hg hB.size (fun k e => (World.ownsRow.lt e2 k e).1)
  case o8 => exact h.o8
  case o11 => exact fun _ => ⟨hp, hq⟩
  case o18 => intro e; cases e
  case o21 => intro e; cases e
  case al => intro e; cases e
  case r1 => intro _ e; rw [hp] at e; cases e
  case r10 => intro _ e; cases e
  case r8 => intro _ e; cases e
  case r11 => exact fun _ _ => hr
  case r18 => intro e; cases e
  case fin => intro e; cases e
theorem Pk.c18 (h : Pk V cv j M x br f tv w) (hf : f 18 = false) (hv : cv 18 = none) (hp : f 11 = true) {v' : Value} (hr : w'.ownsRow V.heap.size 122 10 v' (j + 1 + (M.length - j)) (((M.take j).flatMap En.cs ++ [x].flatMap En.cs) ++ (M.drop j).flatMap En.cs)) (hg : w.grownBy w' (tv 11).ownBlock) : Pk V cv j M x br (on f 18) (upd tv 18 v') w' := by
  have h21 := off_of h.o21 hf
  have hB := h.low h21
  have e2 := h.r11 hp hf
  constructor
  case sim => exact sim_chain h _ hv
  all_goals simp only [on_eq, on_ne (show 10 ≠ 18 by decide), on_ne (show 1 ≠ 18 by decide), on_ne (show 8 ≠ 18 by decide), on_ne (show 11 ≠ 18 by decide), on_ne (show 21 ≠ 18 by decide), upd_eq, upd_ne (show 10 ≠ 18 by decide), upd_ne (show 1 ≠ 18 by decide), upd_ne (show 8 ≠ 18 by decide), upd_ne (show 11 ≠ 18 by decide), h21]
  case low => exact fun _ => hB.grown hg hB.size (fun k e => (World.ownsRow.lt e2 k e).1)
  case o8 => exact h.o8
  case o11 => exact h.o11
  case o18 => exact fun _ => hp
  case o21 => intro e; cases e
  case al => intro e; cases e
  case r1 => intro _ e; rw [(h.o11 hp).1] at e; cases e
  case r10 => intro _ e; rw [hp] at e; cases e
  case r8 => intro _ e; rw [hp] at e; cases e
  case r11 => intro _ e; cases e
  case r18 => exact fun _ _ => hr
  case fin => intro e; cases e
theorem Pk.c21 (h : Pk V cv j M x br f tv w) (hf : f 21 = false) (hv : cv 21 = none) (hp : f 18 = true) (hA : ∀ i, i < 19 → f i = true) : Pk V cv j M x br (on f 21) tv (w.setCell ⟨br, 0, none⟩ (tv 18)) := by
  have hB := h.low hf
  have e2 := h.r18 hp hf
  have h11 := h.o18 hp
  constructor
  case sim =>
    intro k u hk hc
    by_cases e : k = 21
    · subst e; rw [hv] at hc; cases hc
    · rw [on_ne e] at hk; exact h.sim k u hk hc
  all_goals simp only [on_eq, on_ne (show 10 ≠ 21 by decide), on_ne (show 1 ≠ 21 by decide), on_ne (show 8 ≠ 21 by decide), on_ne (show 11 ≠ 21 by decide), on_ne (show 18 ≠ 21 by decide)]
  case low => intro e; cases e
  case o8 => exact h.o8
  case o11 => exact h.o11
  case o18 => exact h.o18
  case o21 => exact fun _ => hp
  case al => intro _ q hq; rw [on_ne (by omega)]; exact hA q hq
  case r1 => intro _ e; rw [(h.o11 h11).1] at e; cases e
  case r10 => intro _ e; rw [h11] at e; cases e
  case r8 => intro _ e; rw [h11] at e; cases e
  case r11 => intro _ e; rw [hp] at e; cases e
  case r18 => intro _ e; cases e
  case fin => exact fun _ => ⟨w, _, hB, e2, rfl⟩
end
end Go.Proofs.Yteeghdkejnhjnaa.Kv
