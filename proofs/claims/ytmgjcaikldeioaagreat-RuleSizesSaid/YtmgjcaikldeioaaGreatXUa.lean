/- Bytes of one's own of which nothing but their number is told; numbers as bytes (leb). -/
import Derived.Test.YtmgjcaikldeioaaGreatXGj
namespace Go.Proofs.YtmgjcaikldeioaaGreat.Ty
open Go Go.RowKit Go.Lib Kt Fm Gr

def oc (v : Value) : List Value := [v]
theorem flat_oc : ∀ l : List Value, l.flatMap oc = l
 | [] => rfl
 | x :: r => by rw [List.flatMap_cons, flat_oc r]; rfl
/-- So many bytes of one's own. -/
def Own (w : World) (H : Nat) (v : Value) (n : Nat) : Prop := ∃ xs : List Value, xs.length = n ∧ w.ownsRow H 5 1 v n xs ∧ ∀ y ∈ xs, y.oneCell' = true
theorem Own.nil (w : World) (H : Nat) : Own w H (.slice none 0 0) 0 := ⟨[], rfl, World.ownsRow_nil _ _ _ _, fun _ h => by cases h⟩
section
variable {w w' : World} {H n : Nat} {v : Value}
theorem Own.later (h : Own w H v n) (hb : Below w.heap.size w w') : Own w' H v n := by
 obtain ⟨xs, h1, h2, h3⟩ := h
 exact ⟨xs, h1, ownsRow_keep h2 hb, h3⟩
theorem Own.fr {m : Nat → Prop} (h : Own w H v n) (hf : Fr w w' m) (hn : ∀ k, v.ownBlock = some k → ¬ m k) : Own w' H v n := by
 obtain ⟨xs, h1, h2, h3⟩ := h
 exact ⟨xs, h1, row_fr h2 hf hn, h3⟩
theorem Own.base {H' : Nat} (h : Own w H v n) (hh : H' ≤ H) : Own w H' v n := by
 obtain ⟨xs, h1, h2, h3⟩ := h
 exact ⟨xs, h1, ownsRow_base h2 hh, h3⟩
theorem Own.form (h : Own w H v n) : ∃ s c, v = .slice s n c ∧ n ≤ c := by
 obtain ⟨xs, h1, h2, h3⟩ := h
 obtain ⟨s, c, rfl, hc, _⟩ := row_form h2
 exact ⟨s, c, rfl, hc⟩
theorem Own.block (h : Own w H v n) {k : Nat} (hk : v.ownBlock = some k) : H ≤ k ∧ k < w.heap.size ∧ ∃ cur, w.heap[k]? = some (.cells cur 5 (0, 0)) := by
 obtain ⟨xs, h1, h2, h3⟩ := h
 exact row_block h2 hk
theorem Own.sl (h : Own w H v n) : ∃ L : List Value, L.length = n ∧ Sl w 1 oc v L ∧ ∀ y ∈ L, ∀ u ∈ oc y, u.oneCell' = true := by
 obtain ⟨xs, rfl, h2, h3⟩ := h
 refine ⟨xs, rfl, own_sl (fun _ => rfl) (by rw [flat_oc]; exact h2), fun y hy u hu => ?_⟩
 obtain rfl := List.mem_singleton.1 hu
 exact h3 u hy
theorem Own.frT (h : Own w H v n) (hg : w.grownBy w' v.ownBlock) : FrT [5] w w' := by
 obtain ⟨xs, h1, h2, h3⟩ := h
 exact FrT.grown h2 hg
end
theorem und_u8s : Tryz.prog.underlying 49 = some (.slice 5) := by kernel_rfl
theorem inf_u8 : (Tryz.prog.info? 5).map (fun i => (i.zero.map (·.cells.size), i.size, i.bytes)) = some (some 1, 1, 1) := by kernel_rfl
theorem siz_u8s : (Tryz.prog.info? 49).map (·.size) = some 1 := by kernel_rfl
theorem bs_b1 (n : Int) (w : World) : (Instr.buildSlice 49 1 #[(0, .int .u8 n)]).run Tryz.prog w = .ok (.slice (some ⟨w.heap.size, 0, none⟩) 1 1) (w.alloc (.cells [.int .u8 n].toArray 5)) := by kernel_rfl
section
variable {ops : Array Oper} {rest : List Oper} {op : Oper} {a : Act} {w : World} {Q : Exit → Act → World → Prop} {K : Act → World → Prop} {H n : Nat} {v : Value}
/-- More bytes, as a slice shows them. -/
theorem wp_more (p q : Operand) (ho : op.op = .call { callee := .builtin .append, args := #[p, q], argTypes := #[49, 49] }) (hv : a.eval p = v) (hown : Own w H v n) {α : Type} {en : α → List Value} (hlen : ∀ x, (en x).length = 1) {x : Value} {L : List α} (hq : a.eval q = x) (hx : Sl w 1 en x L) (h1 : ∀ y ∈ L, ∀ u ∈ en y, u.oneCell' = true)
  (hn : n + L.length ≤ 140737488355328) (hbase : H ≤ w.heap.size) (hK : ∀ v' w', Own w' H v' (n + L.length) → w.grownBy w' v.ownBlock → (v'.ownBlock = v.ownBlock ∨ v'.ownBlock = some w.heap.size) → K (a.put op.dst v') w') : op.wp Tryz.prog a w K Q := by
 obtain ⟨xs, h2, h3, h4⟩ := hown
 refine wp_app (by_ := 1) p q ho und_u8s inf_u8 (by decide) hv h3 hlen hq hx h1 (by unfold maxLen; omega) (by omega) hbase fun v' w' r1 r2 r3 => hK v' w' ⟨xs ++ L.flatMap en, ?_, r1, fun y hy => ?_⟩ r2 r3
 ·rw [List.length_append, length_flat hlen, Nat.mul_one, h2]
 ·rcases List.mem_append.1 hy with hy | hy
  ·exact h4 y hy
  ·obtain ⟨z, hz, hy⟩ := List.mem_flatMap.1 hy
   exact h1 z hz y hy
theorem wl_more (p q : Operand) (hgd : op.guard = none) (ho : op.op = .call { callee := .builtin .append, args := #[p, q], argTypes := #[49, 49] }) (hv : a.eval p = v) (hown : Own w H v n) {α : Type} {en : α → List Value} (hlen : ∀ x, (en x).length = 1) {x : Value} {L : List α} (hq : a.eval q = x) (hx : Sl w 1 en x L) (h1 : ∀ y ∈ L, ∀ u ∈ en y, u.oneCell' = true)
  (hn : n + L.length ≤ 140737488355328) (hbase : H ≤ w.heap.size) (hK : ∀ v' w', Own w' H v' (n + L.length) → w.grownBy w' v.ownBlock → (v'.ownBlock = v.ownBlock ∨ v'.ownBlock = some w.heap.size) → wpList Tryz.prog ops Q rest (a.put op.dst v') w') : wpList Tryz.prog ops Q (op :: rest) a w :=
 wpList_plain hgd fun _ hK' => wp_more p q ho hv hown hlen hq hx h1 hn hbase fun v' w' h2 h3 h4 => hK' _ _ (hK v' w' h2 h3 h4)
/-- A byte as a slice. -/
theorem wl_b1 (c : Int) (p0 : Operand) (hgd : op.guard = none) (ho : op.op = .buildSlice 49 1 #[(0, p0)]) (h0 : a.eval p0 = .int .u8 c)
  (hK : ∀ w1, Below w.heap.size w w1 → Sl w1 1 oc (.slice (some ⟨w.heap.size, 0, none⟩) 1 1) [.int .u8 c] → wpList Tryz.prog ops Q rest (a.put op.dst (.slice (some ⟨w.heap.size, 0, none⟩) 1 1)) w1) : wpList Tryz.prog ops Q (op :: rest) a w :=
 wl_bs1 (.int .u8 c) [.int .u8 c] (bs_b1 c) p0 hgd ho h0 fun w1 h1 h2 => hK w1 h1 (sl_one (en := oc) h2)
end
theorem one_oc (c : Int) : ∀ y ∈ [Value.int .u8 c], ∀ u ∈ oc y, u.oneCell' = true := fun y hy u hu => by
 obtain rfl := List.mem_singleton.1 hy
 obtain rfl := List.mem_singleton.1 hu
 rfl
/-- What is built up: bytes of one's own, nothing else turned but they. -/
def Bo (W w : World) (v : Value) (n : Nat) : Prop := Own w W.heap.size v n ∧ Below W.heap.size W w
theorem Bo.more {W w w' : World} {v v' : Value} {n k : Nat} (h : Bo W w v n) (ho : Own w' W.heap.size v' k) (hg : w.grownBy w' v.ownBlock) : Bo W w' v' k :=
 ⟨ho, h.2.grown hg h.2.size (fun _ hk => (h.1.block hk).1)⟩
theorem Bo.later {W w w' : World} {v : Value} {n : Nat} (h : Bo W w v n) (hb : Below w.heap.size w w') : Bo W w' v n := ⟨h.1.later hb, bt h.2 hb⟩
theorem div_step (n k : Nat) : n / 128 ^ k / 128 = n / 128 ^ (k + 1) := by rw [Nat.div_div_eq_div_mul, Nat.pow_succ]
theorem div_le {n k : Nat} (hn : n < 18446744073709551616) (h : 128 ≤ n / 128 ^ k) : k ≤ 8 := by
 have h0 : 0 < 128 ^ k := Nat.pow_pos (by decide)
 have h1 := (Nat.le_div_iff_mul_le h0).1 h
 by_cases hk : k ≤ 8
 ·exact hk
 ·have h2 : 128 ^ 9 ≤ 128 ^ k := Nat.pow_le_pow_right (by decide) (by omega)
  have h3 : (128 : Nat) ^ 9 = 9223372036854775808 := by decide
  omega
set_option maxRecDepth 100000 in
set_option maxHeartbeats 4000000 in
theorem appu_any {W : World} {n : Nat} (hn : n < 18446744073709551616) :
  Calls Tryz.prog 114 #[.slice none 0 0, .int .u64 n] W fun e w' => ∃ v, e = .returned v ∧ ∃ k, Own w' W.heap.size v k ∧ k ≤ 10 ∧ Below W.heap.size W w' := by
 go_enter Tryz.func114, Tryz.ntmps114
 go_wp2_with fail
 go_loopw [1, 5] (fun m out wr => ∃ k : Nat, k ≤ 9 ∧ m = .int .u64 ((n / 128 ^ k : Nat) : Int) ∧ Bo W wr out k)
  (fun m _ _ => (Lib.intOf m).toNat)
 case atStart => exact ⟨0, by omega, by simp, Own.nil _ _, Below.refl _ _⟩
 case round =>
  obtain ⟨k, hk, rfl, hB⟩ := hrel
  have HB := zh hB
  clear hB
  obtain ⟨m, hm⟩ : ∃ m, m = n / 128 ^ k := ⟨_, rfl⟩
  have hstep := div_step n k
  have hle := div_le (k := k) hn
  rw [← hm] at hstep hle ⊢
  by_cases h128 : 128 ≤ m
  ·have h128' : (128 : Int) ≤ (m : Int) := by omega
   have hk8 := hle h128
   have HST := zh hstep
   clear hstep hle hm
   go_wp2_with (first | (refine wl_b1 _ _ rfl rfl rfl (fun w1 hb1 hs1 => ?_); have HB1 := zh (HB.out.later hb1); have HS1 := zh hs1; clear hb1 hs1; try simp only [Act.put, sA, sB, sC]) | (refine wl_more _ _ rfl rfl rfl HB1.out.1 (fun _ => rfl) rfl HS1.out (one_oc _) (by simp; omega) HB1.out.2.size (fun v2 w2 ho2 hg2 hv2 => ?_); have HB2 := zh (HB1.out.more ho2 hg2); clear ho2 hg2 hv2; try simp only [Act.put, sA, sB, sC]))
   exact ⟨⟨k + 1, by omega, by rw [← HST.out]; rfl, HB2.out⟩, by simp [Lib.intOf]; omega⟩
  ·have h128' : ¬ (128 : Int) ≤ (m : Int) := by omega
   clear hstep hle hm
   go_wp2_with (first | (refine wl_b1 _ _ rfl rfl rfl (fun w1 hb1 hs1 => ?_); have HB1 := zh (HB.out.later hb1); have HS1 := zh hs1; clear hb1 hs1; try simp only [Act.put, sA, sB, sC]) | (refine wl_more _ _ rfl rfl rfl HB1.out.1 (fun _ => rfl) rfl HS1.out (one_oc _) (by simp; omega) HB1.out.2.size (fun v2 w2 ho2 hg2 hv2 => ?_); have HB2 := zh (HB1.out.more ho2 hg2); clear ho2 hg2 hv2; try simp only [Act.put, sA, sB, sC]))
   go_ret
   exact ⟨_, rfl, _, HB2.out.1, by simp; omega, HB2.out.2⟩
theorem sdiv {n : Int} {k : Nat} (h1 : -9223372036854775808 ≤ n) (h2 : n ≤ 9223372036854775807) (hk : k ≤ 9) (h : n / 128 ^ k < -64 ∨ 63 < n / 128 ^ k) : k ≤ 8 := by
 rcases (by omega : k ≤ 8 ∨ k = 9) with h9 | rfl
 ·exact h9
 ·have e : (128 : Int) ^ 9 = 9223372036854775808 := by decide
  rw [e] at h
  omega
theorem sdiv_step (n : Int) (k : Nat) : n / 128 ^ k / 128 = n / 128 ^ (k + 1) := by rw [Int.ediv_ediv_of_nonneg (Int.pow_nonneg (by decide)), Int.pow_succ]
def absm (n : Int) : Nat := (if 0 ≤ n then n else - n - 1).toNat
theorem absm_lt {m : Int} (h : m < -64 ∨ 63 < m) : absm (m / 128) < absm m := by
 unfold absm
 split <;> split <;> omega
set_option maxRecDepth 100000 in
set_option maxHeartbeats 4000000 in
theorem apps_any {W : World} {n : Int} (h1 : -9223372036854775808 ≤ n) (h2 : n ≤ 9223372036854775807) :
  Calls Tryz.prog 115 #[.slice none 0 0, .int .i64 n] W fun e w' => ∃ v, e = .returned v ∧ ∃ k, Own w' W.heap.size v k ∧ k ≤ 10 ∧ Below W.heap.size W w' := by
 go_enter Tryz.func115, Tryz.ntmps115
 go_wp2_with fail
 go_loopw [1, 5] (fun m out wr => ∃ k : Nat, k ≤ 9 ∧ m = .int .i64 (n / 128 ^ k) ∧ Bo W wr out k)
  (fun m _ _ => absm (Lib.intOf m))
 case atStart => exact ⟨0, by omega, by simp, Own.nil _ _, Below.refl _ _⟩
 case round =>
  obtain ⟨k, hk, rfl, hB⟩ := hrel
  have HB := zh hB
  clear hB
  obtain ⟨m, hm⟩ : ∃ m, m = n / 128 ^ k := ⟨_, rfl⟩
  have hstep := sdiv_step n k
  have hle := sdiv (k := k) h1 h2 hk
  rw [← hm] at hstep hle ⊢
  have HST := zh hstep
  have HLE := zh hle
  clear hstep hle hm
  by_cases ha : m < -64
  ·have hk8 := HLE.out (Or.inl ha)
   go_wp2_with (first | (refine wl_b1 _ _ rfl rfl rfl (fun w1 hb1 hs1 => ?_); have HB1 := zh (HB.out.later hb1); have HS1 := zh hs1; clear hb1 hs1; try simp only [Act.put, sA, sB, sC]) | (refine wl_more _ _ rfl rfl rfl HB1.out.1 (fun _ => rfl) rfl HS1.out (one_oc _) (by simp; omega) HB1.out.2.size (fun v2 w2 ho2 hg2 hv2 => ?_); have HB2 := zh (HB1.out.more ho2 hg2); clear ho2 hg2 hv2; try simp only [Act.put, sA, sB, sC]))
   exact ⟨⟨k + 1, by omega, by rw [← HST.out], HB2.out⟩, absm_lt (Or.inl ha)⟩
  ·by_cases hb : 63 < m
   ·have hk8 := HLE.out (Or.inr hb)
    go_wp2_with (first | (refine wl_b1 _ _ rfl rfl rfl (fun w1 hb1 hs1 => ?_); have HB1 := zh (HB.out.later hb1); have HS1 := zh hs1; clear hb1 hs1; try simp only [Act.put, sA, sB, sC]) | (refine wl_more _ _ rfl rfl rfl HB1.out.1 (fun _ => rfl) rfl HS1.out (one_oc _) (by simp; omega) HB1.out.2.size (fun v2 w2 ho2 hg2 hv2 => ?_); have HB2 := zh (HB1.out.more ho2 hg2); clear ho2 hg2 hv2; try simp only [Act.put, sA, sB, sC]))
    exact ⟨⟨k + 1, by omega, by rw [← HST.out], HB2.out⟩, absm_lt (Or.inr hb)⟩
   ·go_wp2_with (first | (refine wl_b1 _ _ rfl rfl rfl (fun w1 hb1 hs1 => ?_); have HB1 := zh (HB.out.later hb1); have HS1 := zh hs1; clear hb1 hs1; try simp only [Act.put, sA, sB, sC]) | (refine wl_more _ _ rfl rfl rfl HB1.out.1 (fun _ => rfl) rfl HS1.out (one_oc _) (by simp; omega) HB1.out.2.size (fun v2 w2 ho2 hg2 hv2 => ?_); have HB2 := zh (HB1.out.more ho2 hg2); clear ho2 hg2 hv2; try simp only [Act.put, sA, sB, sC]))
    go_ret
    exact ⟨_, rfl, _, HB2.out.1, by simp; omega, HB2.out.2⟩
end Go.Proofs.YtmgjcaikldeioaaGreat.Ty
