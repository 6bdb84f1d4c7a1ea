/- Plain facts: texts and addresses go there and back; texts are in the order of addresses. -/
import Derived.Test.YtldeialjonanmaaDoorAdR
import Derived.Test.YtldeialjonanmaaDoorAdO
namespace Go.Proofs.YtldeialjonanmaaDoor.Ad
open Go

theorem dig_hex (n : Nat) (h : n < 16) : isHex (dig n) = true ∧ hexN (dig n) = n := dig_facts ⟨n, h⟩
theorem pair_dig (x : UInt8) : pair (dig (x.toNat / 16)) (dig (x.toNat % 16)) = x := by
  have := u8_lt x
  unfold pair
  rw [(dig_hex _ (by omega)).2, (dig_hex _ (by omega)).2, show 16 * (x.toNat / 16) + x.toNat % 16 = x.toNat by omega]
  simp
theorem text_hex (a : A8) : a.text.all isHex = true := by
  simp only [A8.text, List.all_flatMap, List.all_eq_true]
  intro x _
  have := u8_lt x
  intro y hy
  simp only [hex2, List.mem_cons, List.mem_nil_iff, or_false] at hy
  rcases hy with rfl | rfl
  · exact (dig_hex _ (by omega)).1
  · exact (dig_hex _ (by omega)).1
theorem text_size (a : A8) : (⟨a.text.toArray⟩ : ByteArray).size = 16 := rfl
theorem spell_text (a : A8) : spell ⟨a.text.toArray⟩ (text_size a) = a := by
  obtain ⟨x0, x1, x2, x3, x4, x5, x6, x7⟩ := a
  have : spell ⟨(A8.mk x0 x1 x2 x3 x4 x5 x6 x7).text.toArray⟩ (text_size _) =
    ⟨pair (dig (x0.toNat / 16)) (dig (x0.toNat % 16)), pair (dig (x1.toNat / 16)) (dig (x1.toNat % 16)), pair (dig (x2.toNat / 16)) (dig (x2.toNat % 16)), pair (dig (x3.toNat / 16)) (dig (x3.toNat % 16)),
     pair (dig (x4.toNat / 16)) (dig (x4.toNat % 16)), pair (dig (x5.toNat / 16)) (dig (x5.toNat % 16)), pair (dig (x6.toNat / 16)) (dig (x6.toNat % 16)), pair (dig (x7.toNat / 16)) (dig (x7.toNat % 16))⟩ := rfl
  rw [this]
  simp only [pair_dig]
theorem hex2_pair (c d : UInt8) (hc : isHex c = true) (hd : isHex d = true) : hex2 (pair c d) = [c, d] := by
  have h1 := hex_facts c hc
  have h2 := hex_facts d hd
  have e : (pair c d).toNat = 16 * hexN c + hexN d := by have := pair_nat c d hc hd; omega
  unfold hex2
  rw [e, show (16 * hexN c + hexN d) / 16 = hexN c by omega, show (16 * hexN c + hexN d) % 16 = hexN d by omega, h1.2.2, h2.2.2]
theorem text_spell (s : ByteArray) (h : s.size = 16) (hx : s.data.toList.all isHex = true) : (spell s h).text = s.data.toList := by
  have hh := fun i hi => at_hex s hx i hi
  have e : (spell s h).text = hex2 (pair s[0] s[1]) ++ (hex2 (pair s[2] s[3]) ++ (hex2 (pair s[4] s[5]) ++ (hex2 (pair s[6] s[7]) ++ (hex2 (pair s[8] s[9]) ++ (hex2 (pair s[10] s[11]) ++ (hex2 (pair s[12] s[13]) ++ (hex2 (pair s[14] s[15]) ++ []))))))) := rfl
  rw [e, hex2_pair _ _ (hh _ _) (hh _ _), hex2_pair _ _ (hh _ _) (hh _ _), hex2_pair _ _ (hh _ _) (hh _ _), hex2_pair _ _ (hh _ _) (hh _ _), hex2_pair _ _ (hh _ _) (hh _ _), hex2_pair _ _ (hh _ _) (hh _ _), hex2_pair _ _ (hh _ _) (hh _ _), hex2_pair _ _ (hh _ _) (hh _ _)]
  apply List.ext_getElem
  · simpa using h.symm
  · intro i h1 h2
    have hi : i < 16 := by simpa using h1
    have hd : ∀ (j : Nat) (hj : j < s.size), s[j] = s.data.toList[j]'(by simpa using hj) := fun j hj => by rw [ByteArray.getElem_eq_getElem_data]; simp
    have hk : i = 0 ∨ i = 1 ∨ i = 2 ∨ i = 3 ∨ i = 4 ∨ i = 5 ∨ i = 6 ∨ i = 7 ∨ i = 8 ∨ i = 9 ∨ i = 10 ∨ i = 11 ∨ i = 12 ∨ i = 13 ∨ i = 14 ∨ i = 15 := by omega
    rcases hk with rfl | rfl | rfl | rfl | rfl | rfl | rfl | rfl | rfl | rfl | rfl | rfl | rfl | rfl | rfl | rfl <;> exact hd _ _

theorem dig_lt : ∀ m n : Fin 16, (dig m.1 < dig n.1) = (m.1 < n.1) := by
  intro m n
  have h : ∀ m n : Fin 16, decide (dig m.1 < dig n.1) = decide (m.1 < n.1) := by decide +kernel
  simpa using h m n

def val : List UInt8 → Nat
  | [] => 0
  | x :: l => x.toNat * 256 ^ l.length + val l
theorem val_lt : ∀ l : List UInt8, val l < 256 ^ l.length
  | [] => by simp [val]
  | x :: l => by
    have h1 := val_lt l
    have h2 := u8_lt x
    simp only [val, List.length_cons, Nat.pow_succ]
    have : x.toNat * 256 ^ l.length + 256 ^ l.length ≤ 256 * 256 ^ l.length := by
      rw [← Nat.succ_mul]
      exact Nat.mul_le_mul_right _ (by omega)
    omega
theorem num_val (a : A8) : a.num = val a.l := by
  simp only [A8.num, A8.l, val, List.length_cons, List.length_nil]
  omega

theorem compare_val : ∀ l m : List UInt8, l.length = m.length → Lib.compareBytes (l.flatMap hex2) (m.flatMap hex2) = ordN (val l) (val m)
  | [], [], _ => by simp [Lib.compareBytes, ordN, val]
  | [], _ :: _, h => by simp at h
  | _ :: _, [], h => by simp at h
  | x :: l, y :: m, h => by
    have hl : l.length = m.length := by simpa using h
    have ih := compare_val l m hl
    have hx := u8_lt x
    have hy := u8_lt y
    have v1 := val_lt l
    have v2 := val_lt m
    have d1 := dig_lt ⟨x.toNat / 16, by omega⟩ ⟨y.toNat / 16, by omega⟩
    have d2 := dig_lt ⟨y.toNat / 16, by omega⟩ ⟨x.toNat / 16, by omega⟩
    have d3 := dig_lt ⟨x.toNat % 16, by omega⟩ ⟨y.toNat % 16, by omega⟩
    have d4 := dig_lt ⟨y.toNat % 16, by omega⟩ ⟨x.toNat % 16, by omega⟩
    simp only [List.flatMap_cons, hex2, List.cons_append, List.nil_append, Lib.compareBytes]
    simp only [d1, d2, d3, d4]
    have hval : ∀ p q : Nat, p < q → ∀ P u v : Nat, u < P → p * P + u < q * P + v := by
      intro p q hpq P u v hu
      have : p * P + P ≤ q * P := by rw [← Nat.succ_mul]; exact Nat.mul_le_mul_right _ hpq
      omega
    simp only [val]
    rw [← hl] at v2 ⊢
    rcases Nat.lt_trichotomy x.toNat y.toNat with hlt | heq | hgt
    · have hv := hval _ _ hlt (256 ^ l.length) (val l) (val m) v1
      have e : ordN (x.toNat * 256 ^ l.length + val l) (y.toNat * 256 ^ l.length + val m) = -1 := by unfold ordN; rw [if_pos hv]
      rw [e]
      by_cases hq : x.toNat / 16 < y.toNat / 16
      · rw [if_pos hq]
      · rw [if_neg hq, if_neg (by omega), if_pos (by omega)]
    · rw [if_neg (by omega), if_neg (by omega), if_neg (by omega), if_neg (by omega)]
      have ih' : Lib.compareBytes (l.flatMap fun b => [dig (b.toNat / 16), dig (b.toNat % 16)]) (m.flatMap fun b => [dig (b.toNat / 16), dig (b.toNat % 16)]) = ordN (val l) (val m) := ih
      first | rw [ih] | rw [ih'] | skip
      rw [heq]
      unfold ordN
      by_cases c1 : val l < val m
      · rw [if_pos c1, if_pos (by omega)]
      · rw [if_neg c1, if_neg (by omega : ¬ y.toNat * 256 ^ l.length + val l < y.toNat * 256 ^ l.length + val m)]
        by_cases c2 : val m < val l
        · rw [if_pos c2, if_pos (by omega)]
        · rw [if_neg c2, if_neg (by omega)]
    · have hv := hval _ _ hgt (256 ^ l.length) (val m) (val l) v2
      have e : ordN (x.toNat * 256 ^ l.length + val l) (y.toNat * 256 ^ l.length + val m) = 1 := by unfold ordN; rw [if_neg (by omega), if_pos hv]
      rw [e]
      by_cases hq : y.toNat / 16 < x.toNat / 16
      · rw [if_neg (by omega), if_pos hq]
      · rw [if_neg (by omega), if_neg (by omega), if_neg (by omega), if_pos (by omega)]

theorem compare_text (a b : A8) : Lib.compareBytes a.text b.text = ordN a.num b.num := by
  rw [num_val, num_val]
  exact compare_val a.l b.l rfl
theorem ordN_neg (x y : Nat) : ordN x y = -ordN y x := by
  unfold ordN
  rcases Nat.lt_trichotomy x y with h | h | h
  · rw [if_pos h, if_neg (by omega), if_pos h]
  · subst h; simp
  · rw [if_neg (by omega), if_pos h, if_pos h]; rfl
end Go.Proofs.YtldeialjonanmaaDoor.Ad
