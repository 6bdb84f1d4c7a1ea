/- The document's order of addresses: the walk of Less. -/
import Derived.Test.YteeghdkejnhjnaaSo
import Derived.Test.YteeghdkejnhjnaaBx
namespace Go.Proofs.Yteeghdkejnhjnaa.Ad
open Go Go.RowKit Kt

/-- The comparison, from a place on. -/
theorem cmp_step (a b : A8) (k : Nat) (hk : k < 8) :
    Lib.compareBytes (a.l.drop k) (b.l.drop k) = if a.l[k]! < b.l[k]! then -1 else if b.l[k]! < a.l[k]! then 1 else Lib.compareBytes (a.l.drop (k + 1)) (b.l.drop (k + 1)) := by
  have h1 : k < a.l.length := hk
  have h2 : k < b.l.length := hk
  rw [List.drop_eq_getElem_cons h1, List.drop_eq_getElem_cons h2, getElem!_pos a.l k h1, getElem!_pos b.l k h2]
  conv => lhs; unfold Lib.compareBytes
theorem byte_at {W : World} {b : Nat} {t : TypeId} {a : A8} (h : Lies W b t a.cs.toArray) {k : Nat} (hk : k < 8) : W.cell? ⟨b, k, none⟩ = some (.int .u8 (a.l[k]!.toNat : Int)) := by
  rw [h.cell]
  have hcs : a.cs = a.l.map fun x : UInt8 => Value.int .u8 (x.toNat : Int) := rfl
  have h1 : k < a.l.length := hk
  simp [hcs, h1]

set_option maxRecDepth 100000 in
set_option maxHeartbeats 4000000 in
theorem less_any (a b : A8) (W : World) :
    Calls Try.prog 69 #[a.v, b.v] W fun e w' => e = .returned (.bool (decide (a.num < b.num))) ∧ Below W.heap.size W w' := by
  have hd : decide (a.num < b.num) = decide (Lib.compareBytes (a.l.drop 0) (b.l.drop 0) < 0) := by
    rw [decide_eq_decide]; exact (cmpA_lt a b).symm
  rw [hd]
  clear hd
  have hA := (Lies.new W 24 a.cs.toArray).alloc (.cells b.cs.toArray 24)
  have hB := Lies.new (W.alloc (.cells a.cs.toArray 24)) 24 b.cs.toArray
  rw [World.size_alloc] at hB
  have hW : Below W.heap.size W ((W.alloc (.cells a.cs.toArray 24)).alloc (.cells b.cs.toArray 24)) := ((Below.refl _ _).alloc (Nat.le_refl _) _).alloc (by simp) _
  have HA := Lib.hid hA
  have HB := Lib.hid hB
  have HW := Lib.hid hW
  clear hA hB hW
  simp only [A8.v]
  go_enter Try.func69, Try.ntmps69
  go_wp2_with fail
  go_loopw [5] (fun i wr => ∃ k : Nat, k ≤ 8 ∧ i = .int .i64 k ∧ Lib.compareBytes (a.l.drop 0) (b.l.drop 0) = Lib.compareBytes (a.l.drop k) (b.l.drop k) ∧ Lies wr W.heap.size 24 a.cs.toArray ∧ Lies wr (W.heap.size + 1) 24 b.cs.toArray ∧ Below W.heap.size W wr)
    (fun i _ => 8 - (intOf i).toNat)
  case atStart => exact ⟨0, by omega, rfl, rfl, HA.out, HB.out, HW.out⟩
  case round =>
    obtain ⟨k, hk, rfl, hc, hA, hB, hW⟩ := hrel
    by_cases hlt : k < 8
    · have c1 := byte_at hA hlt
      have c2 := byte_at hB hlt
      have HS := Lib.hid (cmp_step a b k hlt)
      have HC := Lib.hid hc
      have HA2 := Lib.hid hA
      have HB2 := Lib.hid hB
      have HW2 := Lib.hid hW
      clear hc hA hB hW HA HB HW
      generalize a.l[k]! = x at c1 HS
      generalize b.l[k]! = y at c2 HS
      by_cases hxy : x = y
      · subst hxy
        have HE := Lib.hid (show Lib.compareBytes (a.l.drop 0) (b.l.drop 0) = Lib.compareBytes (a.l.drop (k + 1)) (b.l.drop (k + 1)) by rw [HC.out, HS.out]; simp [UInt8.lt_irrefl])
        go_wp2_with fail
        go_quiet (fail)
        go_wp2_with fail
        go_roundw
        case rel => exact ⟨k + 1, by omega, by go_num, HE.out, HA2.out, HB2.out, below_drewN HW2.out _⟩
        case measure => simp [intOf]; omega
      · have h1 : ((x.toNat : Int) == (y.toNat : Int)) = false := by rw [beq_u8]; simpa using hxy
        have h2 : ((x.toNat : Int) != (y.toNat : Int)) = true := by rw [bne, h1]; rfl
        have HE := Lib.hid (show decide (Lib.compareBytes (a.l.drop 0) (b.l.drop 0) < 0) = decide ((x.toNat : Int) < (y.toNat : Int)) by
          rw [HC.out, HS.out]
          by_cases hl : x < y
          · have : x.toNat < y.toNat := hl
            simp [hl]; omega
          · have h3 : ¬ x.toNat < y.toNat := hl
            have h4 : y < x := by
              have : x.toNat ≠ y.toNat := fun e => hxy (UInt8.toNat_inj.1 e)
              show y.toNat < x.toNat
              omega
            simp [hl, h4]; omega)
        have HX := Lib.hid hxy
        clear hxy
        go_wp2_with fail
        go_quiet (fail)
        go_wp2_with fail
        go_quiet (fail)
        go_wp2_with fail
        go_ret
        exact ⟨by rw [HE.out]; simp, below_drewN (below_drewN HW2.out _) _⟩
    · obtain rfl : k = 8 := by omega
      have HE := Lib.hid (show decide (Lib.compareBytes (a.l.drop 0) (b.l.drop 0) < 0) = false by rw [hc]; rfl)
      have HW2 := Lib.hid hW
      clear hc hA hB hW HA HB HW
      go_wp2_with fail
      go_ret
      exact ⟨by rw [HE.out]; rfl, HW2.out⟩
end Go.Proofs.Yteeghdkejnhjnaa.Ad
