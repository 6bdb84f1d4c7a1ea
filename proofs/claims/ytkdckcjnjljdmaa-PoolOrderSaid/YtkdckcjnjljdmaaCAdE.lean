/- Two addresses held against each other by ==. -/
import Derived.Test.YtkdckcjnjljdmaaCAdP
import Derived.Test.YtkdckcjnjljdmaaCKit
import Derived.ChangeKeysEq
namespace Go.Proofs.Ytkdckcjnjljdmaa.Ad
open Go Go.RowKit Kt

theorem beq_u8 (a b : UInt8) : ((a.toNat : Int) == (b.toNat : Int)) = decide (a = b) := by
  by_cases h : a = b
  · subst h; simp
  · have : ¬ a.toNat = b.toNat := fun e => h (UInt8.toNat_inj.1 e)
    simp [h]; omega

/-- One place of the array after the other. -/
theorem items_u8 (w : World) (d : Nat) (xs ys : Array Value) (l m : List UInt8) (hx : xs = (l.map fun b : UInt8 => Value.int .u8 (b.toNat : Int)).toArray) (hy : ys = (m.map fun b : UInt8 => Value.int .u8 (b.toNat : Int)).toArray) (hlm : l.length = m.length) :
    ∀ (is : List Nat), (∀ i ∈ is, i < l.length) → (Op.eqItems (d + 1) 5 1 xs ys is).run Try.prog w = .ok (is.all fun i => decide (l[i]?.getD 0 = m[i]?.getD 0)) w
  | [], _ => by simp [Op.eqItems]
  | i :: is, h => by
    have hi := h i (by simp)
    have e1 : xs[i]? = some (.int .u8 ((l[i]?.getD 0).toNat : Int)) := by subst hx; simp [hi]
    have e2 : ys[i]? = some (.int .u8 ((m[i]?.getD 0).toNat : Int)) := by subst hy; simp [show i < m.length by omega]
    have ih := items_u8 w d xs ys l m hx hy hlm is (fun j hj => h j (by simp [hj]))
    have p1 : (part 5 xs (i * 1)).run Try.prog w = .ok (.int .u8 ((l[i]?.getD 0).toNat : Int)) w := by simp [part, e1]
    have p2 : (part 5 ys (i * 1)).run Try.prog w = .ok (.int .u8 ((m[i]?.getD 0).toNat : Int)) w := by simp [part, e2]
    have p3 := run_equalIn_int (P := Try.prog) w d 5 .u8 .u8 ((l[i]?.getD 0).toNat : Int) ((m[i]?.getD 0).toNat : Int) Try.underlying5
    rw [beq_u8] at p3
    simp only [Op.eqItems, Sem.run_bind, p1, p2, p3, Result.andThen_ok, List.all_cons]
    by_cases hh : l[i]?.getD 0 = m[i]?.getD 0
    · simp [hh, ih]
    · simp [hh]

theorem A8.ext_l {a b : A8} : a = b ↔ (List.range 8).all (fun i => decide (a.l[i]?.getD 0 = b.l[i]?.getD 0)) = true := by
  obtain ⟨a0, a1, a2, a3, a4, a5, a6, a7⟩ := a
  obtain ⟨b0, b1, b2, b3, b4, b5, b6, b7⟩ := b
  rw [show List.range 8 = [0, 1, 2, 3, 4, 5, 6, 7] from rfl]
  simp [A8.l]

theorem info8 : (Try.prog.info? 5).map (·.size) = some 1 := by kernel_rfl
theorem cells8 : Try.prog.cellsOf 5 = 1 := by kernel_rfl

set_option maxRecDepth 100000 in
@[go_sem] theorem equalIn_addr (w : World) (d : Nat) (a b : A8) :
    (Op.equalIn (d + 2) 23 a.v b.v).run Try.prog w = .ok (decide (a = b)) w := by
  obtain ⟨i0, hi, _⟩ := Option.map_eq_some_iff.1 info8
  rw [run_equalIn_array w (d + 1) _ _ Try.underlying23 hi, cells8]
  refine (items_u8 w d _ _ a.l b.l rfl rfl rfl _ (by intro i hi; simpa [A8.l] using hi)).trans ?_
  congr 1
  rw [Bool.eq_iff_iff, ← A8.ext_l]
  simp

/-- .. as the walk writes them. -/
@[go_sem] theorem eql_addr (w : World) (a0 a1 a2 a3 a4 a5 a6 a7 b0 b1 b2 b3 b4 b5 b6 b7 : UInt8) : (Op.equalIn 10000 23
    (.agg #[.int .u8 a0.toNat, .int .u8 a1.toNat, .int .u8 a2.toNat, .int .u8 a3.toNat, .int .u8 a4.toNat, .int .u8 a5.toNat, .int .u8 a6.toNat, .int .u8 a7.toNat])
    (.agg #[.int .u8 b0.toNat, .int .u8 b1.toNat, .int .u8 b2.toNat, .int .u8 b3.toNat, .int .u8 b4.toNat, .int .u8 b5.toNat, .int .u8 b6.toNat, .int .u8 b7.toNat])).run Try.prog w = .ok (decide ((⟨a0, a1, a2, a3, a4, a5, a6, a7⟩ : A8) = ⟨b0, b1, b2, b3, b4, b5, b6, b7⟩)) w :=
  equalIn_addr w 9998 ⟨a0, a1, a2, a3, a4, a5, a6, a7⟩ ⟨b0, b1, b2, b3, b4, b5, b6, b7⟩
end Go.Proofs.Ytkdckcjnjljdmaa.Ad
