/- The opcodes' functions: Sig. -/
import Derived.Test.YtmgjcaikldeioaaGreatXTz
namespace Go.Proofs.YtmgjcaikldeioaaGreat.Ty
open Go Go.RowKit Go.Lib Kt Fm Gr

theorem lies_new2 (W : World) (o : Obj) (t : TypeId) (cs : Array Value) : Lies ((W.alloc o).alloc (.cells cs t)) (W.heap.size + 1) t cs := by
  have := Lies.new (W.alloc o) t cs
  rwa [World.size_alloc] at this
theorem sl_u2 {w : World} {g : Nat} {t : TypeId} {a b : UInt8} (h : Lies w g t #[.int .u8 a.toNat, .int .u8 b.toNat]) : Sl w 1 u8c (.slice (some ⟨g, 0, none⟩) 2 2) [a, b] :=
  ⟨_, 2, rfl, fun _ => ⟨g, 0, rfl, h.lt, fun i x hi j c hj => by
    have hi2 : i < 2 := (List.getElem?_eq_some_iff.1 hi).1
    have hj0 : j = 0 := by
      have := (List.getElem?_eq_some_iff.1 hj).1
      simp [u8c] at this
      exact this
    subst hj0
    have hc := h.cell i
    rcases (by omega : i = 0 ∨ i = 1) with rfl | rfl
    · simp at hi hj; subst hi; rw [show (0 + 0 * 1 + 0) = 0 from rfl, hc]; simpa [u8c] using hj
    · simp at hi hj; subst hi; rw [show (0 + 1 * 1 + 0) = 1 from rfl, hc]; simpa [u8c] using hj⟩⟩
theorem sigL_if (op : UInt8) : sigL op = (if knownB op = false ∨ ¬ 40 ≤ (op.toNat : Int) then ([], []) else if (op.toNat : Int) ≤ 53 then ([127], [tyOf' (wideB op)]) else if (op.toNat : Int) ≤ 62 then ([127, tyOf' (wideB op)], []) else if ((op.toNat : Int) == 63) = true then ([], [127]) else if (((op.toNat : Int) == 64) = true ∨ ((op.toNat : Int) == 69) = true) ∨ inI op 103 105 = true then ([127], [127]) else if (op.toNat : Int) ≤ 66 then ([], [tyOf' ((op.toNat : Int) == 66)]) else if ((op.toNat : Int) == 80) = true ∨ ((op.toNat : Int) == 167) = true then ([126], [127]) else if inI op 121 123 = true then ([126], [126]) else if 172 ≤ (op.toNat : Int) then ([127], [126]) else ([tyOf' (inI op 81 90 || decide (124 ≤ (op.toNat : Int))), tyOf' (inI op 81 90 || decide (124 ≤ (op.toNat : Int)))], [tyOf' (decide (124 ≤ (op.toNat : Int)))])) := by
  have e63 : (op = 63) = (((op.toNat : Int) == 63) = true) := u8_eq 63 (by decide)
  have e64 : (op = 64) = (((op.toNat : Int) == 64) = true) := u8_eq 64 (by decide)
  have e69 : (op = 69) = (((op.toNat : Int) == 69) = true) := u8_eq 69 (by decide)
  have e80 : (op = 80) = (((op.toNat : Int) == 80) = true) := u8_eq 80 (by decide)
  have e167 : (op = 167) = (((op.toNat : Int) == 167) = true) := u8_eq 167 (by decide)
  have i103 : inB op 103 105 = inI op 103 105 := (inI_eq op 103 105).symm
  have i121 : inB op 121 123 = inI op 121 123 := (inI_eq op 121 123).symm
  have i81 : inB op 81 90 = inI op 81 90 := (inI_eq op 81 90).symm
  have b66 : (op == 66) = ((op.toNat : Int) == 66) := by rw [Bool.eq_iff_iff, beq_iff_eq]; exact Iff.of_eq (u8_eq 66 (by decide))
  have l40 : (op.toNat < 40) = (¬ 40 ≤ (op.toNat : Int)) := by rw [eq_iff_iff]; omega
  have l53 : (op.toNat ≤ 53) = ((op.toNat : Int) ≤ 53) := by rw [eq_iff_iff]; omega
  have l62 : (op.toNat ≤ 62) = ((op.toNat : Int) ≤ 62) := by rw [eq_iff_iff]; omega
  have l66 : (op.toNat ≤ 66) = ((op.toNat : Int) ≤ 66) := by rw [eq_iff_iff]; omega
  have g124 : (124 ≤ op.toNat) = (124 ≤ (op.toNat : Int)) := by rw [eq_iff_iff]; omega
  have g172 : (172 ≤ op.toNat) = (172 ≤ (op.toNat : Int)) := by rw [eq_iff_iff]; omega
  unfold sigL
  simp only [e63, e64, e69, e80, e167, i103, i121, i81, b66, l40, l53, l62, l66, g124, g172, or_assoc]
set_option maxRecDepth 100000 in
set_option maxHeartbeats 8000000 in
theorem sig_any {W : World} (op : UInt8) : Calls Tryz.prog 126 #[.int .u8 op.toNat] W fun e w' => ∃ v1 v2 b, e = .returned (.tuple #[v1, v2, .bool b]) ∧ b = (knownB op && decide (40 ≤ (op.toNat : Int))) ∧ Sl w' 1 u8c v1 (sigL op).1 ∧ Sl w' 1 u8c v2 (sigL op).2 ∧ Below W.heap.size W w' := by
  have HF := zh (sigL_if op)
  go_enter Tryz.func126, Tryz.ntmps126
  go_wp2_with (first | (go_at_call 111; refine (known_any op).mono ?_; rintro en wx ⟨rfl, rfl⟩) | (go_at_call 129; refine (in_any op _ _).mono ?_; rintro en wx ⟨rfl, rfl⟩) | (go_at_call 131; refine (wide_any op).mono ?_; rintro en wx ⟨rfl, rfl⟩) | (go_at_call 130; refine (sig1_any _).mono ?_; rintro en wx ⟨rfl, rfl⟩))
  all_goals (obtain ⟨r, hr⟩ : ∃ r, r = sigL op := ⟨_, rfl⟩; rw [← hr]; rw [HF.out] at hr; clear HF)
  all_goals (repeat' split at hr)
  all_goals first
    | (exfalso; omega)
    | (exfalso; simp_all; done)
    | (exfalso; simp_all; omega)
    | ((first | (have e8 : inI op 81 90 = true := by assumption
                 rw [e8, Bool.true_or] at hr) | (have e8 : inI op 81 90 = false := Bool.eq_false_iff.2 (by assumption)
                                                 rw [e8, Bool.false_or] at hr) | skip); subst hr; go_ret3; refine ⟨_, _, _, rfl, ?_, ?_, ?_, ?_⟩ <;> first
        | exact Below.refl _ _
        | exact (Below.refl _ _).alloc (Nat.le_refl _) _
        | exact ((Below.refl _ _).alloc (Nat.le_refl _) _).alloc (by simp) _
        | exact Sl.nil _ _ _ _
        | exact sl_one (Lies.new _ _ _)
        | exact sl_one ((Lies.new _ _ _).alloc _)
        | exact sl_one (lies_new2 _ _ _ _)
        | exact sl_u2 (Lies.new _ _ _)
        | exact sl_u2 ((Lies.new _ _ _).alloc _)
        | (simp_all; done)
        | (simp_all; omega))
end Go.Proofs.YtmgjcaikldeioaaGreat.Ty
