/- The walk of the statement AddrBack. -/
import Derived.Test.YtldeialjonanmaaDoorAdV
namespace Go.Proofs.YtldeialjonanmaaDoor.Ad
open Go Go.RowKit Kt

set_option maxHeartbeats 16000000 in
theorem back_core (s ta tb : ByteArray) (a b Y : A8) (e c c2 : Int) (w : World)
    (hT : ∀ w, Calls Tryd.prog 15 #[a.v] w fun en w' => en = .returned (.string ta) ∧ Below w.heap.size w w')
    (hT2 : ∀ w, Calls Tryd.prog 15 #[b.v] w fun en w' => en = .returned (.string tb) ∧ Below w.heap.size w w')
    (hP : ∀ w, Calls Tryd.prog 11 #[.string ta] w fun en w' => en = .returned (.tuple #[a.v, .int .i64 0]) ∧ Below w.heap.size w w')
    (hO : ∀ w, Calls Tryd.prog 12 #[a.v, b.v] w fun en w' => en = .returned (.int .i64 c) ∧ Below w.heap.size w w')
    (hO2 : ∀ w, Calls Tryd.prog 12 #[b.v, a.v] w fun en w' => en = .returned (.int .i64 c2) ∧ Below w.heap.size w w')
    (hC : ∀ w, Calls Tryd.prog 17 #[.string ta, .string tb] w fun en w' => en = .returned (.int .i64 c) ∧ w' = w)
    (hQ : ∀ w, Calls Tryd.prog 11 #[.string s] w fun en w' => en = .returned (.tuple #[Y.v, .int .i64 e]) ∧ Below w.heap.size w w')
    (hTY : e = 0 → ∀ w, Calls Tryd.prog 15 #[Y.v] w fun en w' => en = .returned (.string s) ∧ Below w.heap.size w w')
    (hneg : -c2 = c) (hcr : -1 ≤ c2 ∧ c2 ≤ 1) (he : e = 0 ∨ e = 2) :
    Calls Tryd.prog 7 #[.string s, a.v, b.v] w fun e w' => e = .returned (.bool true) ∧ Below w.heap.size w w' := by
  have hng : IntKind.i64.wrap (-c2) = c := by rw [IntWalk.i64_in _ (by omega)]; exact hneg
  have HT := Lib.hid hT
  have HT2 := Lib.hid hT2
  have HP := Lib.hid hP
  have HO := Lib.hid hO
  have HO2 := Lib.hid hO2
  have HC := Lib.hid hC
  have HQ := Lib.hid hQ
  have HTY := Lib.hid hTY
  have HE := Lib.hid he
  clear hT hT2 hP hO hO2 hC hQ hTY he hneg hcr
  go_enter Tryd.func7, Tryd.ntmps7
  go_wp2_with fail
  have hBW : Below w.heap.size w ((w.alloc (.cells #[.int .u8 a.x0.toNat, .int .u8 a.x1.toNat, .int .u8 a.x2.toNat, .int .u8 a.x3.toNat, .int .u8 a.x4.toNat, .int .u8 a.x5.toNat, .int .u8 a.x6.toNat, .int .u8 a.x7.toNat] 23)).alloc (.cells #[.int .u8 b.x0.toNat, .int .u8 b.x1.toNat, .int .u8 b.x2.toNat, .int .u8 b.x3.toNat, .int .u8 b.x4.toNat, .int .u8 b.x5.toNat, .int .u8 b.x6.toNat, .int .u8 b.x7.toNat] 23)) := ((Below.refl _ _).alloc (Nat.le_refl _) _).alloc (by simp) _
  have hsz : ((w.alloc (.cells #[.int .u8 a.x0.toNat, .int .u8 a.x1.toNat, .int .u8 a.x2.toNat, .int .u8 a.x3.toNat, .int .u8 a.x4.toNat, .int .u8 a.x5.toNat, .int .u8 a.x6.toNat, .int .u8 a.x7.toNat] 23)).alloc (.cells #[.int .u8 b.x0.toNat, .int .u8 b.x1.toNat, .int .u8 b.x2.toNat, .int .u8 b.x3.toNat, .int .u8 b.x4.toNat, .int .u8 b.x5.toNat, .int .u8 b.x6.toNat, .int .u8 b.x7.toNat] 23)).heap.size = w.heap.size + 2 := by simp
  have hA : At8 ((w.alloc (.cells #[.int .u8 a.x0.toNat, .int .u8 a.x1.toNat, .int .u8 a.x2.toNat, .int .u8 a.x3.toNat, .int .u8 a.x4.toNat, .int .u8 a.x5.toNat, .int .u8 a.x6.toNat, .int .u8 a.x7.toNat] 23)).alloc (.cells #[.int .u8 b.x0.toNat, .int .u8 b.x1.toNat, .int .u8 b.x2.toNat, .int .u8 b.x3.toNat, .int .u8 b.x4.toNat, .int .u8 b.x5.toNat, .int .u8 b.x6.toNat, .int .u8 b.x7.toNat] 23)) w.heap.size a := (At8.new w a).alloc _ (by simp)
  have hBb : At8 ((w.alloc (.cells #[.int .u8 a.x0.toNat, .int .u8 a.x1.toNat, .int .u8 a.x2.toNat, .int .u8 a.x3.toNat, .int .u8 a.x4.toNat, .int .u8 a.x5.toNat, .int .u8 a.x6.toNat, .int .u8 a.x7.toNat] 23)).alloc (.cells #[.int .u8 b.x0.toNat, .int .u8 b.x1.toNat, .int .u8 b.x2.toNat, .int .u8 b.x3.toNat, .int .u8 b.x4.toNat, .int .u8 b.x5.toNat, .int .u8 b.x6.toNat, .int .u8 b.x7.toNat] 23)) (w.heap.size + 1) b := by have := At8.new (w.alloc (.cells #[.int .u8 a.x0.toNat, .int .u8 a.x1.toNat, .int .u8 a.x2.toNat, .int .u8 a.x3.toNat, .int .u8 a.x4.toNat, .int .u8 a.x5.toNat, .int .u8 a.x6.toNat, .int .u8 a.x7.toNat] 23)) b; rwa [size_box] at this
  generalize (w.alloc (.cells #[.int .u8 a.x0.toNat, .int .u8 a.x1.toNat, .int .u8 a.x2.toNat, .int .u8 a.x3.toNat, .int .u8 a.x4.toNat, .int .u8 a.x5.toNat, .int .u8 a.x6.toNat, .int .u8 a.x7.toNat] 23)).alloc (.cells #[.int .u8 b.x0.toNat, .int .u8 b.x1.toNat, .int .u8 b.x2.toNat, .int .u8 b.x3.toNat, .int .u8 b.x4.toNat, .int .u8 b.x5.toNat, .int .u8 b.x6.toNat, .int .u8 b.x7.toNat] 23) = W at *
  have HSZ := Lib.hid hsz
  clear hsz
  refine (HT.out _).mono ?_
  rintro en w1 ⟨rfl, hB1⟩
  have hW1 := next_below hBW hB1 (by have := HSZ.out; omega)
  have hz1 := Lib.hid (keep_size hB1 (Nat.le_of_eq HSZ.out.symm))
  replace hA := hA.keep hB1 (by have := HSZ.out; omega)
  replace hBb := hBb.keep hB1 (by have := HSZ.out; omega)
  clear hBW hB1 HSZ
  go_wp2_with fail
  refine (HP.out _).mono ?_
  rintro en w2 ⟨rfl, hB2⟩
  have hW2 := next_below hW1 hB2 (by have := hz1.out; omega)
  have hz2 := Lib.hid (keep_size hB2 hz1.out)
  replace hA := hA.keep hB2 (by have := hz1.out; omega)
  replace hBb := hBb.keep hB2 (by have := hz1.out; omega)
  clear hW1 hB2 hz1
  go_wp2_with fail
  have hX := At8.new w2 a
  replace hA := hA.alloc (.cells #[.int .u8 a.x0.toNat, .int .u8 a.x1.toNat, .int .u8 a.x2.toNat, .int .u8 a.x3.toNat, .int .u8 a.x4.toNat, .int .u8 a.x5.toNat, .int .u8 a.x6.toNat, .int .u8 a.x7.toNat] 23) (by have := hz2.out; omega)
  replace hBb := hBb.alloc (.cells #[.int .u8 a.x0.toNat, .int .u8 a.x1.toNat, .int .u8 a.x2.toNat, .int .u8 a.x3.toNat, .int .u8 a.x4.toNat, .int .u8 a.x5.toNat, .int .u8 a.x6.toNat, .int .u8 a.x7.toNat] 23) (by have := hz2.out; omega)
  replace hW2 := hW2.alloc (by have := hz2.out; omega) (.cells #[.int .u8 a.x0.toNat, .int .u8 a.x1.toNat, .int .u8 a.x2.toNat, .int .u8 a.x3.toNat, .int .u8 a.x4.toNat, .int .u8 a.x5.toNat, .int .u8 a.x6.toNat, .int .u8 a.x7.toNat] 23)
  obtain ⟨g1, hg1⟩ : ∃ g1, g1 = w2.heap.size := ⟨_, rfl⟩
  rw [← hg1] at hX hz2 ⊢
  have hq : (w2.alloc (.cells #[.int .u8 a.x0.toNat, .int .u8 a.x1.toNat, .int .u8 a.x2.toNat, .int .u8 a.x3.toNat, .int .u8 a.x4.toNat, .int .u8 a.x5.toNat, .int .u8 a.x6.toNat, .int .u8 a.x7.toNat] 23)).heap.size = g1 + 1 := by rw [size_box, hg1]
  generalize w2.alloc (.cells #[.int .u8 a.x0.toNat, .int .u8 a.x1.toNat, .int .u8 a.x2.toNat, .int .u8 a.x3.toNat, .int .u8 a.x4.toNat, .int .u8 a.x5.toNat, .int .u8 a.x6.toNat, .int .u8 a.x7.toNat] 23) = W3 at *
  clear hg1
  have o1 : w.heap.size + 2 ≤ g1 := hz2.out
  have o3 : g1 + 1 ≤ W3.drew.heap.size := Nat.le_of_eq hq.symm
  replace hW2 := hW2.drew
  clear hq hz2
  obtain ⟨ca0, ca1, ca2, ca3, ca4, ca5, ca6, ca7⟩ := hA
  obtain ⟨cb0, cb1, cb2, cb3, cb4, cb5, cb6, cb7⟩ := hBb
  obtain ⟨cx0, cx1, cx2, cx3, cx4, cx5, cx6, cx7⟩ := hX
  go_region_held3 (fun w' => w'.cell? ⟨w.heap.size, 0, none⟩ = some (.int .u8 a.x0.toNat) ∧ w'.cell? ⟨w.heap.size, 1, none⟩ = some (.int .u8 a.x1.toNat) ∧ w'.cell? ⟨w.heap.size, 2, none⟩ = some (.int .u8 a.x2.toNat) ∧ w'.cell? ⟨w.heap.size, 3, none⟩ = some (.int .u8 a.x3.toNat) ∧ w'.cell? ⟨w.heap.size, 4, none⟩ = some (.int .u8 a.x4.toNat) ∧ w'.cell? ⟨w.heap.size, 5, none⟩ = some (.int .u8 a.x5.toNat) ∧ w'.cell? ⟨w.heap.size, 6, none⟩ = some (.int .u8 a.x6.toNat) ∧ w'.cell? ⟨w.heap.size, 7, none⟩ = some (.int .u8 a.x7.toNat) ∧ w'.cell? ⟨w.heap.size + 1, 0, none⟩ = some (.int .u8 b.x0.toNat) ∧ w'.cell? ⟨w.heap.size + 1, 1, none⟩ = some (.int .u8 b.x1.toNat) ∧ w'.cell? ⟨w.heap.size + 1, 2, none⟩ = some (.int .u8 b.x2.toNat) ∧ w'.cell? ⟨w.heap.size + 1, 3, none⟩ = some (.int .u8 b.x3.toNat) ∧ w'.cell? ⟨w.heap.size + 1, 4, none⟩ = some (.int .u8 b.x4.toNat) ∧ w'.cell? ⟨w.heap.size + 1, 5, none⟩ = some (.int .u8 b.x5.toNat) ∧ w'.cell? ⟨w.heap.size + 1, 6, none⟩ = some (.int .u8 b.x6.toNat) ∧ w'.cell? ⟨w.heap.size + 1, 7, none⟩ = some (.int .u8 b.x7.toNat) ∧ w'.cell? ⟨g1, 0, none⟩ = some (.int .u8 a.x0.toNat) ∧ w'.cell? ⟨g1, 1, none⟩ = some (.int .u8 a.x1.toNat) ∧ w'.cell? ⟨g1, 2, none⟩ = some (.int .u8 a.x2.toNat) ∧ w'.cell? ⟨g1, 3, none⟩ = some (.int .u8 a.x3.toNat) ∧ w'.cell? ⟨g1, 4, none⟩ = some (.int .u8 a.x4.toNat) ∧ w'.cell? ⟨g1, 5, none⟩ = some (.int .u8 a.x5.toNat) ∧ w'.cell? ⟨g1, 6, none⟩ = some (.int .u8 a.x6.toNat) ∧ w'.cell? ⟨g1, 7, none⟩ = some (.int .u8 a.x7.toNat)) (first | go_keep | ((try dsimp only); (repeat' apply And.intro) <;> (refine keep_cell hB1 (g1 + 1) (by omega) (by assumption) ?_; simp [*]))) ((first | (go_at_call 12; (with_reducible refine (HO.out _).mono ?_); rintro en w1 ⟨rfl, hB1⟩; have hz1 := keep_size hB1 (N := g1 + 1) (by assumption); have hW1 := next_below (N := w.heap.size) (w := w) (by assumption) hB1 (Nat.le_trans (by omega : w.heap.size ≤ g1 + 1) (by assumption))) | (go_at_call 12; (with_reducible refine (HO2.out _).mono ?_); rintro en w1 ⟨rfl, hB1⟩; have hz1 := keep_size hB1 (N := g1 + 1) (by assumption); have hW1 := next_below (N := w.heap.size) (w := w) (by assumption) hB1 (Nat.le_trans (by omega : w.heap.size ≤ g1 + 1) (by assumption))) | (go_at_call 15; (with_reducible refine (HT.out _).mono ?_); rintro en w1 ⟨rfl, hB1⟩; have hz1 := keep_size hB1 (N := g1 + 1) (by assumption); have hW1 := next_below (N := w.heap.size) (w := w) (by assumption) hB1 (Nat.le_trans (by omega : w.heap.size ≤ g1 + 1) (by assumption))) | (go_at_call 15; (with_reducible refine (HT2.out _).mono ?_); rintro en w1 ⟨rfl, hB1⟩; have hz1 := keep_size hB1 (N := g1 + 1) (by assumption); have hW1 := next_below (N := w.heap.size) (w := w) (by assumption) hB1 (Nat.le_trans (by omega : w.heap.size ≤ g1 + 1) (by assumption))) | (go_at_call 17; (with_reducible refine (HC.out _).mono ?_); rintro en w4 ⟨rfl, rfl⟩)))
  have hS : w.heap.size < w1.heap.size := Nat.lt_of_lt_of_le (by omega : w.heap.size < g1 + 1) (by assumption)
  have hWe : Below w.heap.size w w1 := by assumption
  clear ca0 ca1 ca2 ca3 ca4 ca5 ca6 ca7 cb0 cb1 cb2 cb3 cb4 cb5 cb6 cb7 cx0 cx1 cx2 cx3 cx4 cx5 cx6 cx7
  go_wp2_with fail
  refine (HQ.out _).mono ?_
  rintro en w5 ⟨rfl, hB5⟩
  have hW5 := next_below hWe hB5 (Nat.le_of_lt hS)
  have hS5 := Nat.lt_of_lt_of_le hS hB5.size
  clear hWe hB5 hS
  rcases HE.out with rfl | rfl
  · have hTY' := HTY.out rfl
    have HY := Lib.hid hTY'
    clear hTY' HTY
    go_wp2_with fail
    refine (HY.out _).mono ?_
    rintro en w6 ⟨rfl, hB6⟩
    replace hW5 := hW5.alloc (Nat.le_of_lt hS5) (.cells #[.int .u8 Y.x0.toNat, .int .u8 Y.x1.toNat, .int .u8 Y.x2.toNat, .int .u8 Y.x3.toNat, .int .u8 Y.x4.toNat, .int .u8 Y.x5.toNat, .int .u8 Y.x6.toNat, .int .u8 Y.x7.toNat] 23)
    have hS6 : w.heap.size < (w5.alloc (.cells #[.int .u8 Y.x0.toNat, .int .u8 Y.x1.toNat, .int .u8 Y.x2.toNat, .int .u8 Y.x3.toNat, .int .u8 Y.x4.toNat, .int .u8 Y.x5.toNat, .int .u8 Y.x6.toNat, .int .u8 Y.x7.toNat] 23)).heap.size := by rw [size_box]; omega
    have hW6 := next_below hW5 hB6 (Nat.le_of_lt hS6)
    have hS7 := Nat.lt_of_lt_of_le hS6 hB6.size
    clear hB6 hS6 hW5 hS5
    go_wp2_with fail
    refine (works_any _).mono ?_
    rintro en w7 ⟨rfl, hB7⟩
    have hW7 := next_below hW6 hB7 (Nat.le_of_lt hS7)
    go_wp2_with fail
    go_ret
    exact ⟨rfl, hW7⟩
  · go_wp2_with fail
    refine (works_any _).mono ?_
    rintro en w7 ⟨rfl, hB7⟩
    replace hW5 := hW5.alloc (Nat.le_of_lt hS5) (.cells #[.int .u8 Y.x0.toNat, .int .u8 Y.x1.toNat, .int .u8 Y.x2.toNat, .int .u8 Y.x3.toNat, .int .u8 Y.x4.toNat, .int .u8 Y.x5.toNat, .int .u8 Y.x6.toNat, .int .u8 Y.x7.toNat] 23)
    have hS6 : w.heap.size < (w5.alloc (.cells #[.int .u8 Y.x0.toNat, .int .u8 Y.x1.toNat, .int .u8 Y.x2.toNat, .int .u8 Y.x3.toNat, .int .u8 Y.x4.toNat, .int .u8 Y.x5.toNat, .int .u8 Y.x6.toNat, .int .u8 Y.x7.toNat] 23)).heap.size := by rw [size_box]; omega
    have hW7 := next_below hW5 hB7 (Nat.le_of_lt hS6)
    go_wp2_with fail
    go_ret
    exact ⟨rfl, hW7⟩

theorem law_back (s : ByteArray) (a b : A8) (w : World) :
    Calls Tryd.prog 7 #[.string s, a.v, b.v] w fun e w' => e = .returned (.bool true) ∧ Below w.heap.size w w' := by
  obtain ⟨Y, e, ok, hP, _, hcase⟩ := parse_both s
  refine back_core s ⟨a.text.toArray⟩ ⟨b.text.toArray⟩ a b Y e (ordN a.num b.num) (ordN b.num a.num) w (fun w => text_any a w) (fun w => text_any b w) ?_ (fun w => order_any a b w) (fun w => order_any b a w) ?_ hP ?_ ?_ ?_ ?_
  · intro w
    have h := parse_ok ⟨a.text.toArray⟩ w (text_size a) (text_hex a)
    rw [spell_text] at h
    exact h
  · intro w
    have h := Tryd.strings_Compare ⟨a.text.toArray⟩ ⟨b.text.toArray⟩ w
    rw [show (⟨a.text.toArray⟩ : ByteArray).data.toList = a.text from rfl, show (⟨b.text.toArray⟩ : ByteArray).data.toList = b.text from rfl, compare_text] at h
    exact h
  · intro h0 w
    rcases hcase with ⟨_, _, ht⟩ | ⟨h2, _⟩
    · have h := text_any Y w
      rw [ht] at h
      exact h
    · rw [h0] at h2; cases h2
  · exact (ordN_neg _ _).symm
  · unfold ordN
    split
    · omega
    · split <;> omega
  · rcases hcase with ⟨rfl, _, _⟩ | ⟨rfl, _⟩
    · exact .inl rfl
    · exact .inr rfl
end Go.Proofs.YtldeialjonanmaaDoor.Ad
