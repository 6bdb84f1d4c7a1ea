/- Arguments opened by the sizes of the row's reading: a genesis, a list of transactions. -/
import Derived.Test.YtkdckcjnjljdmaaCYb
import Derived.ProofKit
import Derived.OpenShut
import Derived.ChangeSame
namespace Go.Proofs.Ytkdckcjnjljdmaa.Wd
open Go Go.ChangeShapes Go.WideShapes Go.ChangeAt Go.RowKit Kt Fm Ad Ac
open Po (bc Tx TxOk)

section
variable {H : Type} {enc : TypeId × Value → H} {w : World} {base : Nat} {spare : Nat → Bool} {held : Bool}
theorem weights_all {P : Program} {e : TypeId} : ∀ {ds : List (DataW H)} {d : DataW H}, d ∈ ds → ∀ {n : Nat}, n ∈ d.weights P e → n ∈ DataW.weightsAll P e ds
  | [], _, h, _, _ => by simp at h
  | d0 :: r, d, h, n, hn => by
    unfold DataW.weightsAll
    rcases List.mem_cons.1 h with rfl | h
    · exact List.mem_append_left _ hn
    · exact List.mem_append_right _ (weights_all h hn)
/-- A SLICE THAT CAME IN, OPENED; its length by the reading's sizes. -/
theorem sl_ofW {P : Program} {α : Type} {t e : TypeId} (ht : P.underlying t = some (.slice e)) {sz : Nat} (hsz : P.cellsOf e = sz) (hpos : 0 < sz) (en : α → List Value) (hlen : ∀ x, (en x).length = sz) {fuel : Nat} {cs : List Value} {y : DataW H × List MemPlace}
    (h : DataW.trod enc P w base spare held fuel t cs = some y) (hw : ∀ n ∈ y.1.weights P t, n ≤ reachBytes) {Q : α → Prop}
    (hel : ∀ n cs' d p, DataW.trod enc P w base spare held n e cs' = some (d, p) → (∀ m ∈ d.weights P e, m ≤ reachBytes) → ∃ x, cs' = en x ∧ Q x) : ∃ v L, cs = [v] ∧ Sl w sz en v L ∧ (∀ x ∈ L, Q x) ∧ L.length * P.bytesOf e ≤ reachBytes := by
  rcases Go.Deep.open_slice ht h with ⟨rfl, _⟩ | ⟨a, len, cap, m, n, D, Pl, rfl, _, hlc, hcm, hm, hy, hi⟩
  · exact ⟨_, [], rfl, Sl.nil _ _ _ _, by simp, by simp⟩
  · have hlm : len ≤ m := by rw [hm]; split <;> omega
    rw [hy] at hw
    simp only [DataW.weights, ht] at hw
    obtain ⟨L, hL, hp⟩ := choose_list (p := fun i (x : α) => (∀ j c, (en x)[j]? = some c → w.cell? ((a.add (i * sz)).add j) = some c) ∧ Q x) len (fun i hil => by
      obtain ⟨cs', h1, h2⟩ := hi i (by omega)
      rw [hsz] at h1
      obtain ⟨x, rfl, hx⟩ := hel n cs' (D i) (Pl i) h2 (fun q hq => hw q (List.mem_cons_of_mem _ (List.mem_append_left _ (weights_all (List.mem_map.2 ⟨i, List.mem_range.2 hil, rfl⟩) hq))))
      obtain ⟨_, _, hat⟩ := World.cells?_some h1
      refine ⟨x, fun j c hj => ?_, hx⟩
      have hjs : j < sz := by rw [← hlen x]; exact (List.getElem?_eq_some_iff.1 hj).1
      rw [hat j hjs, hj])
    refine ⟨_, L, rfl, ⟨some a, cap, by rw [hL], fun hne => ?_⟩, fun x hx => ?_, ?_⟩
    · obtain ⟨x0, hx0⟩ : ∃ x, L[0]? = some x := ⟨_, List.getElem?_eq_getElem (List.length_pos_iff.2 hne)⟩
      obtain ⟨c0, hc0⟩ : ∃ c, (en x0)[0]? = some c := ⟨_, List.getElem?_eq_getElem (by rw [hlen]; exact hpos)⟩
      have h0 := (hp 0 x0 hx0).1 0 c0 hc0
      obtain ⟨b, off, spot⟩ := a
      have hspot : spot = none := by simpa [Addr.add] using World.cell?_spot h0
      subst hspot
      refine ⟨b, off, rfl, ?_, fun i x hx j c hj => ?_⟩
      · simpa [Addr.add] using World.block_lt_of_cell? w _ h0
      · have := (hp i x hx).1 j c hj
        rw [add_plain, add_plain] at this
        exact this
    · obtain ⟨i, hi', e⟩ := List.getElem_of_mem hx
      exact (hp i x (by rw [List.getElem?_eq_getElem hi', e])).2
    · have h0 := hw _ (List.mem_cons_self ..)
      rw [List.length_map, List.length_range, List.length_map, List.length_range] at h0
      rw [hL]
      exact Nat.le_trans (Nat.mul_le_mul_right _ (Nat.le_add_right _ _)) h0
/-- A slice of which its length alone is asked. -/
theorem sl_shape {P : Program} {t e : TypeId} (ht : P.underlying t = some (.slice e)) {fuel : Nat} {c : Value} {y : DataW H × List MemPlace} (h : DataW.trod enc P w base spare held fuel t [c] = some y) (hw : ∀ n ∈ y.1.weights P t, n ≤ reachBytes) : ∃ s n cap, c = .slice s n cap ∧ n * P.bytesOf e ≤ reachBytes := by
  rcases Go.Deep.open_slice ht h with ⟨hc, _⟩ | ⟨a, len, cap, m, n, D, Pl, hc, _, hlc, hcm, hm, hy, hi⟩
  · exact ⟨none, 0, 0, (List.cons.inj hc).1, by simp⟩
  · have hlm : len ≤ m := by rw [hm]; split <;> omega
    rw [hy] at hw
    simp only [DataW.weights, ht] at hw
    have h0 := hw _ (List.mem_cons_self ..)
    rw [List.length_map, List.length_range, List.length_map, List.length_range] at h0
    exact ⟨_, _, _, (List.cons.inj hc).1, Nat.le_trans (Nat.mul_le_mul_right _ (Nat.le_add_right _ _)) h0⟩
theorem cells_addr : Try.prog.cellsOf 23 = 8 := by kernel_rfl
theorem cells_u8 : Try.prog.cellsOf 5 = 1 := by kernel_rfl
theorem cells_u64 : Try.prog.cellsOf 29 = 1 := by kernel_rfl
theorem cells_bytes : Try.prog.cellsOf 30 = 1 := by kernel_rfl
theorem cells_pairs : Try.prog.cellsOf 70 = 1 := by kernel_rfl
theorem cells_accs : Try.prog.cellsOf 24 = 1 := by kernel_rfl
theorem cells_tx : Try.prog.cellsOf 32 = 22 := by kernel_rfl
theorem cells_acc : Try.prog.cellsOf 72 = 12 := by kernel_rfl
theorem cells_gen : Try.prog.cellsOf 26 = 9 := by kernel_rfl
theorem bytes_u8 : Try.prog.bytesOf 5 = 1 := by kernel_rfl
theorem bytes_pair : Try.prog.bytesOf 176 = 48 := by kernel_rfl
theorem bytes_acc : Try.prog.bytesOf 72 = 72 := by kernel_rfl
theorem bytes_tx : Try.prog.bytesOf 32 = 80 := by kernel_rfl
theorem u8_of {n : Int} (h : (Lit.int .u8 n).wf = true) : ∃ x : UInt8, n = (x.toNat : Int) := by
  have hb := bounds_u8 h
  refine ⟨UInt8.ofNat n.toNat, ?_⟩
  have e : (UInt8.ofNat n.toNat).toNat = n.toNat := by
    rw [UInt8.toNat_ofNat']
    exact Nat.mod_eq_of_lt (by omega)
  rw [e]
  omega
theorem u64_of {n : Int} (h : (Lit.int .u64 n).wf = true) : ∃ x : Nat, n = (x : Int) ∧ x < 18446744073709551616 := by
  have hb := bounds_u64 h
  exact ⟨n.toNat, by omega, by omega⟩
theorem addr_of {fuel : Nat} {c0 c1 c2 c3 c4 c5 c6 c7 : Value} {y : DataW H × List MemPlace} (h : DataW.trod enc Try.prog w base spare held fuel 23 [c0, c1, c2, c3, c4, c5, c6, c7] = some y) : ∃ a : A8, [c0, c1, c2, c3, c4, c5, c6, c7] = a.cs := by
  obtain ⟨xs, m, rfl, _, _, hl, hi⟩ := DataW.trod_array Try.underlying23 h
  have one : ∀ i (c : Value), i < 8 → [c0, c1, c2, c3, c4, c5, c6, c7][i]? = some c → ∃ x : UInt8, c = .int .u8 (x.toNat : Int) := by
    intro i c hi8 hci
    have h1 := hi i hi8
    rw [cells_u8] at h1
    have h2 : (([c0, c1, c2, c3, c4, c5, c6, c7] : List Value).drop (i * 1)).take 1 = [c] := by
      have hlt : i < [c0, c1, c2, c3, c4, c5, c6, c7].length := hi8
      rw [List.getElem?_eq_getElem hlt] at hci
      have hce : [c0, c1, c2, c3, c4, c5, c6, c7][i] = c := by injection hci
      rw [Nat.mul_one, List.drop_eq_getElem_cons hlt, hce]
      rfl
    rw [h2] at h1
    obtain ⟨y, hy⟩ : ∃ y, xs[i]? = some y := ⟨_, List.getElem?_eq_getElem (by omega)⟩
    rw [hy] at h1
    obtain ⟨n, hn, _, hwf⟩ := DataW.trod_int Try.underlying5 h1
    obtain ⟨x, rfl⟩ := u8_of hwf
    exact ⟨x, by simpa using hn⟩
  obtain ⟨x0, rfl⟩ := one 0 c0 (by omega) rfl
  obtain ⟨x1, rfl⟩ := one 1 c1 (by omega) rfl
  obtain ⟨x2, rfl⟩ := one 2 c2 (by omega) rfl
  obtain ⟨x3, rfl⟩ := one 3 c3 (by omega) rfl
  obtain ⟨x4, rfl⟩ := one 4 c4 (by omega) rfl
  obtain ⟨x5, rfl⟩ := one 5 c5 (by omega) rfl
  obtain ⟨x6, rfl⟩ := one 6 c6 (by omega) rfl
  obtain ⟨x7, rfl⟩ := one 7 c7 (by omega) rfl
  exact ⟨⟨x0, x1, x2, x3, x4, x5, x6, x7⟩, rfl⟩
theorem n22 {α : Type} {cs : List α} (h : cs.length = 22) : ∃ c0 c1 c2 c3 c4 c5 c6 c7 c8 c9 c10 c11 c12 c13 c14 c15 c16 c17 c18 c19 c20 c21, cs = [c0, c1, c2, c3, c4, c5, c6, c7, c8, c9, c10, c11, c12, c13, c14, c15, c16, c17, c18, c19, c20, c21] := by
  match cs, h with
  | [c0, c1, c2, c3, c4, c5, c6, c7, c8, c9, c10, c11, c12, c13, c14, c15, c16, c17, c18, c19, c20, c21], _ => exact ⟨c0, c1, c2, c3, c4, c5, c6, c7, c8, c9, c10, c11, c12, c13, c14, c15, c16, c17, c18, c19, c20, c21, rfl⟩
theorem n12 {α : Type} {cs : List α} (h : cs.length = 12) : ∃ c0 c1 c2 c3 c4 c5 c6 c7 c8 c9 c10 c11, cs = [c0, c1, c2, c3, c4, c5, c6, c7, c8, c9, c10, c11] := by
  match cs, h with
  | [c0, c1, c2, c3, c4, c5, c6, c7, c8, c9, c10, c11], _ => exact ⟨c0, c1, c2, c3, c4, c5, c6, c7, c8, c9, c10, c11, rfl⟩
theorem n9 {α : Type} {cs : List α} (h : cs.length = 9) : ∃ c0 c1 c2 c3 c4 c5 c6 c7 c8, cs = [c0, c1, c2, c3, c4, c5, c6, c7, c8] := by
  match cs, h with
  | [c0, c1, c2, c3, c4, c5, c6, c7, c8], _ => exact ⟨c0, c1, c2, c3, c4, c5, c6, c7, c8, rfl⟩
theorem bytes_of {fuel : Nat} {c : Value} {y : DataW H × List MemPlace} (h : DataW.trod enc Try.prog w base spare held fuel 30 [c] = some y) (hw : ∀ n ∈ y.1.weights Try.prog 30, n ≤ reachBytes) : ∃ b : List UInt8, Sl w 1 bc c b ∧ b.length ≤ reachBytes := by
  obtain ⟨v, L, e, hs, _, hl⟩ := sl_ofW Try.underlying30 cells_u8 (by decide) bc Po.bc_len h hw (Q := fun _ => True) (fun n cs' d p h _ => by
    obtain ⟨k, hk, _, hwf⟩ := DataW.trod_int Try.underlying5 h
    obtain ⟨x, rfl⟩ := u8_of hwf
    exact ⟨x, hk, trivial⟩)
  rw [bytes_u8, Nat.mul_one] at hl
  obtain rfl : c = v := (List.cons.inj e).1
  exact ⟨L, hs, hl⟩
set_option maxRecDepth 100000 in
/-- Cells that read as a transaction. -/
theorem tx_of {fuel : Nat} {cs : List Value} {y : DataW H × List MemPlace} (h : DataW.trod enc Try.prog w base spare held fuel 32 cs = some y) (hw : ∀ n ∈ y.1.weights Try.prog 32, n ≤ reachBytes) : ∃ x : Tx, cs = x.cs ∧ TxOk w x := by
  obtain ⟨xs, n, _, hy, hl, hlen, hf⟩ := DataW.trod_struct Try.underlying32 h
  rw [cells_tx] at hl
  obtain ⟨c0, c1, c2, c3, c4, c5, c6, c7, c8, c9, c10, c11, c12, c13, c14, c15, c16, c17, c18, c19, c20, c21, rfl⟩ := n22 hl
  have hlen8 : xs.length = 8 := hlen
  have g0 : DataW.trod enc Try.prog w base spare held n 5 (([c0, c1, c2, c3, c4, c5, c6, c7, c8, c9, c10, c11, c12, c13, c14, c15, c16, c17, c18, c19, c20, c21] : List Value).drop 0 |>.take (Try.prog.cellsOf 5)) = xs[0]? := hf 0 _ rfl
  have g1 : DataW.trod enc Try.prog w base spare held n 23 (([c0, c1, c2, c3, c4, c5, c6, c7, c8, c9, c10, c11, c12, c13, c14, c15, c16, c17, c18, c19, c20, c21] : List Value).drop 1 |>.take (Try.prog.cellsOf 23)) = xs[1]? := hf 1 _ rfl
  have g2 : DataW.trod enc Try.prog w base spare held n 23 (([c0, c1, c2, c3, c4, c5, c6, c7, c8, c9, c10, c11, c12, c13, c14, c15, c16, c17, c18, c19, c20, c21] : List Value).drop 9 |>.take (Try.prog.cellsOf 23)) = xs[2]? := hf 2 _ rfl
  have g3 : DataW.trod enc Try.prog w base spare held n 29 (([c0, c1, c2, c3, c4, c5, c6, c7, c8, c9, c10, c11, c12, c13, c14, c15, c16, c17, c18, c19, c20, c21] : List Value).drop 17 |>.take (Try.prog.cellsOf 29)) = xs[3]? := hf 3 _ rfl
  have g4 : DataW.trod enc Try.prog w base spare held n 29 (([c0, c1, c2, c3, c4, c5, c6, c7, c8, c9, c10, c11, c12, c13, c14, c15, c16, c17, c18, c19, c20, c21] : List Value).drop 18 |>.take (Try.prog.cellsOf 29)) = xs[4]? := hf 4 _ rfl
  have g5 : DataW.trod enc Try.prog w base spare held n 29 (([c0, c1, c2, c3, c4, c5, c6, c7, c8, c9, c10, c11, c12, c13, c14, c15, c16, c17, c18, c19, c20, c21] : List Value).drop 19 |>.take (Try.prog.cellsOf 29)) = xs[5]? := hf 5 _ rfl
  have g6 : DataW.trod enc Try.prog w base spare held n 29 (([c0, c1, c2, c3, c4, c5, c6, c7, c8, c9, c10, c11, c12, c13, c14, c15, c16, c17, c18, c19, c20, c21] : List Value).drop 20 |>.take (Try.prog.cellsOf 29)) = xs[6]? := hf 6 _ rfl
  have g7 : DataW.trod enc Try.prog w base spare held n 30 (([c0, c1, c2, c3, c4, c5, c6, c7, c8, c9, c10, c11, c12, c13, c14, c15, c16, c17, c18, c19, c20, c21] : List Value).drop 21 |>.take (Try.prog.cellsOf 30)) = xs[7]? := hf 7 _ rfl
  rw [List.getElem?_eq_getElem (by omega)] at g0 g1 g2 g3 g4 g5 g6 g7
  simp only [cells_u8] at g0
  simp only [cells_addr] at g1 g2
  simp only [cells_u64] at g3 g4 g5 g6
  simp only [cells_bytes] at g7
  obtain ⟨k0, e0, _, w0⟩ := DataW.trod_int Try.underlying5 g0
  obtain ⟨k, rfl⟩ := u8_of w0
  obtain ⟨a, ha⟩ := addr_of (c0 := c1) (c1 := c2) (c2 := c3) (c3 := c4) (c4 := c5) (c5 := c6) (c6 := c7) (c7 := c8) g1
  obtain ⟨b, hb⟩ := addr_of (c0 := c9) (c1 := c10) (c2 := c11) (c3 := c12) (c4 := c13) (c5 := c14) (c6 := c15) (c7 := c16) g2
  obtain ⟨k3, e3, _, w3⟩ := DataW.trod_int Try.underlying29 g3
  obtain ⟨k4, e4, _, w4⟩ := DataW.trod_int Try.underlying29 g4
  obtain ⟨k5, e5, _, w5⟩ := DataW.trod_int Try.underlying29 g5
  obtain ⟨k6, e6, _, w6⟩ := DataW.trod_int Try.underlying29 g6
  obtain ⟨n3, rfl, b3⟩ := u64_of w3
  obtain ⟨n4, rfl, b4⟩ := u64_of w4
  obtain ⟨n5, rfl, b5⟩ := u64_of w5
  obtain ⟨n6, rfl, b6⟩ := u64_of w6
  obtain ⟨dt, hd, _⟩ := bytes_of (c := c21) g7 (fun q hq => hw q (by
    rw [hy]
    unfold DataW.weights
    rw [Try.underlying32]
    exact DataW.weights_mem_each (j := 7) rfl (by rw [List.getElem?_map, List.getElem?_eq_getElem (by omega)]; rfl) q hq))
  refine ⟨⟨k, a, b, n3, n4, n5, n6, c21, dt⟩, ?_, ⟨hd, b3, b4, b5, b6⟩⟩
  simp only [A8.cs, List.cons.injEq, and_true] at ha hb
  simp only [List.drop_succ_cons, List.drop_zero, List.take_succ_cons, List.take_zero, List.cons.injEq, and_true] at e0 e3 e4 e5 e6
  obtain ⟨rfl, rfl, rfl, rfl, rfl, rfl, rfl, rfl⟩ := ha
  obtain ⟨rfl, rfl, rfl, rfl, rfl, rfl, rfl, rfl⟩ := hb
  rw [e0, e3, e4, e5, e6]
  rfl
set_option maxRecDepth 100000 in
/-- Cells that read as an account. -/
theorem acc_of {fuel : Nat} {cs : List Value} {y : DataW H × List MemPlace} (h : DataW.trod enc Try.prog w base spare held fuel 72 cs = some y) (hw : ∀ n ∈ y.1.weights Try.prog 72, n ≤ reachBytes) : ∃ x : Acc, cs = x.cs ∧ AccOk x := by
  obtain ⟨xs, n, _, hy, hl, hlen, hf⟩ := DataW.trod_struct Try.underlying72 h
  rw [cells_acc] at hl
  obtain ⟨c0, c1, c2, c3, c4, c5, c6, c7, c8, c9, c10, c11, rfl⟩ := n12 hl
  have hlen5 : xs.length = 5 := hlen
  have g0 : DataW.trod enc Try.prog w base spare held n 23 (([c0, c1, c2, c3, c4, c5, c6, c7, c8, c9, c10, c11] : List Value).drop 0 |>.take (Try.prog.cellsOf 23)) = xs[0]? := hf 0 _ rfl
  have g1 : DataW.trod enc Try.prog w base spare held n 29 (([c0, c1, c2, c3, c4, c5, c6, c7, c8, c9, c10, c11] : List Value).drop 8 |>.take (Try.prog.cellsOf 29)) = xs[1]? := hf 1 _ rfl
  have g2 : DataW.trod enc Try.prog w base spare held n 29 (([c0, c1, c2, c3, c4, c5, c6, c7, c8, c9, c10, c11] : List Value).drop 9 |>.take (Try.prog.cellsOf 29)) = xs[2]? := hf 2 _ rfl
  have g3 : DataW.trod enc Try.prog w base spare held n 30 (([c0, c1, c2, c3, c4, c5, c6, c7, c8, c9, c10, c11] : List Value).drop 10 |>.take (Try.prog.cellsOf 30)) = xs[3]? := hf 3 _ rfl
  have g4 : DataW.trod enc Try.prog w base spare held n 70 (([c0, c1, c2, c3, c4, c5, c6, c7, c8, c9, c10, c11] : List Value).drop 11 |>.take (Try.prog.cellsOf 70)) = xs[4]? := hf 4 _ rfl
  rw [List.getElem?_eq_getElem (by omega)] at g0 g1 g2 g3 g4
  simp only [cells_addr] at g0
  simp only [cells_u64] at g1 g2
  simp only [cells_bytes] at g3
  simp only [cells_pairs] at g4
  obtain ⟨a, ha⟩ := addr_of g0
  obtain ⟨k1, e1, _, w1⟩ := DataW.trod_int Try.underlying29 g1
  obtain ⟨k2, e2, _, w2⟩ := DataW.trod_int Try.underlying29 g2
  obtain ⟨n1, rfl, b1⟩ := u64_of w1
  obtain ⟨n2, rfl, b2⟩ := u64_of w2
  obtain ⟨cp, cl, cc, hc, hcl⟩ := sl_shape (c := c10) Try.underlying30 g3 (fun q hq => hw q (by
    rw [hy]
    unfold DataW.weights
    rw [Try.underlying72]
    exact DataW.weights_mem_each (j := 3) rfl (by rw [List.getElem?_map, List.getElem?_eq_getElem (by omega)]; rfl) q hq))
  obtain ⟨sp, sl, sc, hs, hsl⟩ := sl_shape (c := c11) Try.underlying70 g4 (fun q hq => hw q (by
    rw [hy]
    unfold DataW.weights
    rw [Try.underlying72]
    exact DataW.weights_mem_each (j := 4) rfl (by rw [List.getElem?_map, List.getElem?_eq_getElem (by omega)]; rfl) q hq))
  rw [bytes_u8] at hcl
  rw [bytes_pair] at hsl
  unfold reachBytes at hcl hsl
  refine ⟨⟨⟨a, n1, n2⟩, cp, sp, cl, cc, sl, sc⟩, ?_, ⟨b1, b2, by show cl ≤ _; omega, by show sl ≤ _; omega⟩⟩
  simp only [A8.cs, List.cons.injEq, and_true] at ha
  simp only [List.drop_succ_cons, List.drop_zero, List.take_succ_cons, List.take_zero, List.cons.injEq, and_true] at e1 e2
  obtain ⟨rfl, rfl, rfl, rfl, rfl, rfl, rfl, rfl⟩ := ha
  rw [e1, e2, hc, hs]
  rfl
set_option maxRecDepth 100000 in
theorem open_txs {r : Reach} {b0 : Nat} {v : Value} {d : DataW H} {p : List MemPlace} (hv : Value.okWide Try.prog w r b0 27 v) (h : DataW.Trod enc Try.prog w base spare held 27 v d p) (hw : ∀ n ∈ d.weights Try.prog 27, n ≤ reachBytes) : ∃ L : List Tx, Sl w 22 Tx.cs v L ∧ (∀ t ∈ L, TxOk w t) ∧ L.length ≤ 2000000000000 := by
  obtain ⟨fuel, hf⟩ := h
  obtain ⟨s, n0, c0, rfl⟩ := okWide_slice Try.underlying27 hv
  obtain ⟨v', L, e, hs, hq, hl⟩ := sl_ofW (y := (d, p)) Try.underlying27 cells_tx (by decide) Tx.cs Tx.len hf hw (fun n cs' d p h hw => tx_of h hw)
  rw [bytes_tx] at hl
  unfold reachBytes at hl
  obtain rfl : _ = v' := (List.cons.inj e).1
  exact ⟨L, hs, hq, by omega⟩
set_option maxRecDepth 100000 in
theorem open_gen {r : Reach} {b0 : Nat} {v : Value} {d : DataW H} {p : List MemPlace} (hv : Value.okWide Try.prog w r b0 26 v) (h : DataW.Trod enc Try.prog w base spare held 26 v d p) (hw : ∀ n ∈ d.weights Try.prog 26, n ≤ reachBytes) : ∃ (c : A8) (s : Option Go.Addr) (cap : Nat) (l : List Acc), v = .agg (Gen.cs c s l.length cap).toArray ∧ Sl w 12 Acc.cs (.slice s l.length cap) l ∧ (∀ x ∈ l, AccOk x) ∧ l.length ≤ 2000000000000 := by
  simp only [Value.okWide, Try.underlying26] at hv
  obtain ⟨cs, rfl, hsz, _⟩ := hv
  rw [cells_gen] at hsz
  obtain ⟨fuel, hf0⟩ := h
  have hcs : cs.toList.length = 9 := by simpa using hsz
  obtain ⟨c0, c1, c2, c3, c4, c5, c6, c7, c8, hc⟩ := n9 hcs
  have hf2 : DataW.trod enc Try.prog w base spare held fuel 26 [c0, c1, c2, c3, c4, c5, c6, c7, c8] = some (d, p) := by rw [← hc]; exact hf0
  obtain ⟨xs, n, _, hy, hl, hlen, hf⟩ := DataW.trod_struct Try.underlying26 hf2
  have hlen2 : xs.length = 2 := hlen
  have g0 : DataW.trod enc Try.prog w base spare held n 23 (([c0, c1, c2, c3, c4, c5, c6, c7, c8] : List Value).drop 0 |>.take (Try.prog.cellsOf 23)) = xs[0]? := hf 0 _ rfl
  have g1 : DataW.trod enc Try.prog w base spare held n 24 (([c0, c1, c2, c3, c4, c5, c6, c7, c8] : List Value).drop 8 |>.take (Try.prog.cellsOf 24)) = xs[1]? := hf 1 _ rfl
  rw [List.getElem?_eq_getElem (by omega)] at g0 g1
  simp only [cells_addr] at g0
  simp only [cells_accs] at g1
  obtain ⟨a, ha⟩ := addr_of g0
  obtain ⟨v', L, e, hs, hq, hl2⟩ := sl_ofW (t := 24) Try.underlying24 cells_acc (by decide) Acc.cs Acc.len g1 (fun q hq => hw q (by
    rw [show d = _ from congrArg Prod.fst hy]
    unfold DataW.weights
    rw [Try.underlying26]
    exact DataW.weights_mem_each (j := 1) rfl (by rw [List.getElem?_map, List.getElem?_eq_getElem (by omega)]; rfl) q hq)) (fun n cs' d p h hw => acc_of h hw)
  rw [bytes_acc] at hl2
  unfold reachBytes at hl2
  have e8 : c8 = v' := (List.cons.inj e).1
  obtain ⟨s, cap, hv', _⟩ := hs.form
  subst hv'
  refine ⟨a, s, cap, L, ?_, hs, hq, by omega⟩
  simp only [A8.cs, List.cons.injEq, and_true] at ha
  obtain ⟨rfl, rfl, rfl, rfl, rfl, rfl, rfl, rfl⟩ := ha
  have : cs = (Gen.cs a s L.length cap).toArray := by
    apply Array.ext'
    rw [hc, e8]
    rfl
  rw [this]
end
end Go.Proofs.Ytkdckcjnjljdmaa.Wd
