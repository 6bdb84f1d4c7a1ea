/- What the arguments of the ledger's laws are: lists of calls, each of nineteen cells; opened out of the row's reading. -/
import Derived.WalkKit
import Derived.ProofKit
import Derived.OpenShut
import Derived.Deep.Slices
import Derived.Test.YteeghdkejnhjnaaAcT
namespace Go.Proofs.Yteeghdkejnhjnaa.Ac
open Go Go.ChangeShapes Go.WideShapes Go.ChangeAt Go.RowKit Kt Ad

/-- A call that a script holds. -/
structure Do where
  (k : Int) (a b : A8) (n m : Nat)
def Do.cs (x : Do) : List Value := [.int .i64 x.k, .int .u8 x.a.x0.toNat, .int .u8 x.a.x1.toNat, .int .u8 x.a.x2.toNat, .int .u8 x.a.x3.toNat, .int .u8 x.a.x4.toNat, .int .u8 x.a.x5.toNat, .int .u8 x.a.x6.toNat, .int .u8 x.a.x7.toNat, .int .u8 x.b.x0.toNat, .int .u8 x.b.x1.toNat, .int .u8 x.b.x2.toNat, .int .u8 x.b.x3.toNat, .int .u8 x.b.x4.toNat, .int .u8 x.b.x5.toNat, .int .u8 x.b.x6.toNat, .int .u8 x.b.x7.toNat, .int .u64 x.n, .int .u64 x.m]

/-- The cells of the i-th call. -/
def DoAt (W : World) (b o : Nat) (x : Do) : Prop := ∀ (j : Nat) (c : Value), x.cs[j]? = some c → W.cell? ⟨b, o + j, none⟩ = some c
/-- AN ARGUMENT: a list of calls. -/
structure DoRow (W : World) (v : Value) (L : List Do) : Prop where
  shape : (v = .slice none 0 0 ∧ L = []) ∨ ∃ (ad : Addr) (cap : Nat), v = .slice (some ad) L.length cap ∧ (L ≠ [] → ∃ b off, ad = ⟨b, off, none⟩ ∧ b < W.heap.size ∧ ∀ (i : Nat) (x : Do), L[i]? = some x → DoAt W b (off + i * 19) x)
  fit : ∀ x ∈ L, x.n < M64 ∧ x.m < M64

theorem DoAt.below {n : Nat} {W W' : World} {b o : Nat} {x : Do} (h : DoAt W b o x) (hb : Below n W W') (hn : b < n) : DoAt W' b o x := fun j c hj => by
  have := h j c hj
  unfold World.cell? at this ⊢
  rw [hb.block b hn]
  exact this
theorem DoRow.below {n : Nat} {W W' : World} {v : Value} {L : List Do} (h : DoRow W v L) (hb : Below n W W') (hn : W.heap.size ≤ n) : DoRow W' v L := by
  refine ⟨?_, h.fit⟩
  rcases h.shape with h0 | ⟨ad, cap, rfl, h0⟩
  · exact .inl h0
  · refine .inr ⟨ad, cap, rfl, fun hne => ?_⟩
    obtain ⟨b, off, rfl, h1, h2⟩ := h0 hne
    exact ⟨b, off, rfl, Nat.lt_of_lt_of_le h1 hb.size, fun i x hx => (h2 i x hx).below hb (Nat.lt_of_lt_of_le h1 hn)⟩
theorem do_cells {W : World} {b o : Nat} {x : Do} (h : DoAt W b o x) :
    W.cell? ⟨b, o, none⟩ = some (.int .i64 x.k) ∧ W.cell? ⟨b, o + 1, none⟩ = some (.int .u8 x.a.x0.toNat) ∧ W.cell? ⟨b, o + 2, none⟩ = some (.int .u8 x.a.x1.toNat) ∧ W.cell? ⟨b, o + 3, none⟩ = some (.int .u8 x.a.x2.toNat) ∧ W.cell? ⟨b, o + 4, none⟩ = some (.int .u8 x.a.x3.toNat) ∧ W.cell? ⟨b, o + 5, none⟩ = some (.int .u8 x.a.x4.toNat) ∧ W.cell? ⟨b, o + 6, none⟩ = some (.int .u8 x.a.x5.toNat) ∧ W.cell? ⟨b, o + 7, none⟩ = some (.int .u8 x.a.x6.toNat) ∧ W.cell? ⟨b, o + 8, none⟩ = some (.int .u8 x.a.x7.toNat) ∧ W.cell? ⟨b, o + 9, none⟩ = some (.int .u8 x.b.x0.toNat) ∧ W.cell? ⟨b, o + 10, none⟩ = some (.int .u8 x.b.x1.toNat) ∧ W.cell? ⟨b, o + 11, none⟩ = some (.int .u8 x.b.x2.toNat) ∧ W.cell? ⟨b, o + 12, none⟩ = some (.int .u8 x.b.x3.toNat) ∧ W.cell? ⟨b, o + 13, none⟩ = some (.int .u8 x.b.x4.toNat) ∧ W.cell? ⟨b, o + 14, none⟩ = some (.int .u8 x.b.x5.toNat) ∧ W.cell? ⟨b, o + 15, none⟩ = some (.int .u8 x.b.x6.toNat) ∧ W.cell? ⟨b, o + 16, none⟩ = some (.int .u8 x.b.x7.toNat) ∧ W.cell? ⟨b, o + 17, none⟩ = some (.int .u64 x.n) ∧ W.cell? ⟨b, o + 18, none⟩ = some (.int .u64 x.m) :=
  ⟨h 0 _ rfl, h 1 _ rfl, h 2 _ rfl, h 3 _ rfl, h 4 _ rfl, h 5 _ rfl, h 6 _ rfl, h 7 _ rfl, h 8 _ rfl, h 9 _ rfl, h 10 _ rfl, h 11 _ rfl, h 12 _ rfl, h 13 _ rfl, h 14 _ rfl, h 15 _ rfl, h 16 _ rfl, h 17 _ rfl, h 18 _ rfl⟩
theorem lies_do {W : World} {b : Nat} {t : TypeId} {x : Do} (h : Lies W b t x.cs.toArray) : DoAt W b 0 x := fun j c hj => by
  rw [Nat.zero_add, h.cell]
  simpa using hj

section
variable {H : Type} {enc : TypeId × Value → H} {w : World} {base : Nat} {spare : Nat → Bool} {held : Bool}
theorem u8_of {n : Int} (h : (Lit.int .u8 n).wf = true) : ∃ x : UInt8, n = (x.toNat : Int) := by
  have hb := bounds_u8 h
  refine ⟨UInt8.ofNat n.toNat, ?_⟩
  rw [ofNat_toNat _ (by omega)]
  omega
theorem u64_of {n : Int} (h : (Lit.int .u64 n).wf = true) : ∃ x : Nat, n = (x : Int) ∧ x < M64 := by
  have hb := bounds_u64 h
  exact ⟨n.toNat, by omega, by unfold M64; omega⟩
theorem cells_addr : Try.prog.cellsOf 24 = 8 := by kernel_rfl
theorem cells_u8 : Try.prog.cellsOf 5 = 1 := by kernel_rfl
theorem cells_u64 : Try.prog.cellsOf 87 = 1 := by kernel_rfl
theorem cells_int : Try.prog.cellsOf 3 = 1 := by kernel_rfl
theorem cells_do : Try.prog.cellsOf 89 = 19 := by kernel_rfl
/-- Eight cells that read as an address. -/
theorem addr_of {fuel : Nat} {c0 c1 c2 c3 c4 c5 c6 c7 : Value} {y : DataW H × List MemPlace} (h : DataW.trod enc Try.prog w base spare held fuel 24 [c0, c1, c2, c3, c4, c5, c6, c7] = some y) : ∃ a : A8, [c0, c1, c2, c3, c4, c5, c6, c7] = a.cs := by
  obtain ⟨xs, m, rfl, _, _, hl, hi⟩ := DataW.trod_array Try.underlying24 h
  have one : ∀ i (c : Value), i < 8 → [c0, c1, c2, c3, c4, c5, c6, c7][i]? = some c → ∃ x : UInt8, c = .int .u8 (x.toNat : Int) := by
    intro i c hi8 hci
    have h1 := hi i hi8
    rw [cells_u8] at h1
    have h2 : (([c0, c1, c2, c3, c4, c5, c6, c7] : List Value).drop (i * 1)).take 1 = [c] := by
      have hlt : i < [c0, c1, c2, c3, c4, c5, c6, c7].length := hi8
      rw [List.getElem?_eq_getElem hlt] at hci
      have hce : [c0, c1, c2, c3, c4, c5, c6, c7][i] = c := by injection hci
      rw [Nat.mul_one, List.drop_eq_getElem_cons hlt, hce]
      rfl
    rw [h2] at h1
    obtain ⟨y, hy⟩ : ∃ y, xs[i]? = some y := ⟨_, List.getElem?_eq_getElem (by omega)⟩
    rw [hy] at h1
    obtain ⟨n, hn, _, hwf⟩ := DataW.trod_int Try.underlying5 h1
    obtain ⟨x, rfl⟩ := u8_of hwf
    exact ⟨x, by simpa using hn⟩
  obtain ⟨x0, rfl⟩ := one 0 c0 (by omega) rfl
  obtain ⟨x1, rfl⟩ := one 1 c1 (by omega) rfl
  obtain ⟨x2, rfl⟩ := one 2 c2 (by omega) rfl
  obtain ⟨x3, rfl⟩ := one 3 c3 (by omega) rfl
  obtain ⟨x4, rfl⟩ := one 4 c4 (by omega) rfl
  obtain ⟨x5, rfl⟩ := one 5 c5 (by omega) rfl
  obtain ⟨x6, rfl⟩ := one 6 c6 (by omega) rfl
  obtain ⟨x7, rfl⟩ := one 7 c7 (by omega) rfl
  exact ⟨⟨x0, x1, x2, x3, x4, x5, x6, x7⟩, rfl⟩
theorem nineteen {α : Type} {cs : List α} (h : cs.length = 19) : ∃ c0 c1 c2 c3 c4 c5 c6 c7 c8 c9 c10 c11 c12 c13 c14 c15 c16 c17 c18, cs = [c0, c1, c2, c3, c4, c5, c6, c7, c8, c9, c10, c11, c12, c13, c14, c15, c16, c17, c18] := by
  match cs, h with
  | [c0, c1, c2, c3, c4, c5, c6, c7, c8, c9, c10, c11, c12, c13, c14, c15, c16, c17, c18], _ => exact ⟨c0, c1, c2, c3, c4, c5, c6, c7, c8, c9, c10, c11, c12, c13, c14, c15, c16, c17, c18, rfl⟩
set_option maxRecDepth 100000 in
/-- Nineteen cells that read as a call. -/
theorem do_of {fuel : Nat} {cs : List Value} {y : DataW H × List MemPlace} (h : DataW.trod enc Try.prog w base spare held fuel 89 cs = some y) : ∃ x : Do, cs = x.cs ∧ x.n < M64 ∧ x.m < M64 := by
  obtain ⟨xs, n, _, _, hl, hlen, hf⟩ := DataW.trod_struct Try.underlying89 h
  rw [cells_do] at hl
  obtain ⟨c0, c1, c2, c3, c4, c5, c6, c7, c8, c9, c10, c11, c12, c13, c14, c15, c16, c17, c18, rfl⟩ := nineteen hl
  have hlen5 : xs.length = 5 := hlen
  have g0 : DataW.trod enc Try.prog w base spare held n 3 (([c0, c1, c2, c3, c4, c5, c6, c7, c8, c9, c10, c11, c12, c13, c14, c15, c16, c17, c18] : List Value).drop 0 |>.take (Try.prog.cellsOf 3)) = xs[0]? := hf 0 _ rfl
  have g1 : DataW.trod enc Try.prog w base spare held n 24 (([c0, c1, c2, c3, c4, c5, c6, c7, c8, c9, c10, c11, c12, c13, c14, c15, c16, c17, c18] : List Value).drop 1 |>.take (Try.prog.cellsOf 24)) = xs[1]? := hf 1 _ rfl
  have g2 : DataW.trod enc Try.prog w base spare held n 24 (([c0, c1, c2, c3, c4, c5, c6, c7, c8, c9, c10, c11, c12, c13, c14, c15, c16, c17, c18] : List Value).drop 9 |>.take (Try.prog.cellsOf 24)) = xs[2]? := hf 2 _ rfl
  have g3 : DataW.trod enc Try.prog w base spare held n 87 (([c0, c1, c2, c3, c4, c5, c6, c7, c8, c9, c10, c11, c12, c13, c14, c15, c16, c17, c18] : List Value).drop 17 |>.take (Try.prog.cellsOf 87)) = xs[3]? := hf 3 _ rfl
  have g4 : DataW.trod enc Try.prog w base spare held n 87 (([c0, c1, c2, c3, c4, c5, c6, c7, c8, c9, c10, c11, c12, c13, c14, c15, c16, c17, c18] : List Value).drop 18 |>.take (Try.prog.cellsOf 87)) = xs[4]? := hf 4 _ rfl
  rw [List.getElem?_eq_getElem (by omega)] at g0 g1 g2 g3 g4
  simp only [cells_int] at g0
  simp only [cells_addr] at g1 g2
  simp only [cells_u64] at g3 g4
  obtain ⟨k, hk, _, _⟩ := DataW.trod_int Try.underlying3 g0
  obtain ⟨a, ha⟩ := addr_of (c0 := c1) (c1 := c2) (c2 := c3) (c3 := c4) (c4 := c5) (c5 := c6) (c6 := c7) (c7 := c8) g1
  obtain ⟨b, hb⟩ := addr_of (c0 := c9) (c1 := c10) (c2 := c11) (c3 := c12) (c4 := c13) (c5 := c14) (c6 := c15) (c7 := c16) g2
  obtain ⟨i, hi, _, wi⟩ := DataW.trod_int Try.underlying87 g3
  obtain ⟨j, hj, _, wj⟩ := DataW.trod_int Try.underlying87 g4
  obtain ⟨p, rfl, hp⟩ := u64_of wi
  obtain ⟨q, rfl, hq⟩ := u64_of wj
  refine ⟨⟨k, a, b, p, q⟩, ?_, hp, hq⟩
  simp only [A8.cs, List.cons.injEq, and_true] at ha hb
  simp only [List.drop_succ_cons, List.drop_zero, List.take_succ_cons, List.take_zero, List.cons.injEq, and_true] at hk hi hj
  obtain ⟨rfl, rfl, rfl, rfl, rfl, rfl, rfl, rfl⟩ := ha
  obtain ⟨rfl, rfl, rfl, rfl, rfl, rfl, rfl, rfl⟩ := hb
  rw [hk, hi, hj]
  rfl
theorem choose_list {α : Type} {p : Nat → α → Prop} : ∀ (n : Nat), (∀ i, i < n → ∃ x, p i x) → ∃ L : List α, L.length = n ∧ ∀ i x, L[i]? = some x → p i x
  | 0, _ => ⟨[], rfl, fun i x h => by simp at h⟩
  | n + 1, h => by
    obtain ⟨L, h1, h2⟩ := choose_list n (fun i hi => h i (by omega))
    obtain ⟨x, hx⟩ := h n (by omega)
    refine ⟨L ++ [x], by simp [h1], fun i y hy => ?_⟩
    by_cases hi : i < L.length
    · rw [List.getElem?_append_left hi] at hy; exact h2 i y hy
    · rw [List.getElem?_append_right (by omega)] at hy
      have : i - L.length = 0 := by
        by_cases h0 : i - L.length = 0
        · exact h0
        · have : ([x] : List α)[i - L.length]? = none := List.getElem?_eq_none (by simp; omega)
          rw [this] at hy; cases hy
      have hin : i = n := by omega
      subst hin
      rw [this] at hy
      simp only [List.getElem?_cons_zero, Option.some.injEq] at hy
      exact hy ▸ hx
set_option maxRecDepth 100000 in
/-- AN ARGUMENT OPENED. -/
theorem open_do {r : Reach} {b0 : Nat} {v : Value} {d : DataW H} {p : List MemPlace} (hv : Value.okWide Try.prog w r b0 80 v) (h : DataW.Trod enc Try.prog w base spare held 80 v d p) : ∃ L : List Do, DoRow w v L := by
  obtain ⟨fuel, hf⟩ := h
  obtain ⟨s, n0, c0, rfl⟩ := okWide_slice Try.underlying80 hv
  rcases Go.Deep.open_slice Try.underlying80 hf with ⟨hcs, _⟩ | ⟨a, len, cap, m, n, D, Pl, hcs, _, hlc, _, hm, _, hi⟩
  · obtain ⟨rfl, rfl, rfl⟩ : s = none ∧ n0 = 0 ∧ c0 = 0 := by simpa [Value.cells] using hcs
    exact ⟨[], .inl ⟨rfl, rfl⟩, by simp⟩
  · obtain ⟨rfl, rfl, rfl⟩ : s = some a ∧ n0 = len ∧ c0 = cap := by simpa [Value.cells] using hcs
    have hlm : n0 ≤ m := by rw [hm]; split <;> omega
    obtain ⟨L, hL, hp⟩ := choose_list (p := fun i (x : Do) => (∀ (j : Nat) (c : Value), x.cs[j]? = some c → w.cell? ((a.add (i * 19)).add j) = some c) ∧ x.n < M64 ∧ x.m < M64) n0 (fun i hil => by
      obtain ⟨cs', h1, h2⟩ := hi i (by omega)
      rw [cells_do] at h1
      obtain ⟨x, rfl, hx⟩ := do_of h2
      obtain ⟨_, _, hat⟩ := World.cells?_some h1
      refine ⟨x, fun j c hj => ?_, hx⟩
      have hj19 : j < 19 := by
        have := (List.getElem?_eq_some_iff.1 hj).1
        exact this
      rw [hat j hj19, hj])
    refine ⟨L, .inr ⟨a, c0, by rw [hL], fun hne => ?_⟩, fun x hx => ?_⟩
    · obtain ⟨x0, hx0⟩ : ∃ x, L[0]? = some x := ⟨_, List.getElem?_eq_getElem (List.length_pos_iff.2 hne)⟩
      have h0 := (hp 0 x0 hx0).1 0 _ rfl
      obtain ⟨b, off, spot⟩ := a
      have hspot : spot = none := by simpa [Addr.add] using World.cell?_spot h0
      subst hspot
      refine ⟨b, off, rfl, ?_, fun i x hx j c hj => ?_⟩
      · simpa [Addr.add] using World.block_lt_of_cell? w _ h0
      · have := (hp i x hx).1 j c hj
        rw [add_plain, add_plain] at this
        exact this
    · obtain ⟨i, hi', e⟩ := List.getElem_of_mem hx
      exact (hp i x (by rw [List.getElem?_eq_getElem hi', e])).2
end
end Go.Proofs.Yteeghdkejnhjnaa.Ac
