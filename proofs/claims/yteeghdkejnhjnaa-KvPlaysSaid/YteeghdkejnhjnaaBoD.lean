/- What the arguments of the books' laws are: lists of calls, each of eleven cells, the last of them a slice of bytes; opened out of the row's reading. -/
import Derived.Test.YteeghdkejnhjnaaOp
import Derived.Test.YteeghdkejnhjnaaBoM
import Derived.Deep.MidRow
import Derived.Deep.WholeRow
import Derived.SizedLaws
namespace Go.Proofs.Yteeghdkejnhjnaa.Bo
open Go Go.ChangeShapes Go.WideShapes Go.ChangeAt Go.RowKit Kt Ad

/-- A call that a script holds. -/
structure Do where
  (k n : Int) (a : A8) (v : Value) (b : List UInt8)
def Do.cs (x : Do) : List Value := [.int .i64 x.k, .int .i64 x.n, .int .u8 x.a.x0.toNat, .int .u8 x.a.x1.toNat, .int .u8 x.a.x2.toNat, .int .u8 x.a.x3.toNat, .int .u8 x.a.x4.toNat, .int .u8 x.a.x5.toNat, .int .u8 x.a.x6.toNat, .int .u8 x.a.x7.toNat, x.v]
def DoAt (W : World) (b o : Nat) (x : Do) : Prop := ∀ (j : Nat) (c : Value), x.cs[j]? = some c → W.cell? ⟨b, o + j, none⟩ = some c
/-- AN ARGUMENT: a list of calls. -/
structure DoRow (W : World) (v : Value) (L : List Do) : Prop where
  shape : ∃ (s : Option Addr) (cap : Nat), v = .slice s L.length cap ∧ (L ≠ [] → ∃ b off, s = some ⟨b, off, none⟩ ∧ b < W.heap.size ∧ ∀ (i : Nat) (x : Do), L[i]? = some x → DoAt W b (off + i * 11) x)
  byt : ∀ x ∈ L, Byt W x.v x.b ∧ x.b.length ≤ reachBytes
  len : L.length ≤ maxLen
theorem DoAt.below {n : Nat} {W W' : World} {b o : Nat} {x : Do} (h : DoAt W b o x) (hb : Below n W W') (hn : b < n) : DoAt W' b o x := fun j c hj => by
  have := h j c hj
  unfold World.cell? at this ⊢
  rw [hb.block b hn]
  exact this
theorem DoRow.below {W W' : World} {v : Value} {L : List Do} (h : DoRow W v L) (hb : Below W.heap.size W W') : DoRow W' v L := by
  refine ⟨?_, fun x hx => ⟨(h.byt x hx).1.later hb, (h.byt x hx).2⟩, h.len⟩
  obtain ⟨s, cap, rfl, h0⟩ := h.shape
  refine ⟨s, cap, rfl, fun hne => ?_⟩
  obtain ⟨b, off, rfl, h1, h2⟩ := h0 hne
  exact ⟨b, off, rfl, Nat.lt_of_lt_of_le h1 hb.size, fun i x hx => (h2 i x hx).below hb h1⟩
section
variable {H : Type} {enc : TypeId × Value → H} {w : World} {base : Nat} {spare : Nat → Bool} {held : Bool}
theorem cells_do : Try.prog.cellsOf 56 = 11 := by kernel_rfl
theorem bytes_u8 : Try.prog.bytesOf 5 = 1 := by kernel_rfl
theorem cells_bytes : Try.prog.cellsOf 25 = 1 := by kernel_rfl
theorem eleven {α : Type} {cs : List α} (h : cs.length = 11) : ∃ c0 c1 c2 c3 c4 c5 c6 c7 c8 c9 c10, cs = [c0, c1, c2, c3, c4, c5, c6, c7, c8, c9, c10] := by
  match cs, h with
  | [c0, c1, c2, c3, c4, c5, c6, c7, c8, c9, c10], _ => exact ⟨c0, c1, c2, c3, c4, c5, c6, c7, c8, c9, c10, rfl⟩
theorem weights_all {P : Program} {e : TypeId} : ∀ {ds : List (DataW H)} {d : DataW H}, d ∈ ds → ∀ {n : Nat}, n ∈ d.weights P e → n ∈ DataW.weightsAll P e ds
  | [], _, h, _, _ => by simp at h
  | d0 :: r, d, h, n, hn => by
    unfold DataW.weightsAll
    rcases List.mem_cons.1 h with rfl | h
    · exact List.mem_append_left _ hn
    · exact List.mem_append_right _ (weights_all h hn)
/-- One cell that reads as bytes. -/
theorem bytes_of {fuel : Nat} {c : Value} {y : DataW H × List MemPlace} (h : DataW.trod enc Try.prog w base spare held fuel 25 [c] = some y) (hw : ∀ n ∈ y.1.weights Try.prog 25, n ≤ reachBytes) : ∃ b : List UInt8, Byt w c b ∧ b.length ≤ reachBytes := by
  rcases Go.Deep.open_slice1 Try.underlying25 Ac.cells_u8 h with ⟨hcs, _⟩ | ⟨a, len, cap, m, n, V, D, Pl, hcs, _, hlc, hcm, hm, hy, hi⟩
  · obtain rfl : c = .slice none 0 0 := by simpa using hcs
    exact ⟨[], ⟨none, 0, rfl, fun h => absurd rfl h⟩, Nat.zero_le _⟩
  · obtain rfl : c = .slice (some a) len cap := by simpa using hcs
    have hlm : len ≤ m := by rw [hm]; split <;> omega
    obtain ⟨L, hL, hp⟩ := Ac.choose_list (p := fun i (x : UInt8) => w.cell? (a.add i) = some (u8v x)) len (fun i hil => by
      obtain ⟨h1, h2⟩ := hi i (by omega)
      obtain ⟨k, hk, _, hwf⟩ := DataW.trod_int Try.underlying5 h2
      obtain ⟨x, rfl⟩ := Ac.u8_of hwf
      refine ⟨x, ?_⟩
      rw [h1]
      have : V i = .int .u8 (x.toNat : Int) := by simpa using hk
      rw [this]
      rfl)
    have hlw : len ≤ reachBytes := by
      have := hw ((((List.range len).map D).length + ((List.range (m - len)).map fun j => D (len + j)).length) * Try.prog.bytesOf 5) (by rw [hy]; simp [DataW.weights, Try.underlying25])
      simp only [List.length_map, List.length_range, bytes_u8, Nat.mul_one] at this
      omega
    refine ⟨L, ⟨some a, cap, by rw [hL], fun hne => ?_⟩, by rw [hL]; exact hlw⟩
    obtain ⟨x0, hx0⟩ : ∃ x, L[0]? = some x := ⟨_, List.getElem?_eq_getElem (List.length_pos_iff.2 hne)⟩
    have h0 := hp 0 x0 hx0
    obtain ⟨g, off, spot⟩ := a
    have hspot : spot = none := by simpa [Addr.add] using World.cell?_spot h0
    subst hspot
    refine ⟨g, off, rfl, by simpa [Addr.add] using World.block_lt_of_cell? w _ h0, fun j u hj => ?_⟩
    have := hp j u hj
    rwa [add_plain] at this
set_option maxRecDepth 100000 in
/-- Eleven cells that read as a call. -/
theorem do_of {fuel : Nat} {cs : List Value} {y : DataW H × List MemPlace} (h : DataW.trod enc Try.prog w base spare held fuel 56 cs = some y) (hw : ∀ n ∈ y.1.weights Try.prog 56, n ≤ reachBytes) : ∃ x : Do, cs = x.cs ∧ Byt w x.v x.b ∧ x.b.length ≤ reachBytes := by
  obtain ⟨xs, n, _, hy, hl, hlen, hf⟩ := DataW.trod_struct Try.underlying56 h
  rw [cells_do] at hl
  obtain ⟨c0, c1, c2, c3, c4, c5, c6, c7, c8, c9, c10, rfl⟩ := eleven hl
  have hlen4 : xs.length = 4 := hlen
  have g0 : DataW.trod enc Try.prog w base spare held n 3 (([c0, c1, c2, c3, c4, c5, c6, c7, c8, c9, c10] : List Value).drop 0 |>.take (Try.prog.cellsOf 3)) = xs[0]? := hf 0 _ rfl
  have g1 : DataW.trod enc Try.prog w base spare held n 3 (([c0, c1, c2, c3, c4, c5, c6, c7, c8, c9, c10] : List Value).drop 1 |>.take (Try.prog.cellsOf 3)) = xs[1]? := hf 1 _ rfl
  have g2 : DataW.trod enc Try.prog w base spare held n 24 (([c0, c1, c2, c3, c4, c5, c6, c7, c8, c9, c10] : List Value).drop 2 |>.take (Try.prog.cellsOf 24)) = xs[2]? := hf 2 _ rfl
  have g3 : DataW.trod enc Try.prog w base spare held n 25 (([c0, c1, c2, c3, c4, c5, c6, c7, c8, c9, c10] : List Value).drop 10 |>.take (Try.prog.cellsOf 25)) = xs[3]? := hf 3 _ rfl
  rw [List.getElem?_eq_getElem (by omega)] at g0 g1 g2 g3
  simp only [Ac.cells_int] at g0 g1
  simp only [Ac.cells_addr] at g2
  simp only [cells_bytes] at g3
  obtain ⟨k, hk, _, _⟩ := DataW.trod_int Try.underlying3 g0
  obtain ⟨m, hm, _, _⟩ := DataW.trod_int Try.underlying3 g1
  obtain ⟨a, ha⟩ := Ac.addr_of (c0 := c2) (c1 := c3) (c2 := c4) (c3 := c5) (c4 := c6) (c5 := c7) (c6 := c8) (c7 := c9) g2
  obtain ⟨b, hb⟩ := bytes_of (c := c10) g3 (fun q hq => hw q (by
    rw [hy]
    unfold DataW.weights
    rw [Try.underlying56]
    exact DataW.weights_mem_each (j := 3) rfl (by rw [List.getElem?_map, List.getElem?_eq_getElem (by omega)]; rfl) q hq))
  refine ⟨⟨k, m, a, c10, b⟩, ?_, hb⟩
  simp only [A8.cs, List.cons.injEq, and_true] at ha
  simp only [List.drop_succ_cons, List.drop_zero, List.take_succ_cons, List.take_zero, List.cons.injEq, and_true] at hk hm
  obtain ⟨rfl, rfl, rfl, rfl, rfl, rfl, rfl, rfl⟩ := ha
  rw [hk, hm]
  rfl
set_option maxRecDepth 100000 in
/-- AN ARGUMENT OPENED. -/
theorem open_do {r : Reach} {b0 : Nat} {v : Value} {d : DataW H} {p : List MemPlace} (hv : Value.okWide Try.prog w r b0 46 v) (h : DataW.Trod enc Try.prog w base spare held 46 v d p) (hw : ∀ n ∈ d.weights Try.prog 46, n ≤ reachBytes) : ∃ L : List Do, DoRow w v L := by
  obtain ⟨fuel, hf⟩ := h
  obtain ⟨s, n0, c0, rfl⟩ := okWide_slice Try.underlying46 hv
  rcases Go.Deep.open_slice Try.underlying46 hf with ⟨hcs, _⟩ | ⟨a, len, cap, m, n, D, Pl, hcs, _, hlc, hcm, hm, hy, hi⟩
  · obtain ⟨rfl, rfl, rfl⟩ : s = none ∧ n0 = 0 ∧ c0 = 0 := by simpa [Value.cells] using hcs
    exact ⟨[], ⟨none, 0, rfl, fun h => absurd rfl h⟩, by simp, Nat.zero_le _⟩
  · obtain ⟨rfl, rfl, rfl⟩ : s = some a ∧ n0 = len ∧ c0 = cap := by simpa [Value.cells] using hcs
    have hlm : n0 ≤ m := by rw [hm]; split <;> omega
    obtain ⟨L, hL, hp⟩ := Ac.choose_list (p := fun i (x : Do) => (∀ (j : Nat) (c : Value), x.cs[j]? = some c → w.cell? ((a.add (i * 11)).add j) = some c) ∧ Byt w x.v x.b ∧ x.b.length ≤ reachBytes) n0 (fun i hil => by
      obtain ⟨cs', h1, h2⟩ := hi i (by omega)
      rw [cells_do] at h1
      obtain ⟨x, rfl, hx⟩ := do_of h2 (fun q hq => hw q (by
        rw [show d = _ from congrArg Prod.fst hy]
        unfold DataW.weights
        rw [Try.underlying46]
        exact List.mem_cons_of_mem _ (List.mem_append_left _ (weights_all (List.mem_map.2 ⟨i, List.mem_range.2 hil, rfl⟩) hq))))
      obtain ⟨_, _, hat⟩ := World.cells?_some h1
      refine ⟨x, fun j c hj => ?_, hx⟩
      have hj11 : j < 11 := by
        have := (List.getElem?_eq_some_iff.1 hj).1
        exact this
      rw [hat j hj11, hj])
    refine ⟨L, ⟨some a, c0, by rw [hL], fun hne => ?_⟩, fun x hx => ?_, by rw [hL]; omega⟩
    · obtain ⟨x0, hx0⟩ : ∃ x, L[0]? = some x := ⟨_, List.getElem?_eq_getElem (List.length_pos_iff.2 hne)⟩
      have h0 := (hp 0 x0 hx0).1 0 _ rfl
      obtain ⟨b, off, spot⟩ := a
      have hspot : spot = none := by simpa [Addr.add] using World.cell?_spot h0
      subst hspot
      refine ⟨b, off, rfl, ?_, fun i x hx j c hj => ?_⟩
      · simpa [Addr.add] using World.block_lt_of_cell? w _ h0
      · have := (hp i x hx).1 j c hj
        rw [add_plain, add_plain] at this
        exact this
    · obtain ⟨i, hi', e⟩ := List.getElem_of_mem hx
      exact (hp i x (by rw [List.getElem?_eq_getElem hi', e])).2
end

/-! ### a call loaded and stored at once -/
theorem sizeDo : (Try.prog.info? 56).map (·.size) = some 11 := by kernel_rfl
theorem wb_load {ops : Array Oper} {rest : List Oper} {op : Oper} {a : Act} {w : World} {Q : Exit → Act → World → Prop} (x : Do) (b o : Nat) (h : DoAt w b o x) (p : Operand) (hgd : op.guard = none) (ho : op.op = .load 56 p)
    (hx : a.eval p = .pointer (some ⟨b, o, none⟩)) (hk : wpList Try.prog ops Q rest (a.put op.dst (.agg x.cs.toArray)) w) : wpList Try.prog ops Q (op :: rest) a w :=
  wpList_load_mid hgd 56 p ho b o hx x.cs _ h Try.underlying56 rfl sizeDo hk
theorem oneCellDo (x : Do) (hv : x.v.oneCell' = true) : x.cs.toArray.all (·.oneCell') = true := by
  simp only [Do.cs, List.all_toArray, List.all_cons, List.all_nil, Bool.and_true, hv]
  rfl
theorem wb_store {ops : Array Oper} {rest : List Oper} {op : Oper} {a : Act} {w : World} {Q : Exit → Act → World → Prop} (x : Do) (hv : x.v.oneCell' = true) (p y : Operand) {c0 : Array Value} (hgd : op.guard = none) (ho : op.op = .store 56 p y)
    (hx : a.eval p = .pointer (some ⟨w.heap.size, 0, none⟩)) (hy : a.eval y = .agg x.cs.toArray) (hs : c0.size = 11)
    (hk : wpList Try.prog ops Q rest (a.put op.dst undef) (w.alloc (.cells x.cs.toArray 56))) : wpList Try.prog ops Q (op :: rest) a (w.alloc (.cells c0 56)) := by
  refine wpList_plain hgd fun _ hK => ?_
  unfold Oper.wp execOp
  simp only [ho, hx, hy, run_storeAt_new (P := Try.prog) w 56 c0 x.cs.toArray sizeDo hs (oneCellDo x hv), Sem.run_bind, Sem.run_pure, Result.andThen_ok]
  exact hK _ _ hk
theorem lies_dos {W : World} {b : Nat} {t : TypeId} {x : Do} (h : Lies W b t x.cs.toArray) :
    W.cell? ⟨b, 0, none⟩ = some (.int .i64 x.k) ∧ W.cell? ⟨b, 1, none⟩ = some (.int .i64 x.n) ∧ W.cell? ⟨b, 2, none⟩ = some (.int .u8 x.a.x0.toNat) ∧ W.cell? ⟨b, 3, none⟩ = some (.int .u8 x.a.x1.toNat) ∧ W.cell? ⟨b, 4, none⟩ = some (.int .u8 x.a.x2.toNat) ∧ W.cell? ⟨b, 5, none⟩ = some (.int .u8 x.a.x3.toNat) ∧ W.cell? ⟨b, 6, none⟩ = some (.int .u8 x.a.x4.toNat) ∧ W.cell? ⟨b, 7, none⟩ = some (.int .u8 x.a.x5.toNat) ∧ W.cell? ⟨b, 8, none⟩ = some (.int .u8 x.a.x6.toNat) ∧ W.cell? ⟨b, 9, none⟩ = some (.int .u8 x.a.x7.toNat) ∧ W.cell? ⟨b, 10, none⟩ = some x.v :=
  ⟨h.cell 0, h.cell 1, h.cell 2, h.cell 3, h.cell 4, h.cell 5, h.cell 6, h.cell 7, h.cell 8, h.cell 9, h.cell 10⟩
end Go.Proofs.Yteeghdkejnhjnaa.Bo
