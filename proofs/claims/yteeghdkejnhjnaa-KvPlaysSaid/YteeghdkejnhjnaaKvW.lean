/- What the arguments of the store's laws are: lists of calls, each of twelve cells, two of them slices of bytes; opened out of the row's reading; the walk of the law's heavy. -/
import Derived.Test.YteeghdkejnhjnaaBoD
import Derived.Test.YteeghdkejnhjnaaKvA
namespace Go.Proofs.Yteeghdkejnhjnaa.Kv
open Go Go.ChangeShapes Go.WideShapes Go.ChangeAt Go.RowKit Kt Ad Bo

/-- A call that a script holds. -/
structure Kdo where
  (k : Int) (a : A8) (kv : Value) (key : Bs) (vv : Value) (val : Bs) (n : Int)
def Kdo.cs (x : Kdo) : List Value := [.int .i64 x.k, .int .u8 x.a.x0.toNat, .int .u8 x.a.x1.toNat, .int .u8 x.a.x2.toNat, .int .u8 x.a.x3.toNat, .int .u8 x.a.x4.toNat, .int .u8 x.a.x5.toNat, .int .u8 x.a.x6.toNat, .int .u8 x.a.x7.toNat, x.kv, x.vv, .int .i64 x.n]
def KdoAt (W : World) (b o : Nat) (x : Kdo) : Prop := ∀ (j : Nat) (c : Value), x.cs[j]? = some c → W.cell? ⟨b, o + j, none⟩ = some c
/-- AN ARGUMENT: a list of calls. -/
structure KRow (W : World) (v : Value) (L : List Kdo) : Prop where
  shape : ∃ (s : Option Addr) (cap : Nat), v = .slice s L.length cap ∧ (L ≠ [] → ∃ b off, s = some ⟨b, off, none⟩ ∧ b < W.heap.size ∧ ∀ (i : Nat) (x : Kdo), L[i]? = some x → KdoAt W b (off + i * 12) x)
  byt : ∀ x ∈ L, (Byt W x.kv x.key ∧ x.key.length ≤ reachBytes) ∧ (Byt W x.vv x.val ∧ x.val.length ≤ reachBytes)
  len : L.length ≤ maxLen
theorem KdoAt.below {n : Nat} {W W' : World} {b o : Nat} {x : Kdo} (h : KdoAt W b o x) (hb : Below n W W') (hn : b < n) : KdoAt W' b o x := fun j c hj => by
  have := h j c hj
  unfold World.cell? at this ⊢
  rw [hb.block b hn]
  exact this
theorem KRow.below {W W' : World} {v : Value} {L : List Kdo} (h : KRow W v L) (hb : Below W.heap.size W W') : KRow W' v L := by
  refine ⟨?_, fun x hx => ⟨⟨(h.byt x hx).1.1.later hb, (h.byt x hx).1.2⟩, ⟨(h.byt x hx).2.1.later hb, (h.byt x hx).2.2⟩⟩, h.len⟩
  obtain ⟨s, cap, rfl, h0⟩ := h.shape
  refine ⟨s, cap, rfl, fun hne => ?_⟩
  obtain ⟨b, off, rfl, h1, h2⟩ := h0 hne
  exact ⟨b, off, rfl, Nat.lt_of_lt_of_le h1 hb.size, fun i x hx => (h2 i x hx).below hb h1⟩
section
variable {H : Type} {enc : TypeId × Value → H} {w : World} {base : Nat} {spare : Nat → Bool} {held : Bool}
theorem cells_kdo : Try.prog.cellsOf 31 = 12 := by kernel_rfl
theorem twelve {α : Type} {cs : List α} (h : cs.length = 12) : ∃ c0 c1 c2 c3 c4 c5 c6 c7 c8 c9 c10 c11, cs = [c0, c1, c2, c3, c4, c5, c6, c7, c8, c9, c10, c11] := by
  match cs, h with
  | [c0, c1, c2, c3, c4, c5, c6, c7, c8, c9, c10, c11], _ => exact ⟨c0, c1, c2, c3, c4, c5, c6, c7, c8, c9, c10, c11, rfl⟩
set_option maxRecDepth 100000 in
/-- Twelve cells that read as a call. -/
theorem kdo_of {fuel : Nat} {cs : List Value} {y : DataW H × List MemPlace} (h : DataW.trod enc Try.prog w base spare held fuel 31 cs = some y) (hw : ∀ n ∈ y.1.weights Try.prog 31, n ≤ reachBytes) : ∃ x : Kdo, cs = x.cs ∧ (Byt w x.kv x.key ∧ x.key.length ≤ reachBytes) ∧ (Byt w x.vv x.val ∧ x.val.length ≤ reachBytes) := by
  obtain ⟨xs, n, _, hy, hl, hlen, hf⟩ := DataW.trod_struct Try.underlying31 h
  rw [cells_kdo] at hl
  obtain ⟨c0, c1, c2, c3, c4, c5, c6, c7, c8, c9, c10, c11, rfl⟩ := twelve hl
  have hlen5 : xs.length = 5 := hlen
  have g0 : DataW.trod enc Try.prog w base spare held n 3 (([c0, c1, c2, c3, c4, c5, c6, c7, c8, c9, c10, c11] : List Value).drop 0 |>.take (Try.prog.cellsOf 3)) = xs[0]? := hf 0 _ rfl
  have g1 : DataW.trod enc Try.prog w base spare held n 24 (([c0, c1, c2, c3, c4, c5, c6, c7, c8, c9, c10, c11] : List Value).drop 1 |>.take (Try.prog.cellsOf 24)) = xs[1]? := hf 1 _ rfl
  have g2 : DataW.trod enc Try.prog w base spare held n 25 (([c0, c1, c2, c3, c4, c5, c6, c7, c8, c9, c10, c11] : List Value).drop 9 |>.take (Try.prog.cellsOf 25)) = xs[2]? := hf 2 _ rfl
  have g3 : DataW.trod enc Try.prog w base spare held n 25 (([c0, c1, c2, c3, c4, c5, c6, c7, c8, c9, c10, c11] : List Value).drop 10 |>.take (Try.prog.cellsOf 25)) = xs[3]? := hf 3 _ rfl
  have g4 : DataW.trod enc Try.prog w base spare held n 3 (([c0, c1, c2, c3, c4, c5, c6, c7, c8, c9, c10, c11] : List Value).drop 11 |>.take (Try.prog.cellsOf 3)) = xs[4]? := hf 4 _ rfl
  rw [List.getElem?_eq_getElem (by omega)] at g0 g1 g2 g3 g4
  simp only [Ac.cells_int] at g0 g4
  simp only [Ac.cells_addr] at g1
  simp only [cells_bytes] at g2 g3
  obtain ⟨k, hk, _, _⟩ := DataW.trod_int Try.underlying3 g0
  obtain ⟨m, hm, _, _⟩ := DataW.trod_int Try.underlying3 g4
  obtain ⟨a, ha⟩ := Ac.addr_of (c0 := c1) (c1 := c2) (c2 := c3) (c3 := c4) (c4 := c5) (c5 := c6) (c6 := c7) (c7 := c8) g1
  obtain ⟨bk, hbk⟩ := bytes_of (c := c9) g2 (fun q hq => hw q (by
    rw [hy]
    unfold DataW.weights
    rw [Try.underlying31]
    exact DataW.weights_mem_each (j := 2) rfl (by rw [List.getElem?_map, List.getElem?_eq_getElem (by omega)]; rfl) q hq))
  obtain ⟨bv, hbv⟩ := bytes_of (c := c10) g3 (fun q hq => hw q (by
    rw [hy]
    unfold DataW.weights
    rw [Try.underlying31]
    exact DataW.weights_mem_each (j := 3) rfl (by rw [List.getElem?_map, List.getElem?_eq_getElem (by omega)]; rfl) q hq))
  refine ⟨⟨k, a, c9, bk, c10, bv, m⟩, ?_, hbk, hbv⟩
  simp only [A8.cs, List.cons.injEq, and_true] at ha
  simp only [List.drop_succ_cons, List.drop_zero, List.take_succ_cons, List.take_zero, List.cons.injEq, and_true] at hk hm
  obtain ⟨rfl, rfl, rfl, rfl, rfl, rfl, rfl, rfl⟩ := ha
  rw [hk, hm]
  rfl
set_option maxRecDepth 100000 in
/-- AN ARGUMENT OPENED. -/
theorem open_kdo {r : Reach} {b0 : Nat} {v : Value} {d : DataW H} {p : List MemPlace} (hv : Value.okWide Try.prog w r b0 22 v) (h : DataW.Trod enc Try.prog w base spare held 22 v d p) (hw : ∀ n ∈ d.weights Try.prog 22, n ≤ reachBytes) : ∃ L : List Kdo, KRow w v L := by
  obtain ⟨fuel, hf⟩ := h
  obtain ⟨s, n0, c0, rfl⟩ := okWide_slice Try.underlying22 hv
  rcases Go.Deep.open_slice Try.underlying22 hf with ⟨hcs, _⟩ | ⟨a, len, cap, m, n, D, Pl, hcs, _, hlc, hcm, hm, hy, hi⟩
  · obtain ⟨rfl, rfl, rfl⟩ : s = none ∧ n0 = 0 ∧ c0 = 0 := by simpa [Value.cells] using hcs
    exact ⟨[], ⟨none, 0, rfl, fun h => absurd rfl h⟩, by simp, Nat.zero_le _⟩
  · obtain ⟨rfl, rfl, rfl⟩ : s = some a ∧ n0 = len ∧ c0 = cap := by simpa [Value.cells] using hcs
    have hlm : n0 ≤ m := by rw [hm]; split <;> omega
    obtain ⟨L, hL, hp⟩ := Ac.choose_list (p := fun i (x : Kdo) => (∀ (j : Nat) (c : Value), x.cs[j]? = some c → w.cell? ((a.add (i * 12)).add j) = some c) ∧ (Byt w x.kv x.key ∧ x.key.length ≤ reachBytes) ∧ (Byt w x.vv x.val ∧ x.val.length ≤ reachBytes)) n0 (fun i hil => by
      obtain ⟨cs', h1, h2⟩ := hi i (by omega)
      rw [cells_kdo] at h1
      obtain ⟨x, rfl, hx⟩ := kdo_of h2 (fun q hq => hw q (by
        rw [show d = _ from congrArg Prod.fst hy]
        unfold DataW.weights
        rw [Try.underlying22]
        exact List.mem_cons_of_mem _ (List.mem_append_left _ (weights_all (List.mem_map.2 ⟨i, List.mem_range.2 hil, rfl⟩) hq))))
      obtain ⟨_, _, hat⟩ := World.cells?_some h1
      refine ⟨x, fun j c hj => ?_, hx⟩
      have hj12 : j < 12 := by
        have := (List.getElem?_eq_some_iff.1 hj).1
        exact this
      rw [hat j hj12, hj])
    refine ⟨L, ⟨some a, c0, by rw [hL], fun hne => ?_⟩, fun x hx => ?_, by rw [hL]; omega⟩
    · obtain ⟨x0, hx0⟩ : ∃ x, L[0]? = some x := ⟨_, List.getElem?_eq_getElem (List.length_pos_iff.2 hne)⟩
      have h0 := (hp 0 x0 hx0).1 0 _ rfl
      obtain ⟨b, off, spot⟩ := a
      have hspot : spot = none := by simpa [Addr.add] using World.cell?_spot h0
      subst hspot
      refine ⟨b, off, rfl, ?_, fun i x hx j c hj => ?_⟩
      · simpa [Addr.add] using World.block_lt_of_cell? w _ h0
      · have := (hp i x hx).1 j c hj
        rw [add_plain, add_plain] at this
        exact this
    · obtain ⟨i, hi', e⟩ := List.getElem_of_mem hx
      exact (hp i x (by rw [List.getElem?_eq_getElem hi', e])).2
end

section
variable {H : Type} {enc : TypeId × Value → H} {w : World} {base : Nat} {spare : Nat → Bool} {held : Bool}
set_option maxRecDepth 100000 in
theorem open_addr {r : Reach} {b0 : Nat} {v : Value} {d : DataW H} {p : List MemPlace} (hv : Value.okWide Try.prog w r b0 24 v) (h : DataW.Trod enc Try.prog w base spare held 24 v d p) : ∃ a : A8, v = a.v := by
  simp only [Value.okWide, Try.underlying24] at hv
  obtain ⟨cs, rfl, hsz, _⟩ := hv
  rw [Ac.cells_addr] at hsz
  obtain ⟨fuel, hf⟩ := h
  have hcs : cs.toList.length = 8 := by simpa using hsz
  have hl : ∃ c0 c1 c2 c3 c4 c5 c6 c7, cs.toList = [c0, c1, c2, c3, c4, c5, c6, c7] := by
    match cs.toList, hcs with
    | [c0, c1, c2, c3, c4, c5, c6, c7], _ => exact ⟨c0, c1, c2, c3, c4, c5, c6, c7, rfl⟩
  obtain ⟨c0, c1, c2, c3, c4, c5, c6, c7, hc⟩ := hl
  have hf2 : DataW.trod enc Try.prog w base spare held fuel 24 [c0, c1, c2, c3, c4, c5, c6, c7] = some (d, p) := by rw [← hc]; exact hf
  obtain ⟨a, ha⟩ := Ac.addr_of hf2
  refine ⟨a, ?_⟩
  rw [A8.cs_eq, ← ha, ← hc]
set_option maxRecDepth 100000 in
theorem open_bytes {r : Reach} {b0 : Nat} {v : Value} {d : DataW H} {p : List MemPlace} (hv : Value.okWide Try.prog w r b0 25 v) (h : DataW.Trod enc Try.prog w base spare held 25 v d p) (hw : ∀ n ∈ d.weights Try.prog 25, n ≤ reachBytes) : ∃ b : Bs, Byt w v b ∧ b.length ≤ reachBytes := by
  obtain ⟨fuel, hf⟩ := h
  obtain ⟨s, n0, c0, rfl⟩ := okWide_slice Try.underlying25 hv
  exact bytes_of (c := .slice s n0 c0) (y := (d, p)) hf hw
end
/-! ### a call loaded and stored at once -/
theorem sizeKdo : (Try.prog.info? 31).map (·.size) = some 12 := by kernel_rfl
theorem wk_load {ops : Array Oper} {rest : List Oper} {op : Oper} {a : Act} {w : World} {Q : Exit → Act → World → Prop} (x : Kdo) (b o : Nat) (h : KdoAt w b o x) (p : Operand) (hgd : op.guard = none) (ho : op.op = .load 31 p)
    (hx : a.eval p = .pointer (some ⟨b, o, none⟩)) (hk : wpList Try.prog ops Q rest (a.put op.dst (.agg x.cs.toArray)) w) : wpList Try.prog ops Q (op :: rest) a w :=
  wpList_load_mid hgd 31 p ho b o hx x.cs _ h Try.underlying31 rfl sizeKdo hk
theorem oneCellKdo (x : Kdo) (hv : x.kv.oneCell' = true) (hv2 : x.vv.oneCell' = true) : x.cs.toArray.all (·.oneCell') = true := by
  simp only [Kdo.cs, List.all_toArray, List.all_cons, List.all_nil, Bool.and_true, hv, hv2]
  rfl
theorem wk_store {ops : Array Oper} {rest : List Oper} {op : Oper} {a : Act} {w : World} {Q : Exit → Act → World → Prop} (x : Kdo) (hv : x.kv.oneCell' = true) (hv2 : x.vv.oneCell' = true) (p y : Operand) {c0 : Array Value} (hgd : op.guard = none) (ho : op.op = .store 31 p y)
    (hx : a.eval p = .pointer (some ⟨w.heap.size, 0, none⟩)) (hy : a.eval y = .agg x.cs.toArray) (hs : c0.size = 12)
    (hk : wpList Try.prog ops Q rest (a.put op.dst undef) (w.alloc (.cells x.cs.toArray 31))) : wpList Try.prog ops Q (op :: rest) a (w.alloc (.cells c0 31)) := by
  refine wpList_plain hgd fun _ hK => ?_
  unfold Oper.wp execOp
  simp only [ho, hx, hy, run_storeAt_new (P := Try.prog) w 31 c0 x.cs.toArray sizeKdo hs (oneCellKdo x hv hv2), Sem.run_bind, Sem.run_pure, Result.andThen_ok]
  exact hK _ _ hk
theorem lies_kdo {W : World} {b : Nat} {t : TypeId} {x : Kdo} (h : Lies W b t x.cs.toArray) :
    W.cell? ⟨b, 0, none⟩ = some (.int .i64 x.k) ∧ W.cell? ⟨b, 1, none⟩ = some (.int .u8 x.a.x0.toNat) ∧ W.cell? ⟨b, 2, none⟩ = some (.int .u8 x.a.x1.toNat) ∧ W.cell? ⟨b, 3, none⟩ = some (.int .u8 x.a.x2.toNat) ∧ W.cell? ⟨b, 4, none⟩ = some (.int .u8 x.a.x3.toNat) ∧ W.cell? ⟨b, 5, none⟩ = some (.int .u8 x.a.x4.toNat) ∧ W.cell? ⟨b, 6, none⟩ = some (.int .u8 x.a.x5.toNat) ∧ W.cell? ⟨b, 7, none⟩ = some (.int .u8 x.a.x6.toNat) ∧ W.cell? ⟨b, 8, none⟩ = some (.int .u8 x.a.x7.toNat) ∧ W.cell? ⟨b, 9, none⟩ = some (x.kv) ∧ W.cell? ⟨b, 10, none⟩ = some (x.vv) ∧ W.cell? ⟨b, 11, none⟩ = some (.int .i64 x.n) :=
  ⟨h.cell 0, h.cell 1, h.cell 2, h.cell 3, h.cell 4, h.cell 5, h.cell 6, h.cell 7, h.cell 8, h.cell 9, h.cell 10, h.cell 11⟩

set_option maxRecDepth 100000 in
set_option maxHeartbeats 4000000 in
theorem heavy_any {W : World} {v0 : Value} {X : List Kdo} (h0 : KRow W v0 X) :
    Calls Try.prog 11 #[v0] W fun e w' => ∃ hv : Bool, e = .returned (.bool hv) ∧ (hv = false → X.length ≤ 200 ∧ ∀ x ∈ X, x.key.length ≤ 30000 ∧ x.val.length ≤ 30000) ∧ Below W.heap.size W w' := by
  obtain ⟨s0, cap0, rfl, hs0⟩ := h0.shape
  have HB0 := Lib.hid h0.byt
  have hlX : X.length ≤ 9223372036854775807 := by have := h0.len; unfold maxLen at this; omega
  have HS0 := Lib.hid hs0
  clear hs0 h0
  go_enter Try.func11, Try.ntmps11
  go_wp2_with fail
  go_loopw [3, 8] (fun n i wr => ∃ k s : Nat, k ≤ X.length ∧ n = .int .i64 s ∧ i = .int .i64 k ∧ s ≤ 30000 ∧ (∀ x ∈ X.take k, x.key.length ≤ s ∧ x.val.length ≤ s) ∧ Below W.heap.size W wr)
    (fun _ i _ => X.length - (intOf i).toNat)
  case atStart => exact ⟨0, 0, by omega, rfl, rfl, by omega, by simp, Below.refl _ _⟩
  case round =>
    obtain ⟨k, s, hk, rfl, rfl, hs, hall, hW⟩ := hrel
    have HA := Lib.hid hall
    have HW := Lib.hid hW
    clear hall hW
    by_cases hlt : k < X.length
    · obtain ⟨x, hx⟩ : ∃ x, X[k]? = some x := ⟨_, List.getElem?_eq_getElem hlt⟩
      obtain ⟨b, off, rfl, hbl, hat⟩ := HS0.out (by intro e; simp [e] at hlt)
      obtain ⟨⟨hby, hml⟩, ⟨hby2, hml2⟩⟩ := HB0.out x (List.mem_of_getElem? hx)
      have hd := (hat k x hx).below HW.out hbl
      have htk : X.take (k + 1) = X.take k ++ [x] := by rw [List.take_add_one, hx]; rfl
      clear hat hx
      obtain ⟨xk, xa, xkv, xkey, xvv, xval, xn⟩ := x
      obtain ⟨sx, cx, hvx⟩ : ∃ sx cx, xkv = .slice sx xkey.length cx := by obtain ⟨s, c, e, _⟩ := hby; exact ⟨s, c, e⟩
      obtain ⟨sy, cy, hvy⟩ : ∃ sx cx, xvv = .slice sx xval.length cx := by obtain ⟨s, c, e, _⟩ := hby2; exact ⟨s, c, e⟩
      subst hvx hvy
      clear hby hby2
      have HD := Lib.hid hd
      have HTK := Lib.hid htk
      have hm2 : xkey.length ≤ 140737488351232 := by unfold reachBytes at hml; exact hml
      have hm3 : xval.length ≤ 140737488351232 := by unfold reachBytes at hml2; exact hml2
      clear hd htk hml hml2
      go_wp2_with (first | (refine wk_load _ _ _ HD.out _ rfl rfl rfl ?_; simp only [Kdo.cs, Act.put, List.setIfInBounds_toArray, List.set_cons_zero, List.set_cons_succ]) | (refine wk_store ⟨xk, xa, .slice sx xkey.length cx, xkey, .slice sy xval.length cy, xval, xn⟩ rfl rfl _ _ rfl rfl rfl rfl rfl ?_; simp only [Kdo.cs, Act.put]))
      · go_ret
        exact ⟨true, rfl, (fun e => by cases e), HW.out.alloc HW.out.size _⟩
      · go_roundw
        case rel =>
          refine ⟨k + 1, s + (xkey.length + xval.length), by omega, by go_num, by go_num, by omega, fun x hx => ?_, HW.out.alloc HW.out.size _⟩
          rw [HTK.out] at hx
          rcases List.mem_append.1 hx with hx | hx
          · have := HA.out x hx; omega
          · obtain rfl : x = _ := by simpa using hx
            show xkey.length ≤ s + (xkey.length + xval.length) ∧ xval.length ≤ s + (xkey.length + xval.length)
            omega
        case measure => simp [intOf]; omega
    · obtain rfl : k = X.length := by omega
      go_wp2_with fail
      go_ret
      refine ⟨_, rfl, fun e => ⟨?_, fun x hx => ?_⟩, HW.out⟩
      · have := of_decide_eq_false e; omega
      · have := HA.out x (by rw [List.take_length]; exact hx)
        omega
end Go.Proofs.Yteeghdkejnhjnaa.Kv
