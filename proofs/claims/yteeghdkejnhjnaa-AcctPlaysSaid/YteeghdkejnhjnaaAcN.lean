/- The document's ledger in memory: a struct of one field, a list of entries; the walk of its Get. -/
import Derived.Test.YteeghdkejnhjnaaAcM
import Derived.Test.YteeghdkejnhjnaaAcL
namespace Go.Proofs.Yteeghdkejnhjnaa.Ac
open Go Go.RowKit Kt Ad

/-- The cells of an entry of the document's. -/
def Ent.cs (e : Ent) : List Value := [.int .u8 e.a.x0.toNat, .int .u8 e.a.x1.toNat, .int .u8 e.a.x2.toNat, .int .u8 e.a.x3.toNat, .int .u8 e.a.x4.toNat, .int .u8 e.a.x5.toNat, .int .u8 e.a.x6.toNat, .int .u8 e.a.x7.toNat, .int .u64 e.b, .int .u64 e.n]
theorem Ent.len (e : Ent) : e.cs.length = 10 := rfl
/-- THE DOCUMENT's LEDGER: the struct in block br, a list of its own. -/
structure RLed (W : World) (base br : Nat) (L : List Ent) : Prop where
  row : ∃ v, Lies W br 86 #[v] ∧ W.ownsRow base 93 10 v L.length (L.flatMap Ent.cs)
  ok : Ok L

section
variable {W W' : World} {base br : Nat} {L : List Ent}
theorem RLed.lt (h : RLed W base br L) : br < W.heap.size := by obtain ⟨v, h1, _⟩ := h.row; exact h1.lt
theorem RLed.later (h : RLed W base br L) (hb : Below W.heap.size W W') : RLed W' base br L := by
  obtain ⟨v, h1, h2⟩ := h.row
  exact ⟨⟨v, h1.below hb h1.lt, ownsRow_keep h2 hb⟩, h.ok⟩
theorem RLed.alloc (h : RLed W base br L) (o : Obj) : RLed (W.alloc o) base br L := h.later ((Below.refl _ _).alloc (Nat.le_refl _) o)
theorem RLed.drew (h : RLed W base br L) : RLed W.drew base br L := ⟨h.row, h.ok⟩
theorem RLed.drewN (h : RLed W base br L) (n : Nat) : RLed (W.drewN n) base br L := ⟨h.row, h.ok⟩
/-- a block turned that is neither the struct nor cells of entries -/
theorem RLed.kept {row : Option Nat} (h : RLed W base br L) (hg : W.grownBy W' row) (h1 : some br ≠ row) (h2 : ∀ b cs, row = some b → ¬ Lies W b 93 cs) : RLed W' base br L := by
  obtain ⟨v, a1, a2⟩ := h.row
  refine ⟨⟨v, a1.kept hg h1, a2.kept hg ?_⟩, h.ok⟩
  rcases a2.2 with ⟨rfl, _⟩ | ⟨g, cap, cur, rfl, _, hgb, _⟩
  · exact .inl rfl
  · exact .inr (fun e => h2 g cur e.symm hgb)
end

/-- The cells of the k-th entry. -/
theorem ent_cells {W : World} {base g cap n : Nat} {L : List Ent} (h : W.ownsRow base 93 10 (.slice (some ⟨g, 0, none⟩) n cap) n (L.flatMap Ent.cs)) {k : Nat} {x : Ent} (hk : L[k]? = some x) :
    W.cell? ⟨g, k * 10, none⟩ = some (.int .u8 x.a.x0.toNat) ∧ W.cell? ⟨g, k * 10 + 1, none⟩ = some (.int .u8 x.a.x1.toNat) ∧ W.cell? ⟨g, k * 10 + 2, none⟩ = some (.int .u8 x.a.x2.toNat) ∧ W.cell? ⟨g, k * 10 + 3, none⟩ = some (.int .u8 x.a.x3.toNat) ∧ W.cell? ⟨g, k * 10 + 4, none⟩ = some (.int .u8 x.a.x4.toNat) ∧ W.cell? ⟨g, k * 10 + 5, none⟩ = some (.int .u8 x.a.x5.toNat) ∧ W.cell? ⟨g, k * 10 + 6, none⟩ = some (.int .u8 x.a.x6.toNat) ∧ W.cell? ⟨g, k * 10 + 7, none⟩ = some (.int .u8 x.a.x7.toNat) ∧ W.cell? ⟨g, k * 10 + 8, none⟩ = some (.int .u64 x.b) ∧ W.cell? ⟨g, k * 10 + 9, none⟩ = some (.int .u64 x.n) :=
  ⟨row_cell Ent.len h hk (j := 0) (by omega), row_cell Ent.len h hk (j := 1) (by omega), row_cell Ent.len h hk (j := 2) (by omega), row_cell Ent.len h hk (j := 3) (by omega), row_cell Ent.len h hk (j := 4) (by omega), row_cell Ent.len h hk (j := 5) (by omega), row_cell Ent.len h hk (j := 6) (by omega), row_cell Ent.len h hk (j := 7) (by omega), row_cell Ent.len h hk (j := 8) (by omega), row_cell Ent.len h hk (j := 9) (by omega)⟩

theorem lies_ent {W : World} {b : Nat} {t : TypeId} {x : Ent} (h : Lies W b t x.cs.toArray) : W.cell? ⟨b, 0, none⟩ = some (.int .u8 x.a.x0.toNat) ∧ W.cell? ⟨b, 1, none⟩ = some (.int .u8 x.a.x1.toNat) ∧ W.cell? ⟨b, 2, none⟩ = some (.int .u8 x.a.x2.toNat) ∧ W.cell? ⟨b, 3, none⟩ = some (.int .u8 x.a.x3.toNat) ∧ W.cell? ⟨b, 4, none⟩ = some (.int .u8 x.a.x4.toNat) ∧ W.cell? ⟨b, 5, none⟩ = some (.int .u8 x.a.x5.toNat) ∧ W.cell? ⟨b, 6, none⟩ = some (.int .u8 x.a.x6.toNat) ∧ W.cell? ⟨b, 7, none⟩ = some (.int .u8 x.a.x7.toNat) ∧ W.cell? ⟨b, 8, none⟩ = some (.int .u64 x.b) ∧ W.cell? ⟨b, 9, none⟩ = some (.int .u64 x.n) :=
  ⟨h.cell 0, h.cell 1, h.cell 2, h.cell 3, h.cell 4, h.cell 5, h.cell 6, h.cell 7, h.cell 8, h.cell 9⟩
theorem free_ent {W : World} {b : Nat} {t : TypeId} {cs : Array Value} (h : Lies W b t cs) : W.frozen? ⟨b, 0, none⟩ = false ∧ W.frozen? ⟨b, 1, none⟩ = false ∧ W.frozen? ⟨b, 2, none⟩ = false ∧ W.frozen? ⟨b, 3, none⟩ = false ∧ W.frozen? ⟨b, 4, none⟩ = false ∧ W.frozen? ⟨b, 5, none⟩ = false ∧ W.frozen? ⟨b, 6, none⟩ = false ∧ W.frozen? ⟨b, 7, none⟩ = false ∧ W.frozen? ⟨b, 8, none⟩ = false ∧ W.frozen? ⟨b, 9, none⟩ = false :=
  ⟨h.frozen 0, h.frozen 1, h.frozen 2, h.frozen 3, h.frozen 4, h.frozen 5, h.frozen 6, h.frozen 7, h.frozen 8, h.frozen 9⟩

theorem get_at {L : List Ent} {k : Nat} {x : Ent} (hk : L[k]? = some x) (hn : ∀ j y, j < k → L[j]? = some y → y.a ≠ x.a) : get L x.a = (x.b, x.n) := by
  induction L generalizing k with
  | nil => simp at hk
  | cons y r ih =>
    cases k with
    | zero => obtain rfl : y = x := by simpa using hk
              simp [get]
    | succ k =>
      have h1 := hn 0 y (by omega) rfl
      have h2 := ih (k := k) (by simpa using hk) (fun j z hj hz => hn (j + 1) z (by omega) (by simpa using hz))
      unfold get at h2 ⊢
      simpa [List.find?_cons, h1] using h2

set_option maxRecDepth 100000 in
set_option maxHeartbeats 4000000 in
theorem rget_any {W : World} {base br : Nat} {L : List Ent} (h : RLed W base br L) (hN : L.length ≤ 1000000000) (a : A8) :
    Calls Try.prog 64 #[.pointer (some ⟨br, 0, none⟩), a.v] W fun e w' => e = .returned (.agg (Ent.cs ⟨a, (get L a).1, (get L a).2⟩).toArray) ∧ Below W.heap.size W w' := by
  have hA := (Lies.new W 24 a.cs.toArray).alloc (.cells (Ent.cs ⟨⟨0, 0, 0, 0, 0, 0, 0, 0⟩, 0, 0⟩).toArray 93)
  have hE := Lies.new (W.alloc (.cells a.cs.toArray 24)) 93 (Ent.cs ⟨⟨0, 0, 0, 0, 0, 0, 0, 0⟩, 0, 0⟩).toArray
  rw [World.size_alloc] at hE
  have HA := Lib.hid hA
  have HE := Lib.hid hE
  have HW := Lib.hid (((Below.refl W.heap.size W).alloc (Nat.le_refl _) (.cells a.cs.toArray 24)).alloc (by simp) (.cells (Ent.cs ⟨⟨0, 0, 0, 0, 0, 0, 0, 0⟩, 0, 0⟩).toArray 93))
  obtain ⟨v, hv, hrow⟩ := h.row
  have HV := Lib.hid ((hv.alloc (.cells a.cs.toArray 24)).alloc (.cells (Ent.cs ⟨⟨0, 0, 0, 0, 0, 0, 0, 0⟩, 0, 0⟩).toArray 93))
  have HROW := Lib.hid ((hrow.alloc (.cells a.cs.toArray 24)).alloc (.cells (Ent.cs ⟨⟨0, 0, 0, 0, 0, 0, 0, 0⟩, 0, 0⟩).toArray 93))
  have hvl := hv.lt
  have hvc := hv.cell 0
  simp only [List.getElem?_toArray, List.getElem?_cons_zero] at hvc
  clear hA hE h hv
  rcases hrow.2 with ⟨rfl, h0⟩ | ⟨g, cap, cur, rfl, hbase, hb, h1, h2, h3, h4⟩
  · obtain rfl : L = [] := List.eq_nil_of_length_eq_zero h0
    clear hrow h0 HROW
    simp only [A8.v]
    go_enter Try.func64, Try.ntmps64
    go_wp2_with fail
    refine wp_loop_rounds 1 ?_
    rw [rounds_succ]
    go_wp2
    exact bodyPost_ret (v := .agg (Ent.cs ⟨a, 0, 0⟩).toArray) (by simp [results, Try.results64, go_sem, Ent.cs]) rfl ⟨rfl, ((Below.refl _ _).alloc (Nat.le_refl _) _).alloc (by simp) _⟩
  · clear hrow h1 h2 h3 h4 hb
    simp only [A8.v]
    go_enter Try.func64, Try.ntmps64
    go_wp2_with fail
    go_loopw [5] (fun i wr => ∃ k : Nat, k ≤ L.length ∧ i = .int .i64 k ∧ (∀ j y, j < k → L[j]? = some y → y.a ≠ a) ∧ Lies wr br 86 #[.slice (some ⟨g, 0, none⟩) L.length cap] ∧ wr.ownsRow base 93 10 (.slice (some ⟨g, 0, none⟩) L.length cap) L.length (L.flatMap Ent.cs) ∧ Lies wr W.heap.size 24 a.cs.toArray ∧ Lies wr (W.heap.size + 1) 93 (Ent.cs ⟨⟨0, 0, 0, 0, 0, 0, 0, 0⟩, 0, 0⟩).toArray ∧ Below W.heap.size W wr)
      (fun i _ => L.length - (intOf i).toNat)
    case atStart => exact ⟨0, by omega, rfl, fun _ _ h => absurd h (by omega), HV.out, HROW.out, HA.out, HE.out, HW.out⟩
    case round =>
      obtain ⟨k, hk, rfl, hno, hv, hrow, hA, hE, hW⟩ := hrel
      have HNO := Lib.hid hno
      have HV2 := Lib.hid hv
      have HR2 := Lib.hid hrow
      have HA2 := Lib.hid hA
      have HE2 := Lib.hid hE
      have HW2 := Lib.hid hW
      have hvc := hv.cell 0
      simp only [List.getElem?_toArray, List.getElem?_cons_zero] at hvc
      obtain ⟨a0, a1, a2, a3, a4, a5, a6, a7⟩ := lies_addr hA
      clear HV HROW HA HE HW hno
      by_cases hlt : k < L.length
      · obtain ⟨x, hx⟩ : ∃ x, L[k]? = some x := ⟨_, List.getElem?_eq_getElem hlt⟩
        obtain ⟨c0, c1, c2, c3, c4, c5, c6, c7, c8, c9⟩ := ent_cells hrow hx
        have HX := Lib.hid hx
        clear hv hrow hA hE hW hx
        by_cases hxa : x.a = a
        · have HG := Lib.hid (get_at HX.out (fun j y hj hy => by rw [hxa]; exact HNO.out j y hj hy))
          obtain rfl : a = x.a := hxa.symm
          clear hxa
          obtain ⟨z0, z1, z2, z3, z4, z5, z6, z7, z8, z9⟩ := lies_ent HE2.out
          obtain ⟨f0, f1, f2, f3, f4, f5, f6, f7, f8, f9⟩ := free_ent HE2.out
          go_wp2_with fail
          go_quiet (fail)
          go_wp2_with fail
          exact bodyPost_ret (v := .agg (Ent.cs ⟨x.a, x.b, x.n⟩).toArray) (by simp [results, Try.results64, go_sem, Ent.cs, z0, z1, z2, z3, z4, z5, z6, z7, z8, z9]) rfl ⟨by rw [HG.out], by (repeat refine Below.setCell ?_ (by simp) _); exact below_drewN HW2.out _⟩
        · have HNO2 := Lib.hid (show ∀ j y, j < k + 1 → L[j]? = some y → y.a ≠ a from fun j y hj hy => by
            by_cases e : j = k
            · subst e; rw [HX.out] at hy; cases hy; exact hxa
            · exact HNO.out j y (by omega) hy)
          go_wp2_with fail
          go_quiet (fail)
          go_wp2_with fail
          go_roundw
          case rel => exact ⟨k + 1, by omega, by go_num, HNO2.out, HV2.out, HR2.out, HA2.out, HE2.out, below_drewN HW2.out _⟩
          case measure => simp [intOf]; omega
      · obtain rfl : k = L.length := by omega
        have HG := Lib.hid (show get L a = (0, 0) from get_none (fun e he => by
          obtain ⟨i, hi, e1⟩ := List.getElem_of_mem he
          exact HNO.out i e hi (by rw [List.getElem?_eq_getElem hi, e1])))
        obtain ⟨z0, z1, z2, z3, z4, z5, z6, z7, z8, z9⟩ := lies_ent hE
        obtain ⟨f0, f1, f2, f3, f4, f5, f6, f7, f8, f9⟩ := free_ent hE
        clear hv hrow hA hE hW
        go_wp2_with fail
        exact bodyPost_ret (v := .agg (Ent.cs ⟨a, 0, 0⟩).toArray) (by simp [results, Try.results64, go_sem, Ent.cs, z0, z1, z2, z3, z4, z5, z6, z7, z8, z9]) rfl ⟨by rw [HG.out], by (repeat refine Below.setCell ?_ (by simp) _); exact HW2.out⟩
end Go.Proofs.Yteeghdkejnhjnaa.Ac
