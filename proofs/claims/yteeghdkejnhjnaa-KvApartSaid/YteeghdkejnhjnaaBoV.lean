/- The walk of a book's Events. -/
import Derived.Test.YteeghdkejnhjnaaBoE
namespace Go.Proofs.Yteeghdkejnhjnaa.Bo
open Go Go.RowKit Kt Ad

/-- What events say. -/
def said (E : List Ev) : List (A8 × List UInt8) := E.map fun x => (x.a, x.b)
/-- Events that were told: a row and bytes of one's own. -/
structure Told (W : World) (own : Nat → Prop) (v : Value) (E : List Ev) : Prop where
  row : WRow W own 66 9 v E.length (E.flatMap Ev.cs)
  evs : ∀ x ∈ E, Bts W own x.v x.b
theorem Told.nil (W : World) (own : Nat → Prop) : Told W own (.slice none 0 0) [] := ⟨WRow.nil _ _ _ _, by simp⟩
theorem Told.kept {W W' : World} {own m : Nat → Prop} {v : Value} {E : List Ev} (h : Told W own v E) (hf : Fr W W' m) (hn : ∀ k, own k → ¬ m k) : Told W' own v E := ⟨h.row.kept hf (fun k hk _ => hn k hk), fun x hx => (h.evs x hx).kept hf hn⟩
theorem Told.mono {W : World} {own own' : Nat → Prop} {v : Value} {E : List Ev} (h : Told W own v E) (ho : ∀ k, k < W.heap.size → own k → own' k) : Told W own' v E := ⟨h.row.mono ho, fun x hx => (h.evs x hx).mono ho⟩
theorem drop_flat : ∀ (k : Nat) (E : List Ev), (E.flatMap Ev.cs).drop (k * 9) = (E.drop k).flatMap Ev.cs
  | 0, E => by simp
  | k + 1, [] => by simp
  | k + 1, x :: r => by
    rw [List.flatMap_cons, List.drop_succ_cons, ← drop_flat k r, List.drop_append, List.drop_of_length_le (by rw [Ev.len]; omega), Ev.len, Nat.add_mul, Nat.one_mul, Nat.add_sub_cancel, List.nil_append]
theorem flat_set (D R : List Ev) (x : Ev) (v : Value) : ((D ++ x :: R).flatMap Ev.cs).set (D.length * 9 + 8) v = (D ++ ⟨x.a, v, x.b⟩ :: R).flatMap Ev.cs := by
  rw [List.flatMap_append, List.flatMap_append, List.flatMap_cons, List.flatMap_cons, List.set_append]
  rw [if_neg (by rw [length_flat Ev.len]; omega), length_flat Ev.len, Nat.add_sub_cancel_left]
  rfl
theorem row_set {W : World} {base : Nat} {e : TypeId} {size g cap n : Nat} {xs : List Value} (h : W.ownsRow base e size (.slice (some ⟨g, 0, none⟩) n cap) n xs) (j : Nat) (hj : j < n * size) (u : Value) : (W.setCell ⟨g, j, none⟩ u).ownsRow base e size (.slice (some ⟨g, 0, none⟩) n cap) n (xs.set j u) := by
  refine ⟨by rw [List.length_set]; exact h.1, ?_⟩
  rcases h.2 with ⟨h0, _⟩ | ⟨g', cap', cur, hv, hb, hg, h1, h2, h3, h4⟩
  · cases h0
  · cases hv
    refine .inr ⟨g, cap, cur.setIfInBounds j u, rfl, hb, ?_, h1, h2, by simpa using h3, ?_⟩
    · simp [World.setCell, Array.getElem?_modify, hg]
    · rw [Array.toList_setIfInBounds, ← h4]
      refine List.ext_getElem? fun i => ?_
      rw [List.getElem?_take, List.getElem?_set, List.getElem?_set, List.getElem?_take]
      by_cases hi : i < n * size
      · rw [if_pos hi, if_pos hi]
        by_cases hij : j = i
        · rw [if_pos hij, if_pos hij]
          have hle := Nat.mul_le_mul_right size h1
          subst hij
          rw [if_pos (by simp; omega), if_pos (by rw [List.length_take]; simp; omega)]
        · rw [if_neg hij, if_neg hij]
      · rw [if_neg hi, if_neg hi, if_neg (by omega)]
theorem row_frozen {W : World} {base : Nat} {e : TypeId} {size g cap n : Nat} {xs : List Value} (h : W.ownsRow base e size (.slice (some ⟨g, 0, none⟩) n cap) n xs) (j : Nat) : W.frozen? ⟨g, j, none⟩ = false := by
  rcases h.2 with ⟨h0, _⟩ | ⟨g', cap', cur, hv, hb, hg, _⟩
  · cases h0
  · cases hv
    simp [World.frozen?, hg]
theorem ev_cells {W : World} {base g cap n : Nat} {L : List Ev} (h : W.ownsRow base 66 9 (.slice (some ⟨g, 0, none⟩) n cap) n (L.flatMap Ev.cs)) {k : Nat} {x : Ev} (hk : L[k]? = some x) :
    W.cell? ⟨g, k * 9, none⟩ = some (.int .u8 x.a.x0.toNat) ∧ W.cell? ⟨g, k * 9 + 1, none⟩ = some (.int .u8 x.a.x1.toNat) ∧ W.cell? ⟨g, k * 9 + 2, none⟩ = some (.int .u8 x.a.x2.toNat) ∧ W.cell? ⟨g, k * 9 + 3, none⟩ = some (.int .u8 x.a.x3.toNat) ∧ W.cell? ⟨g, k * 9 + 4, none⟩ = some (.int .u8 x.a.x4.toNat) ∧ W.cell? ⟨g, k * 9 + 5, none⟩ = some (.int .u8 x.a.x5.toNat) ∧ W.cell? ⟨g, k * 9 + 6, none⟩ = some (.int .u8 x.a.x6.toNat) ∧ W.cell? ⟨g, k * 9 + 7, none⟩ = some (.int .u8 x.a.x7.toNat) ∧ W.cell? ⟨g, k * 9 + 8, none⟩ = some x.v :=
  ⟨row_cell Ev.len h hk (j := 0) (by omega), row_cell Ev.len h hk (j := 1) (by omega), row_cell Ev.len h hk (j := 2) (by omega), row_cell Ev.len h hk (j := 3) (by omega), row_cell Ev.len h hk (j := 4) (by omega), row_cell Ev.len h hk (j := 5) (by omega), row_cell Ev.len h hk (j := 6) (by omega), row_cell Ev.len h hk (j := 7) (by omega), row_cell Ev.len h hk (j := 8) (by omega)⟩

set_option maxRecDepth 100000 in
set_option maxHeartbeats 4000000 in
theorem events_out {W : World} {own : Nat → Prop} {bl bm : Nat} {vr : Value} {E : List Ev} {C : Cs} (h : Bk W own bl bm vr E C) (k : Int) (hk : k < 0 ∨ (E.length : Int) ≤ k) :
    Calls Try.prog 30 #[.pointer (some ⟨bl, 0, none⟩), .int .i64 k] W fun e w' => e = .returned (.slice none 0 0) ∧ w' = W := by
  have H := Lib.hid (len_any h)
  clear h
  by_cases h0 : k < 0
  · clear hk
    go_enter Try.func30, Try.ntmps30
    go_wp2_with fail
    go_ret
    exact ⟨rfl, rfl⟩
  · have hk' : (E.length : Int) ≤ k := by omega
    clear hk
    go_enter Try.func30, Try.ntmps30
    go_wp2_with (go_at_call 33; refine H.out.mono ?_; rintro ex w1 ⟨rfl, rfl⟩)
    go_ret
    exact ⟨rfl, rfl⟩

set_option maxRecDepth 100000 in
set_option maxHeartbeats 4000000 in
theorem events_in {W : World} {own : Nat → Prop} {bl bm : Nat} {vr : Value} {E : List Ev} {C : Cs} (h : Bk W own bl bm vr E C) (hN : E.length ≤ 1000000) (hB : ∀ x ∈ E, x.b.length ≤ 1000000) (k : Nat) (hk : k < E.length) :
    Calls Try.prog 30 #[.pointer (some ⟨bl, 0, none⟩), .int .i64 k] W fun e w' => ∃ v' E', e = .returned v' ∧ said E' = said (E.drop k) ∧ Told w' (fun i => W.heap.size ≤ i) v' E' ∧ Below W.heap.size W w' := by
  have HL := Lib.hid (len_any h)
  obtain ⟨s, cap, rfl, hle, hs⟩ := h.form
  obtain ⟨g, rfl, hgl⟩ := hs (by omega)
  have hc := h.cell.cell 0
  simp only [List.getElem?_toArray, List.getElem?_cons_zero] at hc
  have HR := Lib.hid h.row
  have HE := Lib.hid h.evs
  clear h
  have hec := eclone_any (W := W) (b := g) (off := k * 9) (n := E.length - k) (c := cap - k) (xs := (E.drop k).flatMap Ev.cs) (by rw [length_flat Ev.len, List.length_drop]) (by omega)
    (fun j u hj => HR.out.cell (by rw [← hj, show (E.drop k).flatMap Ev.cs = (E.flatMap Ev.cs).drop (k * 9) from (drop_flat k E).symm, List.getElem?_drop]))
    (ones_ev (fun x hx => by obtain ⟨s, c, e⟩ := (HE.out x (List.mem_of_mem_drop hx)).form; rw [e]; rfl))
  have HC := Lib.hid hec
  clear hec
  obtain ⟨F, hF⟩ : ∃ F, F = E.drop k := ⟨_, rfl⟩
  rw [← hF] at HC ⊢
  go_enter Try.func30, Try.ntmps30
  go_wp2_with (go_at_call 33; refine HL.out.mono ?_; rintro ex w1 ⟨rfl, rfl⟩)
  refine HC.out.mono ?_
  rintro ex w2 ⟨v', rfl, hrow, hb⟩
  have hlF : E.length - k = F.length := by rw [hF, List.length_drop]
  have HF := Lib.hid (show ∀ x ∈ F, Byt w1 x.v x.b ∧ x.b.length ≤ 1000000 from fun x hx => by
    have hx' : x ∈ E := List.mem_of_mem_drop (hF ▸ hx)
    exact ⟨(HE.out x hx').byt, hB x hx'⟩)
  rw [hlF] at hrow ⊢
  obtain ⟨go, co, rfl⟩ : ∃ go co, v' = .slice (some ⟨go, 0, none⟩) F.length co := by
    rcases hrow.2 with ⟨_, h0⟩ | ⟨go, co, _, rfl, _⟩
    · omega
    · exact ⟨go, co, rfl⟩
  have hnF : F.length ≤ 1000000 := by omega
  have hgo : w1.heap.size ≤ go := (hrow.lt go rfl).1
  have hgo2 : go < w2.heap.size := (hrow.lt go rfl).2
  have HROW := Lib.hid hrow
  have HB := Lib.hid hb
  clear hF hlF HC HL HR HE hc hgl hB hrow hb hle
  go_wp2_with fail
  go_loopw [24] (fun i wr => ∃ (j : Nat) (D : List Ev), j ≤ F.length ∧ i = .int .i64 j ∧ D.length = j ∧ said D = said (F.take j) ∧ wr.ownsRow w1.heap.size 66 9 (.slice (some ⟨go, 0, none⟩) F.length co) F.length ((D ++ F.drop j).flatMap Ev.cs) ∧ (∀ x ∈ D, Bts wr (fun i => w1.heap.size ≤ i) x.v x.b) ∧ Below w1.heap.size w1 wr ∧ w2.heap.size ≤ wr.heap.size)
    (fun i _ => F.length - (intOf i).toNat)
  case atStart => exact ⟨0, [], by omega, rfl, rfl, rfl, by simpa using HROW.out, by simp, HB.out, Nat.le_refl _⟩
  case round =>
    clear HROW HB
    obtain ⟨j, D, hj, rfl, hD, hs, hrow, hev, hb, hsz⟩ := hrel
    have HROW := Lib.hid hrow
    have HEV := Lib.hid hev
    have HB := Lib.hid hb
    have HSD := Lib.hid hs
    clear hs hrow hev hb
    by_cases hlt : j < F.length
    · obtain ⟨x, hx⟩ : ∃ x, F[j]? = some x := ⟨_, List.getElem?_eq_getElem hlt⟩
      have hd : F.drop j = x :: F.drop (j + 1) := by
        rw [List.drop_eq_getElem_cons hlt]
        congr 1
        rw [List.getElem?_eq_getElem hlt] at hx
        injection hx
      obtain ⟨hby0, hlb⟩ := HF.out x (List.mem_of_getElem? hx)
      have hby := hby0.later HB.out
      clear hby0
      have htk : F.take (j + 1) = F.take j ++ [x] := by rw [List.take_add_one, hx]; rfl
      have hcx : (D ++ F.drop j)[j]? = some x := by rw [List.getElem?_append_right (by omega), hd, hD, Nat.sub_self]; rfl
      obtain ⟨c0, c1, c2, c3, c4, c5, c6, c7, c8⟩ := ev_cells HROW.out hcx
      have HBY := Lib.hid hby
      obtain ⟨xa, xv, xb⟩ := x
      obtain ⟨sx, cx, hxv⟩ : ∃ sx cx, xv = .slice sx xb.length cx := by obtain ⟨s, c, e, _⟩ := hby; exact ⟨s, c, e⟩
      subst hxv
      have HCX := Lib.hid hcx
      clear hby hcx c0 c1 c2 c3 c4 c5 c6 c7
      go_wp2_with (go_at_call 65; refine (bclone_any HBY.out (by omega)).mono ?_; rintro ex w4 ⟨v4, rfl, hT, hb4⟩; obtain ⟨s4, c4, rfl⟩ := hT.form; have hb5 := (ownsRow_keep HROW.out hb4); have c9 := (ev_cells hb5 HCX.out).2.2.2.2.2.2.2.2; have c10 := row_frozen hb5 (j * 9 + 8); clear hb5)
      have hgo4 : go < w4.heap.size := by have := hb4.size; omega
      go_roundw
      case rel =>
        have hr5 := row_set (ownsRow_keep HROW.out hb4) (j * 9 + 8) (by omega) (.slice s4 xb.length c4)
        rw [hd] at hr5
        have e1 := flat_set D (F.drop (j + 1)) ⟨xa, .slice sx xb.length cx, xb⟩ (.slice s4 xb.length c4)
        rw [hD] at e1
        rw [e1] at hr5
        have hfs : Fr w4 (w4.setCell ⟨go, j * 9 + 8, none⟩ (.slice s4 xb.length c4)) (fun i => i = go) := Fr.setCell w4 _ _
        have hgl : Lies w4 go 66 _ := (wrow_lt (WRow.of_own (own := fun _ => True) (ownsRow_keep HROW.out hb4) (fun _ _ => trivial)) rfl).2.2.choose_spec
        have hty : ∀ i, i = go → ∀ cur, ¬ Lies w4 i 5 cur := fun i e cur hl => by subst e; exact absurd (lies_uniq hgl hl) (by decide)
        refine ⟨j + 1, D ++ [⟨xa, .slice s4 xb.length c4, xb⟩], by omega, by go_num, by simp [hD], ?_, by rw [List.append_assoc]; exact hr5, fun x hx => ?_, ?_, ?_⟩
        · rw [htk]
          have := HSD.out
          unfold said at this ⊢
          rw [List.map_append, List.map_append, this]
          rfl
        · rcases List.mem_append.1 hx with hx | hx
          · exact ((HEV.out x hx).kept (m := fun _ => False) (Fr.of_below hb4 _) (fun _ _ h => h)).kept_ty hfs hty
          · obtain rfl : x = ⟨xa, .slice s4 xb.length c4, xb⟩ := by simpa using hx
            exact (hT.mono (fun k _ hk => by have := HB.out.size; omega)).kept_ty hfs hty
        · exact (HB.out.trans (hb4.mono HB.out.size)).setCell hgo _
        · have := hb4.size
          simp only [World.setCell, Array.size_modify]
          omega
      case measure => simp [intOf]; omega
    · obtain rfl : j = F.length := by omega
      go_wp2_with fail
      go_ret
      have e1 : F.take F.length = F := List.take_length
      rw [List.drop_length, List.append_nil] at HROW
      rw [e1] at HSD
      refine ⟨.slice (some ⟨go, 0, none⟩) F.length co, D, rfl, HSD.out, ⟨?_, HEV.out⟩, HB.out⟩
      rw [hD]
      exact WRow.of_own HROW.out (fun _ h => h)

theorem events_any {W : World} {own : Nat → Prop} {bl bm : Nat} {vr : Value} {E : List Ev} {C : Cs} (h : Bk W own bl bm vr E C) (hN : E.length ≤ 1000000) (hB : ∀ x ∈ E, x.b.length ≤ 1000000) (k : Int) :
    Calls Try.prog 30 #[.pointer (some ⟨bl, 0, none⟩), .int .i64 k] W fun e w' => ∃ v' E', e = .returned v' ∧ said E' = (if k < 0 then [] else said (E.drop k.toNat)) ∧ Told w' (fun i => W.heap.size ≤ i) v' E' ∧ Below W.heap.size W w' := by
  by_cases h0 : k < 0 ∨ (E.length : Int) ≤ k
  · refine (events_out h k h0).mono ?_
    rintro e w' ⟨rfl, rfl⟩
    refine ⟨_, [], rfl, ?_, Told.nil _ _, Below.refl _ _⟩
    split
    · rfl
    · rw [List.drop_of_length_le (by omega)]
  · obtain ⟨n, rfl⟩ : ∃ n : Nat, k = n := ⟨k.toNat, by omega⟩
    refine (events_in h hN hB n (by omega)).mono ?_
    rintro e w' ⟨v', E', rfl, h1, h2, h3⟩
    refine ⟨v', E', rfl, ?_, h2, h3⟩
    rw [if_neg (by omega), h1, Int.toNat_natCast]
end Go.Proofs.Yteeghdkejnhjnaa.Bo
