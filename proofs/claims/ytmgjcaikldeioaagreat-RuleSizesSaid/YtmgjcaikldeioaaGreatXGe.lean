/- Space: the imports of a kind: slices.IndexFunc, slices.DeleteFunc. -/
import Derived.Test.YtmgjcaikldeioaaGreatXGd
namespace Go.Proofs.YtmgjcaikldeioaaGreat.Gr
open Go Go.RowKit Kt Fm

theorem sizeImp : (Tryz.prog.info? 88).map (·.size) = some 8 := by kernel_rfl
theorem oneImp (x : Imp) : (x.cs.toArray.all (·.oneCell')) = true := by simp [Imp.cs, Value.oneCell']
set_option maxRecDepth 100000 in
theorem not_function {W : World} (x : Imp) {b : Nat} (hb : W.cell? ⟨b, 0, none⟩ = some (.func (.func 58) #[] #[])) :
  Calls Tryz.prog 85 #[.agg x.cs.toArray, .pointer (some ⟨b, 0, none⟩)] W fun e w' => e = .returned (.bool (!(x.kind == 0))) ∧ Below W.heap.size W w' := by
 go_enter Tryz.func85, Tryz.ntmps85
 go_wp2_with (first | (refine wl_box x.cs _ rfl rfl rfl (fun w1 hb1 hl1 => ?_); have HB1 := zh hb1; have hc := keepc hb1 hb; have hr := lies_range hl1; clear hb1 hl1; simp only [Act.put, sA, sB, sC]) | (refine wpList_load_mid rfl 88 _ rfl W.heap.size 0 rfl x.cs _ hr Tryz.underlying88 rfl sizeImp ?_; simp only [Act.put, sA, sB, sC]))
 refine (kind_function x).mono ?_
 rintro en w2 ⟨rfl, hb2⟩
 have HB2 := zh (bt HB1.out hb2)
 clear hb2 hb hc hr
 go_wp2_with fail
 go_ret
 exact ⟨rfl, HB2.out⟩
set_option maxRecDepth 100000 in
theorem not_table {W : World} (x : Imp) {b : Nat} (hb : W.cell? ⟨b, 0, none⟩ = some (.func (.func 59) #[] #[])) :
  Calls Tryz.prog 85 #[.agg x.cs.toArray, .pointer (some ⟨b, 0, none⟩)] W fun e w' => e = .returned (.bool (!(x.kind == 1))) ∧ Below W.heap.size W w' := by
 go_enter Tryz.func85, Tryz.ntmps85
 go_wp2_with (first | (refine wl_box x.cs _ rfl rfl rfl (fun w1 hb1 hl1 => ?_); have HB1 := zh hb1; have hc := keepc hb1 hb; have hr := lies_range hl1; clear hb1 hl1; simp only [Act.put, sA, sB, sC]) | (refine wpList_load_mid rfl 88 _ rfl W.heap.size 0 rfl x.cs _ hr Tryz.underlying88 rfl sizeImp ?_; simp only [Act.put, sA, sB, sC]))
 refine (kind_table x).mono ?_
 rintro en w2 ⟨rfl, hb2⟩
 have HB2 := zh (bt HB1.out hb2)
 clear hb2 hb hc hr
 go_wp2_with fail
 go_ret
 exact ⟨rfl, HB2.out⟩
set_option maxRecDepth 100000 in
theorem not_memory {W : World} (x : Imp) {b : Nat} (hb : W.cell? ⟨b, 0, none⟩ = some (.func (.func 60) #[] #[])) :
  Calls Tryz.prog 85 #[.agg x.cs.toArray, .pointer (some ⟨b, 0, none⟩)] W fun e w' => e = .returned (.bool (!(x.kind == 2))) ∧ Below W.heap.size W w' := by
 go_enter Tryz.func85, Tryz.ntmps85
 go_wp2_with (first | (refine wl_box x.cs _ rfl rfl rfl (fun w1 hb1 hl1 => ?_); have HB1 := zh hb1; have hc := keepc hb1 hb; have hr := lies_range hl1; clear hb1 hl1; simp only [Act.put, sA, sB, sC]) | (refine wpList_load_mid rfl 88 _ rfl W.heap.size 0 rfl x.cs _ hr Tryz.underlying88 rfl sizeImp ?_; simp only [Act.put, sA, sB, sC]))
 refine (kind_memory x).mono ?_
 rintro en w2 ⟨rfl, hb2⟩
 have HB2 := zh (bt HB1.out hb2)
 clear hb2 hb hc hr
 go_wp2_with fail
 go_ret
 exact ⟨rfl, HB2.out⟩
set_option maxRecDepth 100000 in
theorem not_global {W : World} (x : Imp) {b : Nat} (hb : W.cell? ⟨b, 0, none⟩ = some (.func (.func 61) #[] #[])) :
  Calls Tryz.prog 85 #[.agg x.cs.toArray, .pointer (some ⟨b, 0, none⟩)] W fun e w' => e = .returned (.bool (!(x.kind == 3))) ∧ Below W.heap.size W w' := by
 go_enter Tryz.func85, Tryz.ntmps85
 go_wp2_with (first | (refine wl_box x.cs _ rfl rfl rfl (fun w1 hb1 hl1 => ?_); have HB1 := zh hb1; have hc := keepc hb1 hb; have hr := lies_range hl1; clear hb1 hl1; simp only [Act.put, sA, sB, sC]) | (refine wpList_load_mid rfl 88 _ rfl W.heap.size 0 rfl x.cs _ hr Tryz.underlying88 rfl sizeImp ?_; simp only [Act.put, sA, sB, sC]))
 refine (kind_global x).mono ?_
 rintro en w2 ⟨rfl, hb2⟩
 have HB2 := zh (bt HB1.out hb2)
 clear hb2 hb hc hr
 go_wp2_with fail
 go_ret
 exact ⟨rfl, HB2.out⟩
/-- The function of a kind. -/
def kf (k : UInt8) : Nat := if k == 0 then 58 else if k == 1 then 59 else if k == 2 then 60 else 61
def isKind (k : UInt8) : Prop := k = 0 ∨ k = 1 ∨ k = 2 ∨ k = 3
theorem not_any {W : World} {k : UInt8} (hk : isKind k) (x : Imp) {b : Nat} (hb : W.cell? ⟨b, 0, none⟩ = some (.func (.func (kf k)) #[] #[])) :
  Calls Tryz.prog 85 #[.agg x.cs.toArray, .pointer (some ⟨b, 0, none⟩)] W fun e w' => e = .returned (.bool (!(x.kind == k))) ∧ Below W.heap.size W w' := by
 rcases hk with rfl | rfl | rfl | rfl
 ·exact not_function x hb
 ·exact not_table x hb
 ·exact not_memory x hb
 ·exact not_global x hb
/-- The first one that is not of the kind. -/
def firstNot (k : UInt8) (L : List Imp) : Option Nat := L.findIdx? fun x => !(x.kind == k)
set_option maxRecDepth 100000 in
set_option maxHeartbeats 4000000 in
theorem index_any {W : World} {k : UInt8} (hk : isKind k) {v : Value} {L : List Imp} (h : Sl W 8 Imp.cs v L) (hn : L.length ≤ 4194304) {b : Nat} (hb : W.cell? ⟨b, 0, none⟩ = some (.func (.func (kf k)) #[] #[])) :
  Calls Tryz.prog 110 #[v, .func (.func 85) #[] #[.pointer (some ⟨b, 0, none⟩)]] W fun e w' => (∃ i : Nat, i ≤ L.length ∧ (L.take i).all (fun x => x.kind == k) = true ∧ ((i = L.length ∧ e = .returned (.int .i64 (-1))) ∨ (e = .returned (.int .i64 i) ∧ ∃ x, L[i]? = some x ∧ (x.kind == k) = false))) ∧ Below W.heap.size W w' := by
 obtain ⟨s, cap, rfl, hs⟩ := h.form
 have HS := zh hs
 have H := zh h
 have HBX := zh hb
 clear hs h hb
 go_enter Tryz.func110, Tryz.ntmps110
 go_wp2_with fail
 go_loopw [5, 8] (fun _ i wr => ∃ j : Nat, j ≤ L.length ∧ i = .int .i64 j ∧ Below W.heap.size W wr ∧ (L.take j).all (fun x => x.kind == k) = true)
  (fun _ i _ => L.length - (intOf i).toNat)
 case atStart => exact ⟨0, by omega, rfl, Below.refl _ _, rfl⟩
 case round =>
  obtain ⟨j, hj, rfl, hbr, hall⟩ := hrel
  have HBR := zh hbr
  have HALL := zh hall
  clear hbr hall
  by_cases hlt : j < L.length
  ·obtain ⟨x, hx⟩ : ∃ x, L[j]? = some x := ⟨_, List.getElem?_eq_getElem hlt⟩
   obtain ⟨g, off, rfl, hg⟩ := HS.out (by intro e; simp [e] at hlt)
   have hr := sl_range (H.out.later HBR.out) hx
   have HX := zh hx
   have hbx := keepc HBR.out HBX.out
   clear hx
   go_wp2_with (refine wpList_load_mid rfl 88 _ rfl g _ rfl x.cs _ hr Tryz.underlying88 rfl sizeImp ?_; simp only [Act.put, sA, sB, sC])
   refine (not_any hk x hbx).mono ?_
   rintro en w2 ⟨rfl, hb2⟩
   have HB2 := zh (bt HBR.out hb2)
   clear hb2 HBR hr
   cases hkk : x.kind == k with
   | true =>
    go_wp2_with fail
    refine ⟨⟨j + 1, by omega, by go_num, HB2.out, ?_⟩, by simp [intOf]; omega⟩
    rw [List.take_add_one, HX.out, Option.toList_some, List.all_append, HALL.out]
    simp [hkk]
   | false =>
    go_wp2_with fail
    go_ret
    exact ⟨⟨j, by omega, HALL.out, Or.inr ⟨rfl, x, HX.out, hkk⟩⟩, HB2.out⟩
  ·obtain rfl : j = L.length := by omega
   go_wp2_with fail
   go_ret
   exact ⟨⟨_, Nat.le_refl _, HALL.out, Or.inl ⟨rfl, rfl⟩⟩, HBR.out⟩
end Go.Proofs.YtmgjcaikldeioaaGreat.Gr
