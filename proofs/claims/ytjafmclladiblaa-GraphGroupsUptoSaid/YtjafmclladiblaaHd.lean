/- Graph: gabellelaw39.known answers true. -/
import Derived.Test.YtjafmclladiblaaHc
import Derived.Test.YtjafmclladiblaaHa
namespace Go.Proofs.Ytjafmclladiblaa.Gr
open Go Go.RowKit Go.Lib Kt Fm

/-- A block that was built shows its elements. -/
theorem sl_many {α : Type} {en : α → List Value} {w : World} {g : Nat} {e : TypeId} {sz : Nat} {L : List α} (hlen : ∀ x, (en x).length = sz) (h : Lies w g e (L.flatMap en).toArray) : Sl w sz en (.slice (some ⟨g, 0, none⟩) L.length L.length) L :=
  ⟨_, L.length, rfl, fun _ => ⟨g, 0, rfl, h.lt, fun i y hi j c hj => by
    have hjs : j < sz := by rw [← hlen y]; exact (List.getElem?_eq_some_iff.1 hj).1
    have := getElem?_flat hlen hi hjs
    rw [Nat.zero_add, h.cell, List.getElem?_toArray, this, hj]⟩⟩
theorem sl_rows {w : World} {g : Nat} {vs : List Value} (h : Lies w g 24 vs.toArray) : Sl w 1 vc (.slice (some ⟨g, 0, none⟩) vs.length vs.length) vs :=
  sl_many (fun _ => rfl) (by rw [flat_vc]; exact h)

theorem size_alloc (W : World) (o : Obj) : (W.alloc o).heap.size = W.heap.size + 1 := by simp
theorem new1 (W : World) (t : TypeId) (o : Obj) (cs : Array Value) : Lies ((W.alloc o).alloc (.cells cs t)) (W.heap.size + 1) t cs := by
  have := Lies.new (W.alloc o) t cs
  rwa [size_alloc] at this
theorem new2 (W : World) (t : TypeId) (o o2 : Obj) (cs : Array Value) : Lies (((W.alloc o).alloc o2).alloc (.cells cs t)) (W.heap.size + 1 + 1) t cs := by
  have := new1 (W.alloc o) t o2 cs
  rwa [size_alloc] at this
theorem new3 (W : World) (t : TypeId) (o o2 o3 : Obj) (cs : Array Value) : Lies ((((W.alloc o).alloc o2).alloc o3).alloc (.cells cs t)) (W.heap.size + 1 + 1 + 1) t cs := by
  have := new2 (W.alloc o) t o2 o3 cs
  rwa [size_alloc] at this
theorem rows3 (W : World) : ∃ V, V = ((W.alloc (.cells #[.int .u32 1] 28)).alloc (.cells #[.int .u32 2] 28)).alloc (.cells #[.slice (some ⟨W.heap.size, 0, none⟩) 1 1, .slice (some ⟨W.heap.size + 1, 0, none⟩) 1 1, .slice none 0 0] 24) ∧ Below W.heap.size W V ∧
    Sl V 1 vc (.slice (some ⟨W.heap.size + 1 + 1, 0, none⟩) 3 3) [sl1 W.heap.size, sl1 (W.heap.size + 1), .slice none 0 0] ∧ ∀ (i : Nat) (u : Value) (l : List Nat), [sl1 W.heap.size, sl1 (W.heap.size + 1), .slice none 0 0][i]? = some u → R1[i]? = some l → Sl V 1 u32c u l ∧ l.length ≤ 1000 ∧ ∀ y ∈ l, y < 4294967296 := by
  refine ⟨_, rfl, (((Below.refl W.heap.size W).alloc (Nat.le_refl _) _).alloc (by simp) _).alloc (by simp only [size_alloc]; omega) _, sl_rows (vs := [_, _, _]) (new2 _ _ _ _ _), fun i u l h1 h2 => ?_⟩
  rcases i with _ | _ | _ | i
  · obtain rfl : sl1 W.heap.size = u := by simpa using h1
    obtain rfl : [1] = l := by simpa using h2
    exact ⟨sl_one (((Lies.new W _ _).alloc _).alloc _), by simp, by simp⟩
  · obtain rfl : sl1 (W.heap.size + 1) = u := by simpa using h1
    obtain rfl : [2] = l := by simpa using h2
    exact ⟨sl_one ((new1 W _ _ _).alloc _), by simp, by simp⟩
  · obtain rfl : Value.slice none 0 0 = u := by simpa using h1
    obtain rfl : [] = l := by simpa using h2
    exact ⟨Sl.nil _ _ _ _, by simp, by simp⟩
  · simp at h2
theorem rows4 (W : World) : ∃ V, V = (((W.alloc (.cells #[.int .u32 1] 28)).alloc (.cells #[.int .u32 2] 28)).alloc (.cells #[.int .u32 1] 28)).alloc (.cells #[.slice (some ⟨W.heap.size, 0, none⟩) 1 1, .slice (some ⟨W.heap.size + 1, 0, none⟩) 1 1, .slice (some ⟨W.heap.size + 1 + 1, 0, none⟩) 1 1] 24) ∧ Below W.heap.size W V ∧
    Sl V 1 vc (.slice (some ⟨W.heap.size + 1 + 1 + 1, 0, none⟩) 3 3) [sl1 W.heap.size, sl1 (W.heap.size + 1), sl1 (W.heap.size + 1 + 1)] ∧ ∀ (i : Nat) (u : Value) (l : List Nat), [sl1 W.heap.size, sl1 (W.heap.size + 1), sl1 (W.heap.size + 1 + 1)][i]? = some u → R2[i]? = some l → Sl V 1 u32c u l ∧ l.length ≤ 1000 ∧ ∀ y ∈ l, y < 4294967296 := by
  refine ⟨_, rfl, ((((Below.refl W.heap.size W).alloc (Nat.le_refl _) _).alloc (by simp) _).alloc (by simp only [size_alloc]; omega) _).alloc (by simp only [size_alloc]; omega) _, sl_rows (vs := [_, _, _]) (new3 _ _ _ _ _ _), fun i u l h1 h2 => ?_⟩
  rcases i with _ | _ | _ | i
  · obtain rfl : sl1 W.heap.size = u := by simpa using h1
    obtain rfl : [1] = l := by simpa using h2
    exact ⟨sl_one ((((Lies.new W _ _).alloc _).alloc _).alloc _), by simp, by simp⟩
  · obtain rfl : sl1 (W.heap.size + 1) = u := by simpa using h1
    obtain rfl : [2] = l := by simpa using h2
    exact ⟨sl_one (((new1 W _ _ _).alloc _).alloc _), by simp, by simp⟩
  · obtain rfl : sl1 (W.heap.size + 1 + 1) = u := by simpa using h1
    obtain rfl : [1] = l := by simpa using h2
    exact ⟨sl_one ((new2 W _ _ _ _).alloc _), by simp, by simp⟩
  · simp at h2
set_option maxRecDepth 100000 in
set_option maxHeartbeats 16000000 in
theorem known_any {W : World} :
    Calls Try.prog 7 #[] W fun e w' => e = .returned (.bool true) ∧ Below W.heap.size W w' := by
  go_enter Try.func7, Try.ntmps7
  go_wp2_with fail
  obtain ⟨V, hV, hb, hs, ho⟩ := rows3 W
  rw [← hV]
  clear hV
  have HB := Lib.hid hb
  refine (row_any (R := R1) hs rfl (by decide) ho).mono ?_
  clear hb hs ho
  rintro en w1 ⟨m, rfl, hm, hr, hb⟩
  have HB1 := Lib.hid (bt HB.out hb)
  have HM := Lib.hid hm
  have HR := Lib.hid hr
  clear hm hr hb HB
  have hcn : cnt m ≤ 1000 := by rw [HR.out.cnt]; decide
  have hcn2 : cnt m ≤ 4194304 := by omega
  go_wp2_with fail
  refine (gof_any HM.out).mono ?_
  rintro en w2 ⟨G, rfl, hg, hb⟩
  have HB2 := Lib.hid (bt HB1.out hb)
  have HG2 := Lib.hid hg
  clear hb hg HB1 HM
  go_wp2_with fail
  refine (depth_any HG2.out hcn 0).mono ?_
  rintro en w3 ⟨⟨ok, rfl, hok⟩, hb⟩
  obtain rfl : ok = true := hok.2 ⟨by omega, by rw [HR.out.cnt]; decide, good1 HR.out _⟩
  have HB3 := Lib.hid (bt HB2.out hb)
  have HG3 := Lib.hid (HG2.out.later hb)
  rw [if_pos rfl, show (0 : Int).toNat = 0 from rfl, dep1 HR.out]
  clear hb hok HB2 HG2
  go_wp2_with fail
  refine (len_any HG3.out).mono ?_
  rintro en w4 ⟨rfl, rfl⟩
  rw [show cnt m = 3 from HR.out.cnt]
  go_wp2_with fail
  refine (calls_any HG3.out hcn2 0).mono ?_
  rintro en w4 ⟨v4, rfl, ho4, hb⟩
  rw [callsL10 HR.out] at ho4
  have HO4 := Lib.hid (own_sl (en := ic) (fun _ => rfl) ho4)
  have HB4 := Lib.hid (bt HB3.out hb)
  have HG4 := Lib.hid (HG3.out.later hb)
  clear hb ho4 HB3 HG3
  go_wp2_with fail
  obtain ⟨w5, hw5⟩ : ∃ w5, w5 = w4.alloc (.cells #[.int .i64 1] 3) := ⟨_, rfl⟩
  have hb5 : Below w4.heap.size w4 w5 := hw5 ▸ (Below.refl _ _).alloc (Nat.le_refl _) _
  have hs5 : Sl w5 1 ic (sl1 w4.heap.size) [1] := by rw [hw5]; exact sl_one (Lies.new w4 _ _)
  rw [← hw5]
  clear hw5
  have HB5 := Lib.hid (bt HB4.out hb5)
  have HG5 := Lib.hid (HG4.out.later hb5)
  refine (equal_ic (HO4.out.later hb5) hs5 (by simp) (by simp)).mono ?_
  rintro en w6 ⟨rfl, hb⟩
  have HB6 := Lib.hid (bt HB5.out hb)
  have HG6 := Lib.hid (HG5.out.later hb)
  rw [show (([1] : List Nat) == [1]) = true from rfl]
  clear hb hb5 hs5 HO4 HB4 HG4 HB5 HG5
  go_wp2_with fail
  obtain ⟨w7, hw5⟩ : ∃ w7, w7 = w6.alloc (.cells #[.int .i64 0] 3) := ⟨_, rfl⟩
  have hb7 : Below w6.heap.size w6 w7 := hw5 ▸ (Below.refl _ _).alloc (Nat.le_refl _) _
  have hs7 : Sl w7 1 zc (sl1 w6.heap.size) [0] := by rw [hw5]; exact sl_one (Lies.new w6 _ _)
  rw [← hw5]
  clear hw5
  have HB7 := Lib.hid (bt HB6.out hb7)
  have HG7 := Lib.hid (HG6.out.later hb7)
  refine (reach_any HG7.out hcn hs7 (by simp)).mono ?_
  rintro en w8 ⟨v8, out, rfl, hmk, ho8, hb⟩
  have hmk2 : Marked (cnt m) out (Got (cnt m) (callsB m) [((0 : Nat) : Int)]) := hmk
  rw [places_way hmk2, wayL10 HR.out] at ho8
  have HO8 := Lib.hid (own_sl (en := ic) (fun _ => rfl) ho8)
  have HB8 := Lib.hid (bt HB7.out hb)
  have HG8 := Lib.hid (HG7.out.later hb)
  clear hb ho8 hmk hmk2 hb7 hs7 HB6 HG6 HB7 HG7
  go_wp2_with fail
  obtain ⟨w9, hw5⟩ : ∃ w9, w9 = w8.alloc (.cells #[.int .i64 1, .int .i64 2] 3) := ⟨_, rfl⟩
  have hb9 : Below w8.heap.size w8 w9 := hw5 ▸ (Below.refl _ _).alloc (Nat.le_refl _) _
  have hs9 : Sl w9 1 ic (.slice (some ⟨w8.heap.size, 0, none⟩) 2 2) [1, 2] := by rw [hw5]; exact sl_many (L := [1, 2]) (fun _ => rfl) (Lies.new w8 _ _)
  rw [← hw5]
  clear hw5
  have HB9 := Lib.hid (bt HB8.out hb9)
  have HG9 := Lib.hid (HG8.out.later hb9)
  refine (equal_ic (HO8.out.later hb9) hs9 (by simp) (by simp)).mono ?_
  rintro en w10 ⟨rfl, hb⟩
  have HB10 := Lib.hid (bt HB9.out hb)
  have HG10 := Lib.hid (HG9.out.later hb)
  rw [show (([1, 2] : List Nat) == [1, 2]) = true from rfl]
  clear hb hb9 hs9 HO8 HB8 HG8 HB9 HG9
  go_wp2_with fail
  refine (dead_any HG10.out hcn).mono ?_
  rintro en w11 ⟨v11, out2, rfl, hmk, ho, hb⟩
  rw [dead1 HR.out hmk] at ho
  obtain ⟨s11, c11, rfl, _, _⟩ := row_form ho
  have HB11 := Lib.hid (bt HB10.out hb)
  have HG11 := Lib.hid (HG10.out.later hb)
  clear hb ho hmk HB10 HG10
  go_wp2_with fail
  refine (groups_any HG11.out hcn).mono ?_
  rintro en w12 ⟨v12, OV, rfl, hs, hl, _, hb⟩
  rw [grps1 HR.out] at hl
  obtain ⟨s12, c12, rfl, _⟩ := hs.form
  rw [hl]
  have HB12 := Lib.hid (bt HB11.out hb)
  clear hb hs hl HB11 HG11
  go_wp2_with fail
  clear HR hcn hcn2
  obtain ⟨V2, hV, hb, hs, ho⟩ := rows4 w12
  rw [← hV]
  clear hV
  have HB := Lib.hid (bt HB12.out hb)
  refine (row_any (R := R2) hs rfl (by decide) ho).mono ?_
  clear hb hs ho HB12
  rintro en u1 ⟨m2, rfl, hm, hr, hb⟩
  have HB1 := Lib.hid (bt HB.out hb)
  have HM := Lib.hid hm
  have HR := Lib.hid hr
  clear hm hr hb HB
  have hcn : cnt m2 ≤ 1000 := by rw [HR.out.cnt]; decide
  have hcn2 : cnt m2 ≤ 4194304 := by omega
  go_wp2_with fail
  refine (gof_any HM.out).mono ?_
  rintro en u2 ⟨G2, rfl, hg, hb⟩
  have HB2 := Lib.hid (bt HB1.out hb)
  have HG2 := Lib.hid hg
  clear hb hg HB1 HM
  go_wp2_with fail
  refine (depth_any HG2.out hcn 0).mono ?_
  rintro en u3 ⟨⟨ok, rfl, hok⟩, hb⟩
  obtain rfl : ok = false := by
    cases ok with
    | false => rfl
    | true => exact absurd (hok.1 rfl).2.2 (good2 HR.out)
  have HB3 := Lib.hid (bt HB2.out hb)
  have HG3 := Lib.hid (HG2.out.later hb)
  clear hb hok HB2 HG2
  go_wp2_with fail
  refine (groups_any HG3.out hcn).mono ?_
  rintro en u4 ⟨v4', OV2, rfl, hs, hl, hall, hb⟩
  obtain ⟨ga, hga⟩ := grps2 HR.out
  rw [hga] at hl hall
  obtain ⟨o0, o1, rfl⟩ : ∃ o0 o1, OV2 = [o0, o1] := by
    match OV2, hl with
    | [o0, o1], _ => exact ⟨o0, o1, rfl⟩
  have hs1 := hall 1 o1 [1, 2] rfl rfl
  obtain ⟨s4, c4, rfl, hs4⟩ := hs.form
  obtain ⟨gb, go, rfl, _⟩ := hs4 (by simp)
  have hc1 := hs.cell (i := 1) (x := o1) rfl (j := 0) rfl
  rw [Nat.mul_one, Nat.add_zero] at hc1
  have HS1 := Lib.hid hs1
  have HC1 := Lib.hid hc1
  have HB4 := Lib.hid (bt HB3.out hb)
  have HG4 := Lib.hid (HG3.out.later hb)
  clear hb hs hl hall hs4 hs1 hc1 hga HB3 HG3
  go_wp2_with fail
  refine (depth_nil 0).mono ?_
  rintro en u5 ⟨rfl, hb⟩
  have HB5 := Lib.hid (bt HB4.out hb)
  have HG5 := Lib.hid (HG4.out.later hb)
  replace HS1 := Lib.hid (HS1.out.later hb)
  replace HC1 := Lib.hid (keepc hb HC1.out)
  clear hb HB4 HG4
  go_wp2_with fail
  refine (circle_any HG5.out hcn 1).mono ?_
  rintro en u6 ⟨⟨b, rfl, hbb⟩, hb⟩
  obtain rfl : b = true := hbb.2 ⟨by omega, (way2 HR.out).2 (by decide)⟩
  have HB6 := Lib.hid (bt HB5.out hb)
  have HG6 := Lib.hid (HG5.out.later hb)
  replace HS1 := Lib.hid (HS1.out.later hb)
  replace HC1 := Lib.hid (keepc hb HC1.out)
  clear hb hbb HB5 HG5
  go_wp2_with fail
  refine (circle_any HG6.out hcn 0).mono ?_
  rintro en u7 ⟨⟨b, rfl, hbb⟩, hb⟩
  obtain rfl : b = false := by
    cases b with
    | false => rfl
    | true =>
      have := (way2 HR.out).1 (hbb.1 rfl).2
      simp at this
  have HB7 := Lib.hid (bt HB6.out hb)
  replace HS1 := Lib.hid (HS1.out.later hb)
  replace HC1 := Lib.hid (keepc hb HC1.out)
  clear hb hbb HB6 HG6
  have hc1 := HC1.out
  obtain ⟨s1, c1, rfl, _⟩ := HS1.out.form
  clear HC1
  go_wp2_with fail
  obtain ⟨u8, hw5⟩ : ∃ u8, u8 = u7.alloc (.cells #[.int .i64 1, .int .i64 2] 3) := ⟨_, rfl⟩
  have hb9 : Below u7.heap.size u7 u8 := hw5 ▸ (Below.refl _ _).alloc (Nat.le_refl _) _
  have hs9 : Sl u8 1 ic (.slice (some ⟨u7.heap.size, 0, none⟩) 2 2) [1, 2] := by rw [hw5]; exact sl_many (L := [1, 2]) (fun _ => rfl) (Lies.new u7 _ _)
  rw [← hw5]
  clear hw5
  have HB8 := Lib.hid (bt HB7.out hb9)
  refine (equal_ic (HS1.out.later hb9) hs9 (by simp) (by simp)).mono ?_
  rintro en u9 ⟨rfl, hb⟩
  have HB9 := Lib.hid (bt HB8.out hb)
  rw [show (([1, 2] : List Nat) == [1, 2]) = true from rfl]
  clear hb hb9 hs9 HS1 HB8 HB7 hc1
  go_wp2_with fail
  refine len_nil.mono ?_
  rintro en u10 ⟨rfl, rfl⟩
  go_wp2_with fail
  refine (circle_nil 0).mono ?_
  rintro en u11 ⟨rfl, hb⟩
  have HB11 := Lib.hid (bt HB9.out hb)
  clear hb HB9
  go_wp2_with fail
  refine (calls_nil 0).mono ?_
  rintro en u12 ⟨rfl, rfl⟩
  go_wp2_with fail
  obtain ⟨u13, hw5⟩ : ∃ u13, u13 = u12.alloc (.cells #[.int .i64 0] 3) := ⟨_, rfl⟩
  have hb9 : Below u12.heap.size u12 u13 := hw5 ▸ (Below.refl _ _).alloc (Nat.le_refl _) _
  have hs9 : Sl u13 1 zc (sl1 u12.heap.size) [0] := by rw [hw5]; exact sl_one (Lies.new u12 _ _)
  rw [← hw5]
  clear hw5
  have HB12 := Lib.hid (bt HB11.out hb9)
  refine (reach_nil hs9 (by simp)).mono ?_
  rintro en u14 ⟨rfl, hb⟩
  have HB13 := Lib.hid (bt HB12.out hb)
  clear hb hb9 hs9 HB12 HB11
  go_wp2_with fail
  refine groups_nil.mono ?_
  rintro en u15 ⟨rfl, hb⟩
  have HB14 := Lib.hid (bt HB13.out hb)
  clear hb HB13
  go_wp2_with fail
  refine roots_nil.mono ?_
  rintro en u16 ⟨rfl, rfl⟩
  go_wp2_with fail
  refine dead_nil.mono ?_
  rintro en u17 ⟨rfl, rfl⟩
  go_wp2_with fail
  go_ret
  exact ⟨rfl, HB14.out⟩
end Go.Proofs.Ytjafmclladiblaa.Gr
