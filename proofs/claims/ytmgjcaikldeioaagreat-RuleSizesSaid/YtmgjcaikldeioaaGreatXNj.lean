/- Is a module more than is gone through: some answer, with no fault. -/
import Derived.Test.YtmgjcaikldeioaaGreatXNa
import Derived.Test.YtmgjcaikldeioaaGreatXUr
import Derived.Test.YtmgjcaikldeioaaGreatXNh
namespace Go.Proofs.YtmgjcaikldeioaaGreat.Va
open Go Go.RowKit Go.Lib Kt Fm Gr Ty

end Go.Proofs.YtmgjcaikldeioaaGreat.Va
/- The chapter's rows for valid. -/
namespace Go.Proofs.YtmgjcaikldeioaaGreat.Va
open Go Go.RowKit Go.Lib Kt Fm Gr Ty

theorem vchk_ne {m : Mod} (h : (vchk m).2 ≠ 0) : (vchk m).1 = [] := by
 unfold vchk at *
 simp only at *
 split
 ·rename_i h1
  rw [if_pos h1] at h
  exact absurd rfl h
 ·rfl
set_option maxRecDepth 100000 in
set_option maxHeartbeats 8000000 in
theorem is_any {W : World} {m : Mod} (hm : ModOk W m) {k : Nat} {b : Bool} (hb : ((vchk m).2 == k) = b) :
  Calls Tryz.prog 18 #[.agg m.cs.toArray, .int .i64 k] W fun e w' => e = .returned (.bool b) ∧ Below W.heap.size W w' := by
 have HM := zh hm
 have HBB := zh hb
 clear hm hb
 go_enter Tryz.func18, Tryz.ntmps18
 go_wp2_with (first | (refine wl_box m.cs _ rfl rfl rfl (fun w1 hb1 hl1 => ?_); have HB1 := zh hb1; have HL1 := zh hl1; obtain ⟨Bm, hBm⟩ : ∃ Bm, Bm = W.heap.size := ⟨_, rfl⟩; rw [← hBm] at HL1 ⊢; clear hBm hb1 hl1; (try simp only [Act.put, sA, sB, sC])) | (refine wpList_load_mid rfl 33 _ rfl Bm 0 rfl m.cs _ (lies_range HL1.out) Tryz.underlying33 rfl sizeMod ?_; (try simp only [Act.put, sA, sB, sC])))
 refine (vcheck_any (HM.out.later HB1.out)).mono ?_
 rintro en w2 ⟨v, rfl, hsl, hb2⟩
 obtain ⟨s, c, rfl, _⟩ := hsl.form
 have HB2 := zh (bt HB1.out hb2)
 obtain ⟨ev, hev⟩ : ∃ ev, ev = (vchk m).2 := ⟨_, rfl⟩
 obtain ⟨n, hn⟩ : ∃ n, n = (vchk m).1.length := ⟨_, rfl⟩
 rw [← hev, ← hn]
 have hn0 : ev ≠ 0 → n = 0 := fun h => by rw [hn, vchk_ne (by rw [← hev]; exact h)]; rfl
 rw [← hev] at HBB
 clear hev hn hsl hb2
 by_cases h1 : ev = k
 ·subst h1
  obtain rfl : b = true := by rw [← HBB.out]; simp
  by_cases h0 : ev = 0
  ·subst h0
   clear hn0
   go_wp2_with fail
   go_ret
   exact ⟨rfl, HB2.out⟩
  ·obtain rfl := hn0 h0
   have h01 : ¬ (ev : Int) = 0 := by omega
   have h02 : ((ev : Int) == 0) = false := by rw [beq_eq_false_iff_ne]; omega
   have h03 : ((ev : Int) == (ev : Int)) = true := by simp
   clear hn0 h0
   go_wp2_with fail
   go_ret
   exact ⟨rfl, HB2.out⟩
 ·obtain rfl : b = false := by rw [← HBB.out]; simpa using h1
  have h03 : ((ev : Int) == (k : Int)) = false := by rw [beq_eq_false_iff_ne]; omega
  clear hn0 h1
  go_wp2_with fail
  go_ret
  exact ⟨rfl, HB2.out⟩
def modM (mv : Value) (mems : List Lim) (gv : Value) (globs : List Glb) : Mod := ⟨.slice none 0 0, [], .slice none 0 0, [], .slice none 0 0, [], .slice none 0 0, [], mv, mems, gv, globs, .slice none 0 0, [], false, 0, .slice none 0 0, [], .slice none 0 0, [], .slice none 0 0, []⟩
theorem nil_ok {α : Type} {w : World} {sz : Nat} {en : α → List Value} {Q : α → Prop} : Sl w sz en (.slice none 0 0) [] ∧ (∀ y ∈ ([] : List α), Q y) ∧ ([] : List α).length ≤ Bd := ⟨Sl.nil _ _ _ _, fun _ h => (by cases h), Nat.zero_le _⟩
theorem modM_ok {w : World} {mv : Value} {mems : List Lim} {gv : Value} {globs : List Glb} (h1 : Sl w 2 Lim.cs mv mems ∧ (∀ y ∈ mems, LimOk w y) ∧ mems.length ≤ Bd) (h2 : Sl w 3 Glb.cs gv globs ∧ (∀ y ∈ globs, GlbOk w y) ∧ globs.length ≤ Bd) : ModOk w (modM mv mems gv globs) :=
 ⟨nil_ok, nil_ok, nil_ok, nil_ok, h1, h2, nil_ok, (by show (0 : Nat) < 4294967296; decide), nil_ok, nil_ok, nil_ok⟩
theorem vk0 : ((vchk (modM (.slice none 0 0) [] (.slice none 0 0) [])).2 == 0) = true := by rfl
theorem vk1 (v : Value) : ((vchk (modM v [⟨0, -1⟩, ⟨0, -1⟩] (.slice none 0 0) [])).2 == 112) = true := by rfl
theorem vk2 (v : Value) : ((vchk (modM v [⟨2, 1⟩] (.slice none 0 0) [])).2 == 112) = true := by rfl
theorem vk3 (v u : Value) : ((vchk (modM (.slice none 0 0) [] v [⟨⟨127, false⟩, u, [⟨66, 0, 0, 0, .slice none 0 0, []⟩]⟩])).2 == 100) = true := by rfl
theorem vk4 (v u : Value) : ((vchk (modM (.slice none 0 0) [] v [⟨⟨127, false⟩, u, [⟨35, 0, 0, 0, .slice none 0 0, []⟩]⟩])).2 == 80) = true := by rfl
def modN (tv fv ev cv : Value) (n : Nat) : Mod := ⟨tv, [⟨.slice none 0 0, [], .slice none 0 0, []⟩], .slice none 0 0, [], fv, [0], .slice none 0 0, [], .slice none 0 0, [], .slice none 0 0, [], ev, [⟨⟨#[97]⟩, 0, 0⟩, ⟨⟨#[97]⟩, 0, n⟩], false, 0, .slice none 0 0, [], cv, [⟨.slice none 0 0, [], .slice none 0 0, []⟩], .slice none 0 0, []⟩
theorem vk5 (tv fv ev cv : Value) : ((vchk (modN tv fv ev cv 0)).2 == 111) = true := by kernel_rfl
theorem vk6 (tv fv ev cv : Value) : ((vchk (modN tv fv ev cv 1)).2 == 80) = true := by kernel_rfl
theorem sl_many {α : Type} {w : World} {en : α → List Value} {sz g : Nat} {t : TypeId} {L : List α} (hlen : ∀ x, (en x).length = sz) (h : Lies w g t (L.flatMap en).toArray) : Sl w sz en (.slice (some ⟨g, 0, none⟩) L.length L.length) L := by
 refine ⟨_, _, rfl, fun _ => ⟨g, 0, rfl, h.lt, fun i x hi j u hu => ?_⟩⟩
 have hj : j < sz := by rw [← hlen x]; exact (List.getElem?_eq_some_iff.1 hu).1
 have hf := getElem?_flat hlen hi hj
 have h2 := h.cell (i * sz + j)
 rw [Nat.zero_add, h2, List.getElem?_toArray, hf]
 exact hu
set_option maxRecDepth 100000 in
set_option maxHeartbeats 8000000 in
theorem begins_any {W : World} {v : Value} {L : List Ins} (h : Sl W 5 Ins.cs v L) (hx : ∀ y ∈ L, InsOk W y) (hn : L.length ≤ 10) :
  Calls Tryz.prog 27 #[v] W fun e w' => (∃ gv, e = .returned (.agg (modM (.slice none 0 0) [] gv [⟨⟨127, false⟩, v, L⟩]).cs.toArray) ∧ ModOk w' (modM (.slice none 0 0) [] gv [⟨⟨127, false⟩, v, L⟩])) ∧ Below W.heap.size W w' := by
 obtain ⟨s, c, rfl, _⟩ := h.form
 have H := zh h
 have HX := zh hx
 clear h hx
 go_enter Tryz.func27, Tryz.ntmps27
 go_wp2_with fail
 have hl : Lies ((W.alloc (.cells (modM (.slice none 0 0) [] (.slice (some ⟨W.heap.size + 1, 0, none⟩) 1 1) [⟨⟨127, false⟩, .slice s L.length c, L⟩]).cs.toArray 33)).alloc (.cells #[.int .u8 127, .bool false, .slice s L.length c] 80)) W.heap.size 33 (modM (.slice none 0 0) [] (.slice (some ⟨W.heap.size + 1, 0, none⟩) 1 1) [⟨⟨127, false⟩, .slice s L.length c, L⟩]).cs.toArray := (Lies.new _ _ _).alloc _
 have h1 : Lies ((W.alloc (.cells (modM (.slice none 0 0) [] (.slice (some ⟨W.heap.size + 1, 0, none⟩) 1 1) [⟨⟨127, false⟩, .slice s L.length c, L⟩]).cs.toArray 33)).alloc (.cells #[.int .u8 127, .bool false, .slice s L.length c] 80)) (W.heap.size + 1) 80 #[.int .u8 127, .bool false, .slice s L.length c] := lies_new2 _ _ _ _
 have hb : Below W.heap.size W ((W.alloc (.cells (modM (.slice none 0 0) [] (.slice (some ⟨W.heap.size + 1, 0, none⟩) 1 1) [⟨⟨127, false⟩, .slice s L.length c, L⟩]).cs.toArray 33)).alloc (.cells #[.int .u8 127, .bool false, .slice s L.length c] 80)) := ((Below.refl _ _).alloc (Nat.le_refl _) _).alloc (by simp) _
 (try simp only [Exit.inBlock, Exit.then])
 refine bodyPost_ret_by (results_c rfl _ _ W.heap.size (modM (.slice none 0 0) [] (.slice (some ⟨W.heap.size + 1, 0, none⟩) 1 1) [⟨⟨127, false⟩, .slice s L.length c, L⟩]).cs _ rfl hl Tryz.underlying33 rfl sizeMod) rfl ⟨⟨_, rfl, modM_ok nil_ok ⟨sl_one (x := (⟨⟨127, false⟩, .slice s L.length c, L⟩ : Glb)) (en := Glb.cs) h1, fun y hy => ?_, (by show (1 : Nat) ≤ 1048576; decide)⟩⟩, hb⟩
 obtain rfl := List.mem_singleton.1 hy
 exact ⟨trivial, H.out.later hb, fun z hz => (HX.out z hz).later hb, Nat.le_trans hn (by decide)⟩
set_option maxRecDepth 100000 in
set_option maxHeartbeats 8000000 in
theorem names_any {W : World} {n : Nat} (hn : n < 4294967296) :
  Calls Tryz.prog 28 #[.int .u32 n] W fun e w' => (∃ tv fv ev cv, e = .returned (.agg (modN tv fv ev cv n).cs.toArray) ∧ ModOk w' (modN tv fv ev cv n)) ∧ Below W.heap.size W w' := by
 go_enter Tryz.func28, Tryz.ntmps28
 go_wp2_with fail
 have h0 : Lies (((((W.alloc (.cells (modN (.slice (some ⟨W.heap.size + 1, 0, none⟩) 1 1) (.slice (some ⟨W.heap.size + 1 + 1, 0, none⟩) 1 1) (.slice (some ⟨W.heap.size + 1 + 1 + 1 + 1, 0, none⟩) 2 2) (.slice (some ⟨W.heap.size + 1 + 1 + 1, 0, none⟩) 1 1) n).cs.toArray 33)).alloc (.cells #[.slice none 0 0, .slice none 0 0] 51)).alloc (.cells #[.int .u32 0] 28)).alloc (.cells #[.slice none 0 0, .slice none 0 0] 48)).alloc (.cells (([⟨⟨#[97]⟩, 0, 0⟩, ⟨⟨#[97]⟩, 0, n⟩] : List Exp).flatMap Exp.cs).toArray 61)) (W.heap.size) 33 (modN (.slice (some ⟨W.heap.size + 1, 0, none⟩) 1 1) (.slice (some ⟨W.heap.size + 1 + 1, 0, none⟩) 1 1) (.slice (some ⟨W.heap.size + 1 + 1 + 1 + 1, 0, none⟩) 2 2) (.slice (some ⟨W.heap.size + 1 + 1 + 1, 0, none⟩) 1 1) n).cs.toArray := by
  have h := (Lies.new W _ _ : Lies (W.alloc (.cells (modN (.slice (some ⟨W.heap.size + 1, 0, none⟩) 1 1) (.slice (some ⟨W.heap.size + 1 + 1, 0, none⟩) 1 1) (.slice (some ⟨W.heap.size + 1 + 1 + 1 + 1, 0, none⟩) 2 2) (.slice (some ⟨W.heap.size + 1 + 1 + 1, 0, none⟩) 1 1) n).cs.toArray 33)) W.heap.size 33 (modN (.slice (some ⟨W.heap.size + 1, 0, none⟩) 1 1) (.slice (some ⟨W.heap.size + 1 + 1, 0, none⟩) 1 1) (.slice (some ⟨W.heap.size + 1 + 1 + 1 + 1, 0, none⟩) 2 2) (.slice (some ⟨W.heap.size + 1 + 1 + 1, 0, none⟩) 1 1) n).cs.toArray)
  exact ((((h.alloc _).alloc _).alloc _).alloc _)
 have h1 : Lies (((((W.alloc (.cells (modN (.slice (some ⟨W.heap.size + 1, 0, none⟩) 1 1) (.slice (some ⟨W.heap.size + 1 + 1, 0, none⟩) 1 1) (.slice (some ⟨W.heap.size + 1 + 1 + 1 + 1, 0, none⟩) 2 2) (.slice (some ⟨W.heap.size + 1 + 1 + 1, 0, none⟩) 1 1) n).cs.toArray 33)).alloc (.cells #[.slice none 0 0, .slice none 0 0] 51)).alloc (.cells #[.int .u32 0] 28)).alloc (.cells #[.slice none 0 0, .slice none 0 0] 48)).alloc (.cells (([⟨⟨#[97]⟩, 0, 0⟩, ⟨⟨#[97]⟩, 0, n⟩] : List Exp).flatMap Exp.cs).toArray 61)) (W.heap.size + 1) 51 #[.slice none 0 0, .slice none 0 0] := by
  have h := (Lies.new (W.alloc (.cells (modN (.slice (some ⟨W.heap.size + 1, 0, none⟩) 1 1) (.slice (some ⟨W.heap.size + 1 + 1, 0, none⟩) 1 1) (.slice (some ⟨W.heap.size + 1 + 1 + 1 + 1, 0, none⟩) 2 2) (.slice (some ⟨W.heap.size + 1 + 1 + 1, 0, none⟩) 1 1) n).cs.toArray 33)) _ _ : Lies ((W.alloc (.cells (modN (.slice (some ⟨W.heap.size + 1, 0, none⟩) 1 1) (.slice (some ⟨W.heap.size + 1 + 1, 0, none⟩) 1 1) (.slice (some ⟨W.heap.size + 1 + 1 + 1 + 1, 0, none⟩) 2 2) (.slice (some ⟨W.heap.size + 1 + 1 + 1, 0, none⟩) 1 1) n).cs.toArray 33)).alloc (.cells #[.slice none 0 0, .slice none 0 0] 51)) (W.alloc (.cells (modN (.slice (some ⟨W.heap.size + 1, 0, none⟩) 1 1) (.slice (some ⟨W.heap.size + 1 + 1, 0, none⟩) 1 1) (.slice (some ⟨W.heap.size + 1 + 1 + 1 + 1, 0, none⟩) 2 2) (.slice (some ⟨W.heap.size + 1 + 1 + 1, 0, none⟩) 1 1) n).cs.toArray 33)).heap.size 51 #[.slice none 0 0, .slice none 0 0])
  simp only [World.size_alloc] at h
  exact (((h.alloc _).alloc _).alloc _)
 have h2 : Lies (((((W.alloc (.cells (modN (.slice (some ⟨W.heap.size + 1, 0, none⟩) 1 1) (.slice (some ⟨W.heap.size + 1 + 1, 0, none⟩) 1 1) (.slice (some ⟨W.heap.size + 1 + 1 + 1 + 1, 0, none⟩) 2 2) (.slice (some ⟨W.heap.size + 1 + 1 + 1, 0, none⟩) 1 1) n).cs.toArray 33)).alloc (.cells #[.slice none 0 0, .slice none 0 0] 51)).alloc (.cells #[.int .u32 0] 28)).alloc (.cells #[.slice none 0 0, .slice none 0 0] 48)).alloc (.cells (([⟨⟨#[97]⟩, 0, 0⟩, ⟨⟨#[97]⟩, 0, n⟩] : List Exp).flatMap Exp.cs).toArray 61)) (W.heap.size + 1 + 1) 28 #[.int .u32 0] := by
  have h := (Lies.new ((W.alloc (.cells (modN (.slice (some ⟨W.heap.size + 1, 0, none⟩) 1 1) (.slice (some ⟨W.heap.size + 1 + 1, 0, none⟩) 1 1) (.slice (some ⟨W.heap.size + 1 + 1 + 1 + 1, 0, none⟩) 2 2) (.slice (some ⟨W.heap.size + 1 + 1 + 1, 0, none⟩) 1 1) n).cs.toArray 33)).alloc (.cells #[.slice none 0 0, .slice none 0 0] 51)) _ _ : Lies (((W.alloc (.cells (modN (.slice (some ⟨W.heap.size + 1, 0, none⟩) 1 1) (.slice (some ⟨W.heap.size + 1 + 1, 0, none⟩) 1 1) (.slice (some ⟨W.heap.size + 1 + 1 + 1 + 1, 0, none⟩) 2 2) (.slice (some ⟨W.heap.size + 1 + 1 + 1, 0, none⟩) 1 1) n).cs.toArray 33)).alloc (.cells #[.slice none 0 0, .slice none 0 0] 51)).alloc (.cells #[.int .u32 0] 28)) ((W.alloc (.cells (modN (.slice (some ⟨W.heap.size + 1, 0, none⟩) 1 1) (.slice (some ⟨W.heap.size + 1 + 1, 0, none⟩) 1 1) (.slice (some ⟨W.heap.size + 1 + 1 + 1 + 1, 0, none⟩) 2 2) (.slice (some ⟨W.heap.size + 1 + 1 + 1, 0, none⟩) 1 1) n).cs.toArray 33)).alloc (.cells #[.slice none 0 0, .slice none 0 0] 51)).heap.size 28 #[.int .u32 0])
  simp only [World.size_alloc] at h
  exact ((h.alloc _).alloc _)
 have h3 : Lies (((((W.alloc (.cells (modN (.slice (some ⟨W.heap.size + 1, 0, none⟩) 1 1) (.slice (some ⟨W.heap.size + 1 + 1, 0, none⟩) 1 1) (.slice (some ⟨W.heap.size + 1 + 1 + 1 + 1, 0, none⟩) 2 2) (.slice (some ⟨W.heap.size + 1 + 1 + 1, 0, none⟩) 1 1) n).cs.toArray 33)).alloc (.cells #[.slice none 0 0, .slice none 0 0] 51)).alloc (.cells #[.int .u32 0] 28)).alloc (.cells #[.slice none 0 0, .slice none 0 0] 48)).alloc (.cells (([⟨⟨#[97]⟩, 0, 0⟩, ⟨⟨#[97]⟩, 0, n⟩] : List Exp).flatMap Exp.cs).toArray 61)) (W.heap.size + 1 + 1 + 1) 48 #[.slice none 0 0, .slice none 0 0] := by
  have h := (Lies.new (((W.alloc (.cells (modN (.slice (some ⟨W.heap.size + 1, 0, none⟩) 1 1) (.slice (some ⟨W.heap.size + 1 + 1, 0, none⟩) 1 1) (.slice (some ⟨W.heap.size + 1 + 1 + 1 + 1, 0, none⟩) 2 2) (.slice (some ⟨W.heap.size + 1 + 1 + 1, 0, none⟩) 1 1) n).cs.toArray 33)).alloc (.cells #[.slice none 0 0, .slice none 0 0] 51)).alloc (.cells #[.int .u32 0] 28)) _ _ : Lies ((((W.alloc (.cells (modN (.slice (some ⟨W.heap.size + 1, 0, none⟩) 1 1) (.slice (some ⟨W.heap.size + 1 + 1, 0, none⟩) 1 1) (.slice (some ⟨W.heap.size + 1 + 1 + 1 + 1, 0, none⟩) 2 2) (.slice (some ⟨W.heap.size + 1 + 1 + 1, 0, none⟩) 1 1) n).cs.toArray 33)).alloc (.cells #[.slice none 0 0, .slice none 0 0] 51)).alloc (.cells #[.int .u32 0] 28)).alloc (.cells #[.slice none 0 0, .slice none 0 0] 48)) (((W.alloc (.cells (modN (.slice (some ⟨W.heap.size + 1, 0, none⟩) 1 1) (.slice (some ⟨W.heap.size + 1 + 1, 0, none⟩) 1 1) (.slice (some ⟨W.heap.size + 1 + 1 + 1 + 1, 0, none⟩) 2 2) (.slice (some ⟨W.heap.size + 1 + 1 + 1, 0, none⟩) 1 1) n).cs.toArray 33)).alloc (.cells #[.slice none 0 0, .slice none 0 0] 51)).alloc (.cells #[.int .u32 0] 28)).heap.size 48 #[.slice none 0 0, .slice none 0 0])
  simp only [World.size_alloc] at h
  exact (h.alloc _)
 have h4 : Lies (((((W.alloc (.cells (modN (.slice (some ⟨W.heap.size + 1, 0, none⟩) 1 1) (.slice (some ⟨W.heap.size + 1 + 1, 0, none⟩) 1 1) (.slice (some ⟨W.heap.size + 1 + 1 + 1 + 1, 0, none⟩) 2 2) (.slice (some ⟨W.heap.size + 1 + 1 + 1, 0, none⟩) 1 1) n).cs.toArray 33)).alloc (.cells #[.slice none 0 0, .slice none 0 0] 51)).alloc (.cells #[.int .u32 0] 28)).alloc (.cells #[.slice none 0 0, .slice none 0 0] 48)).alloc (.cells (([⟨⟨#[97]⟩, 0, 0⟩, ⟨⟨#[97]⟩, 0, n⟩] : List Exp).flatMap Exp.cs).toArray 61)) (W.heap.size + 1 + 1 + 1 + 1) 61 (([⟨⟨#[97]⟩, 0, 0⟩, ⟨⟨#[97]⟩, 0, n⟩] : List Exp).flatMap Exp.cs).toArray := by
  have h := (Lies.new ((((W.alloc (.cells (modN (.slice (some ⟨W.heap.size + 1, 0, none⟩) 1 1) (.slice (some ⟨W.heap.size + 1 + 1, 0, none⟩) 1 1) (.slice (some ⟨W.heap.size + 1 + 1 + 1 + 1, 0, none⟩) 2 2) (.slice (some ⟨W.heap.size + 1 + 1 + 1, 0, none⟩) 1 1) n).cs.toArray 33)).alloc (.cells #[.slice none 0 0, .slice none 0 0] 51)).alloc (.cells #[.int .u32 0] 28)).alloc (.cells #[.slice none 0 0, .slice none 0 0] 48)) _ _ : Lies (((((W.alloc (.cells (modN (.slice (some ⟨W.heap.size + 1, 0, none⟩) 1 1) (.slice (some ⟨W.heap.size + 1 + 1, 0, none⟩) 1 1) (.slice (some ⟨W.heap.size + 1 + 1 + 1 + 1, 0, none⟩) 2 2) (.slice (some ⟨W.heap.size + 1 + 1 + 1, 0, none⟩) 1 1) n).cs.toArray 33)).alloc (.cells #[.slice none 0 0, .slice none 0 0] 51)).alloc (.cells #[.int .u32 0] 28)).alloc (.cells #[.slice none 0 0, .slice none 0 0] 48)).alloc (.cells (([⟨⟨#[97]⟩, 0, 0⟩, ⟨⟨#[97]⟩, 0, n⟩] : List Exp).flatMap Exp.cs).toArray 61)) ((((W.alloc (.cells (modN (.slice (some ⟨W.heap.size + 1, 0, none⟩) 1 1) (.slice (some ⟨W.heap.size + 1 + 1, 0, none⟩) 1 1) (.slice (some ⟨W.heap.size + 1 + 1 + 1 + 1, 0, none⟩) 2 2) (.slice (some ⟨W.heap.size + 1 + 1 + 1, 0, none⟩) 1 1) n).cs.toArray 33)).alloc (.cells #[.slice none 0 0, .slice none 0 0] 51)).alloc (.cells #[.int .u32 0] 28)).alloc (.cells #[.slice none 0 0, .slice none 0 0] 48)).heap.size 61 (([⟨⟨#[97]⟩, 0, 0⟩, ⟨⟨#[97]⟩, 0, n⟩] : List Exp).flatMap Exp.cs).toArray)
  simp only [World.size_alloc] at h
  exact h
 have hb : Below W.heap.size W (((((W.alloc (.cells (modN (.slice (some ⟨W.heap.size + 1, 0, none⟩) 1 1) (.slice (some ⟨W.heap.size + 1 + 1, 0, none⟩) 1 1) (.slice (some ⟨W.heap.size + 1 + 1 + 1 + 1, 0, none⟩) 2 2) (.slice (some ⟨W.heap.size + 1 + 1 + 1, 0, none⟩) 1 1) n).cs.toArray 33)).alloc (.cells #[.slice none 0 0, .slice none 0 0] 51)).alloc (.cells #[.int .u32 0] 28)).alloc (.cells #[.slice none 0 0, .slice none 0 0] 48)).alloc (.cells (([⟨⟨#[97]⟩, 0, 0⟩, ⟨⟨#[97]⟩, 0, n⟩] : List Exp).flatMap Exp.cs).toArray 61)) := (((((Below.refl _ _).alloc (Nat.le_refl _) _).alloc (by simp) _).alloc (by simp; omega) _).alloc (by simp; omega) _).alloc (by simp; omega) _
 (try simp only [Exit.inBlock, Exit.then])
 refine bodyPost_ret_by (results_c rfl _ _ W.heap.size (modN (.slice (some ⟨W.heap.size + 1, 0, none⟩) 1 1) (.slice (some ⟨W.heap.size + 1 + 1, 0, none⟩) 1 1) (.slice (some ⟨W.heap.size + 1 + 1 + 1 + 1, 0, none⟩) 2 2) (.slice (some ⟨W.heap.size + 1 + 1 + 1, 0, none⟩) 1 1) n).cs _ rfl h0 Tryz.underlying33 rfl sizeMod) rfl ⟨⟨_, _, _, _, rfl, ?_⟩, hb⟩
 refine ⟨⟨sl_one (x := (⟨.slice none 0 0, [], .slice none 0 0, []⟩ : Ft)) (en := Ft.cs) h1, fun y hy => ?_, (by show (1 : Nat) ≤ 1048576; decide)⟩, nil_ok, ⟨sl_one (x := (0 : Nat)) (en := u32c) h2, fun y hy => ?_, (by show (1 : Nat) ≤ 1048576; decide)⟩, nil_ok, nil_ok, nil_ok, ⟨sl_many (L := [⟨⟨#[97]⟩, 0, 0⟩, ⟨⟨#[97]⟩, 0, n⟩]) Exp.len h4, fun y hy => ?_, (by show (2 : Nat) ≤ 1048576; decide)⟩, (by show (0 : Nat) < 4294967296; decide), nil_ok, ⟨sl_one (x := (⟨.slice none 0 0, [], .slice none 0 0, []⟩ : Cod)) (en := Cod.cs) h3, fun y hy => ?_, (by show (1 : Nat) ≤ 1048576; decide)⟩, nil_ok⟩
 ·obtain rfl := List.mem_singleton.1 hy
  exact ⟨nil_ok, nil_ok⟩
 ·obtain rfl := List.mem_singleton.1 hy
  show (0 : Nat) < 4294967296
  decide
 ·rcases List.mem_cons.1 hy with rfl | hy
  ·exact ⟨by show (0 : Nat) < 4294967296; decide, by show (1 : Nat) ≤ 1048576; decide⟩
  ·obtain rfl := List.mem_singleton.1 hy
   exact ⟨hn, by show (1 : Nat) ≤ 1048576; decide⟩
 ·obtain rfl := List.mem_singleton.1 hy
  exact ⟨nil_ok, nil_ok⟩
theorem lim2_ok {w : World} {y : Lim} (hy : y ∈ ([⟨0, -1⟩, ⟨0, -1⟩] : List Lim)) : LimOk w y := by
 rcases List.mem_cons.1 hy with rfl | hy
 ·show (0 : Nat) < 4294967296
  decide
 ·obtain rfl := List.mem_singleton.1 hy
  show (0 : Nat) < 4294967296
  decide
theorem calls_world {P : Program} {f : FuncId} {args : Array Value} {w w' : World} {R : Ending → World → Prop} (e : w = w') (h : Calls P f args w' R) : Calls P f args w R := e ▸ h
set_option maxRecDepth 100000 in
set_option maxHeartbeats 8000000 in
theorem known_any {W : World} : Calls Tryz.prog 8 #[] W fun e w' => e = .returned (.bool true) ∧ Below W.heap.size W w' := by
 go_enter Tryz.func8, Tryz.ntmps8
 go_wp2_with fail
 obtain ⟨w1, hw1⟩ : ∃ w1, w1 = W.alloc (.cells #[.int .u32 0, .int .i64 (-1)] 84) := ⟨_, rfl⟩
 have HB1 := zh (show Below W.heap.size W w1 from hw1 ▸ (Below.refl _ _).alloc (Nat.le_refl _) _)
 have HL1 := zh (show Lies w1 W.heap.size 84 (Lim.cs (⟨0, -1⟩ : Lim)).toArray from hw1 ▸ Lies.new _ _ _)
 rw [← hw1]
 clear hw1
 obtain ⟨Bl, hBl⟩ : ∃ Bl, Bl = W.heap.size := ⟨_, rfl⟩
 rw [← hBl] at HL1 ⊢
 clear hBl
 refine (is_any (m := modM (.slice none 0 0) [] (.slice none 0 0) []) (modM_ok nil_ok nil_ok) vk0).mono ?_
 rintro en w2 ⟨rfl, hb2⟩
 have HB2 := zh (bt HB1.out hb2)
 have HL2 := zh (HL1.out.below hb2 HL1.out.lt)
 clear hb2
 go_wp2_with (refine wl_loadw (lies_range HL2.out) _ (by first | rfl | (simp [Region.wanted, yielded, *]; done)) rfl rfl Tryz.underlying84 rfl sizeLim ?_; (try simp only [Act.put, sA, sB, sC]))
 have hl3 : Lies (w2.alloc (.cells (([(⟨0, -1⟩ : Lim), (⟨0, -1⟩ : Lim)] : List Lim).flatMap Lim.cs).toArray 84)) w2.heap.size 84 (([(⟨0, -1⟩ : Lim), (⟨0, -1⟩ : Lim)] : List Lim).flatMap Lim.cs).toArray := Lies.new _ _ _
 refine (is_any (m := modM (.slice (some ⟨w2.heap.size, 0, none⟩) 2 2) [(⟨0, -1⟩ : Lim), (⟨0, -1⟩ : Lim)] (.slice none 0 0) []) (modM_ok ⟨sl_many (L := [(⟨0, -1⟩ : Lim), (⟨0, -1⟩ : Lim)]) Lim.len hl3, fun y hy => lim2_ok hy, (by show (2 : Nat) ≤ 1048576; decide)⟩ nil_ok) (vk1 _)).mono ?_
 rintro en w3 ⟨rfl, hb3⟩
 have HB3 := zh (bt HB2.out (((Below.refl w2.heap.size w2).alloc (Nat.le_refl _) _).trans (hb3.mono (by simp))))
 clear hb3 hl3
 go_wp2_with fail
 have hl4 : Lies (w3.alloc (.cells (([⟨2, 1⟩] : List Lim).flatMap Lim.cs).toArray 84)) w3.heap.size 84 (([⟨2, 1⟩] : List Lim).flatMap Lim.cs).toArray := Lies.new _ _ _
 refine (is_any (m := modM (.slice (some ⟨w3.heap.size, 0, none⟩) 1 1) [⟨2, 1⟩] (.slice none 0 0) []) (modM_ok ⟨sl_many (L := [⟨2, 1⟩]) Lim.len hl4, fun y hy => (by obtain rfl := List.mem_singleton.1 hy; show (2 : Nat) < 4294967296; decide), (by show (1 : Nat) ≤ 1048576; decide)⟩ nil_ok) (vk2 _)).mono ?_
 rintro en w4 ⟨rfl, hb4⟩
 have HB4 := zh (bt HB3.out (((Below.refl w3.heap.size w3).alloc (Nat.le_refl _) _).trans (hb4.mono (by simp))))
 clear hb4 hl4
 go_wp2_with fail
 obtain ⟨u4, hu4⟩ : ∃ u, u = w4.alloc (.cells (([(⟨66, 0, 0, 0, .slice none 0 0, []⟩ : Ins)] : List Ins).flatMap Ins.cs).toArray 57) := ⟨_, rfl⟩
 have hbu : Below w4.heap.size w4 u4 := hu4 ▸ (Below.refl _ _).alloc (Nat.le_refl _) _
 have HLU := zh (show Lies u4 w4.heap.size 57 (([(⟨66, 0, 0, 0, .slice none 0 0, []⟩ : Ins)] : List Ins).flatMap Ins.cs).toArray from hu4 ▸ Lies.new _ _ _)
 have HBU := zh (bt HB4.out hbu)
 refine calls_world hu4.symm ?_
 clear hu4 hbu
 obtain ⟨Bu, hBu⟩ : ∃ Bu, Bu = w4.heap.size := ⟨_, rfl⟩
 rw [← hBu] at HLU ⊢
 clear hBu
 refine (begins_any (v := .slice (some ⟨Bu, 0, none⟩) 1 1) (L := [(⟨66, 0, 0, 0, .slice none 0 0, []⟩ : Ins)]) (sl_many (L := [(⟨66, 0, 0, 0, .slice none 0 0, []⟩ : Ins)]) Ins.len HLU.out) (fun y hy => (by obtain rfl := List.mem_singleton.1 hy; exact ⟨(by show (0 : Nat) < _; decide), (by show (0 : Nat) < _; decide), (by constructor <;> decide), nil_ok⟩)) (by show (1 : Nat) ≤ 10; decide)).mono ?_
 rintro en w5 ⟨⟨gv, rfl, hok⟩, hb5⟩
 have HB5 := zh (bt HBU.out hb5)
 have HOK := zh hok
 clear hok hb5
 go_wp2_with fail
 refine (is_any HOK.out (vk3 _ _)).mono ?_
 rintro en w6 ⟨rfl, hb6⟩
 have HB6 := zh (bt HB5.out hb6)
 clear hb6
 go_wp2_with fail
 obtain ⟨u6, hu6⟩ : ∃ u, u = w6.alloc (.cells (([(⟨35, 0, 0, 0, .slice none 0 0, []⟩ : Ins)] : List Ins).flatMap Ins.cs).toArray 57) := ⟨_, rfl⟩
 have hbu : Below w6.heap.size w6 u6 := hu6 ▸ (Below.refl _ _).alloc (Nat.le_refl _) _
 have HLU := zh (show Lies u6 w6.heap.size 57 (([(⟨35, 0, 0, 0, .slice none 0 0, []⟩ : Ins)] : List Ins).flatMap Ins.cs).toArray from hu6 ▸ Lies.new _ _ _)
 have HBU := zh (bt HB6.out hbu)
 refine calls_world hu6.symm ?_
 clear hu6 hbu
 obtain ⟨Bu, hBu⟩ : ∃ Bu, Bu = w6.heap.size := ⟨_, rfl⟩
 rw [← hBu] at HLU ⊢
 clear hBu
 refine (begins_any (v := .slice (some ⟨Bu, 0, none⟩) 1 1) (L := [(⟨35, 0, 0, 0, .slice none 0 0, []⟩ : Ins)]) (sl_many (L := [(⟨35, 0, 0, 0, .slice none 0 0, []⟩ : Ins)]) Ins.len HLU.out) (fun y hy => (by obtain rfl := List.mem_singleton.1 hy; exact ⟨(by show (0 : Nat) < _; decide), (by show (0 : Nat) < _; decide), (by constructor <;> decide), nil_ok⟩)) (by show (1 : Nat) ≤ 10; decide)).mono ?_
 rintro en w7 ⟨⟨gv, rfl, hok⟩, hb7⟩
 have HB7 := zh (bt HBU.out hb7)
 have HOK := zh hok
 clear hok hb7
 go_wp2_with fail
 refine (is_any HOK.out (vk4 _ _)).mono ?_
 rintro en w8 ⟨rfl, hb8⟩
 have HB8 := zh (bt HB7.out hb8)
 clear hb8
 go_wp2_with fail
 refine (names_any (n := 0) (by decide)).mono ?_
 rintro en w9 ⟨⟨tv, fv, ev, cv, rfl, hok⟩, hb9⟩
 have HB9 := zh (bt HB8.out hb9)
 have HOK := zh hok
 clear hok hb9
 go_wp2_with fail
 refine (is_any HOK.out (vk5 _ _ _ _)).mono ?_
 rintro en w10 ⟨rfl, hb10⟩
 have HB10 := zh (bt HB9.out hb10)
 clear hb10
 go_wp2_with fail
 refine (names_any (n := 1) (by decide)).mono ?_
 rintro en w11 ⟨⟨tv, fv, ev, cv, rfl, hok⟩, hb11⟩
 have HB11 := zh (bt HB10.out hb11)
 have HOK := zh hok
 clear hok hb11
 go_wp2_with fail
 refine (is_any HOK.out (vk6 _ _ _ _)).mono ?_
 rintro en w12 ⟨rfl, hb12⟩
 have HB12 := zh (bt HB11.out hb12)
 clear hb12
 go_wp2_with fail
 go_ret
 exact ⟨rfl, HB12.out⟩
end Go.Proofs.YtmgjcaikldeioaaGreat.Va
/- What a module is that valid.Check finds fine, plain. -/
namespace Go.Proofs.YtmgjcaikldeioaaGreat.Va
open Gr Ty

/-- A body that is gone through: each instruction made its step. -/
theorem run_each {cx : Cx} : ∀ {l : List Ins} {s s' : St}, run cx s l = .ok s' → ∀ x ∈ l, ∃ s1 s2, Ty.step cx s1 x = .ok s2
 | [], _, _, _, x, hx => by cases hx
 | y :: l, s, s', h, x, hx => by
  rw [run] at h
  cases hs : Ty.step cx s y with
  | error e => rw [hs] at h; cases h
  | ok s2 =>
   rw [hs] at h
   rcases List.mem_cons.1 hx with rfl | hx
   ·exact ⟨s, s2, hs⟩
   ·exact run_each h x hx
theorem chk_each {cx : Cx} (h : (chk cx).2 = 0) : ∀ x ∈ cx.c.body, ∃ s1 s2, Ty.step cx s1 x = .ok s2 := by
 unfold chk at h
 split at h
 ·cases h
 ·split at h
  ·cases h
  ·cases hr : run cx ⟨stk0 cx.fn.r, []⟩ cx.c.body with
   | error e =>
    rw [hr] at h
    have he : e = 0 := h
    subst he
    exact absurd hr (run_err _ _ _)
   | ok s => exact run_each hr
section
variable {m : Mod}
theorem there0 {i : Nat} (h : (ftype m i).isSome = true) : thereB m 0 i = true := by
 unfold ftype at h
 cases hf : (ftyps m)[i]? with
 | none => rw [hf] at h; cases h
 | some t =>
  have := (List.getElem?_eq_some_iff.1 hf).1
  have hc : cnt m = (ftyps m).length := by rw [cnt, ftyps, List.length_append, List.length_map]
  unfold thereB cntK
  rw [if_pos rfl, decide_eq_true_eq, hc]
  exact this
theorem len_of {α : Type} {l : List α} {i : Nat} (h : (l[i]?).isSome = true) : i < l.length := by
 cases hf : l[i]? with
 | none => rw [hf] at h; cases h
 | some t => exact (List.getElem?_eq_some_iff.1 hf).1
/-- What each instruction of a body that is well typed speaks of is there. -/
structure InsFine (m : Mod) (x : Ins) : Prop where
 call : x.op = 16 → thereB m 0 x.a = true
 ind : x.op = 17 → (m.types[x.a]?).isSome = true ∧ thereB m 1 0 = true
 glob : x.op = 35 ∨ x.op = 36 → thereB m 3 x.a = true
 mem : x.op = 63 ∨ x.op = 64 → thereB m 2 0 = true
theorem ins_fine {f : Ft} {c : Cod} {x : Ins} {s1 s2 : St} (h : Ty.step ⟨spX m, f, c⟩ s1 x = .ok s2) : InsFine m x := by
 refine ⟨fun e => ?_, fun e => ?_, fun e => ?_, fun e => ?_⟩
 ·have hs : Ty.step ⟨spX m, f, c⟩ s1 x = stepCall ⟨spX m, f, c⟩ s1 x := by unfold Ty.step; simp [e]
  rw [hs] at h
  unfold stepCall at h
  refine there0 ?_
  cases hf : ftype m x.a with
  | none => rw [show (spX m).func x.a = none from hf] at h; cases h
  | some t => rfl
 ·have hs : Ty.step ⟨spX m, f, c⟩ s1 x = stepInd ⟨spX m, f, c⟩ s1 x := by unfold Ty.step; simp [e]
  rw [hs] at h
  unfold stepInd at h
  cases hf : m.types[x.a]? with
  | none => rw [show (spX m).type x.a = none from hf] at h; cases h
  | some t =>
   rw [show (spX m).type x.a = some t from hf] at h
   simp only at h
   refine ⟨rfl, ?_⟩
   split at h
   ·rename_i hb
    have := len_of (show ((bsOf m)[0]?).isSome = true from hb)
    unfold thereB cntK
    rw [if_neg (by decide), if_pos rfl, decide_eq_true_eq]
    exact this
   ·cases h
 ·have hs : Ty.step ⟨spX m, f, c⟩ s1 x = stepGlobal ⟨spX m, f, c⟩ s1 x := by unfold Ty.step; rcases e with e | e <;> simp [e]
  rw [hs] at h
  unfold stepGlobal at h
  cases hf : (gsOf m)[x.a]? with
  | none => rw [show (spX m).glob x.a = none from hf] at h; cases h
  | some t =>
   have := (List.getElem?_eq_some_iff.1 hf).1
   unfold thereB cntK
   rw [if_neg (by decide), if_neg (by decide), if_neg (by decide), if_pos rfl, decide_eq_true_eq]
   exact this
 ·have hs : Ty.step ⟨spX m, f, c⟩ s1 x = stepPlain ⟨spX m, f, c⟩ s1 x := by unfold Ty.step; rcases e with e | e <;> simp [e]
  rw [hs] at h
  unfold stepPlain at h
  have hfo : formN x.op = 7 := by rcases e with e | e <;> rw [e] <;> decide
  split at h
  ·cases h
  ·rename_i hb
   have hm : (spX m).mem = true := by
    cases hm : (spX m).mem with
    | true => rfl
    | false => exact absurd ⟨.inr hfo, hm⟩ hb
   have := len_of (show ((msOf m)[0]?).isSome = true from hm)
   unfold thereB cntK
   rw [if_neg (by decide), if_neg (by decide), if_pos rfl, decide_eq_true_eq]
   exact this
theorem codE_ok : ∀ {l : List Cod} {H : List Nat} {e : Nat}, (codE m l H e).2 = 0 → (codE m l H e).1.length = H.length + l.length ∧ (∀ (i h : Nat), H[i]? = some h → (codE m l H e).1[i]? = some h) ∧ ∀ (i : Nat) (c : Cod), l[i]? = some c → ∃ h, codC m (H.length + i) c = (h, 0) ∧ (codE m l H e).1[H.length + i]? = some h
 | [], H, e, _ => ⟨rfl, fun _ _ h => h, fun i c h => by cases h⟩
 | y :: r, H, e, h => by
  obtain rfl := codE_back h
  rw [codE, if_pos rfl] at h ⊢
  have hk : (codC m H.length y).2 = 0 := by
   have h1 := codE_back h
   by_cases hk : (codC m H.length y).2 = 0
   ·exact hk
   ·rw [show ((codC m H.length y).2 == 0) = false from by simpa using hk] at h1
    exact h1
  obtain ⟨h1, h2, h3⟩ := codE_ok h
  refine ⟨by rw [h1]; simp only [List.length_append, List.length_cons, List.length_nil]; omega, fun i x hx => ?_, fun i c hc => ?_⟩
  ·refine h2 i x ?_
   rw [List.getElem?_append_left (List.getElem?_eq_some_iff.1 hx).1]
   exact hx
  ·cases i with
   | zero =>
    obtain rfl : y = c := by simpa using hc
    refine ⟨_, Prod.ext rfl hk, ?_⟩
    refine h2 _ _ ?_
    simp
   | succ i =>
    obtain ⟨q, hq1, hq2⟩ := h3 i c (by simpa using hc)
    rw [List.length_append, List.length_singleton] at hq1 hq2
    exact ⟨q, by rw [show H.length + (i + 1) = H.length + 1 + i by omega]; exact hq1, by rw [show H.length + (i + 1) = H.length + 1 + i by omega]; exact hq2⟩
theorem expE_there : ∀ {l : List Exp} {ns : List (List UInt8)} {e : Nat}, expE m l ns e = 0 → ∀ x ∈ l, thereB m x.kind x.ix = true
 | [], _, _, _, x, hx => by cases hx
 | y :: r, ns, e, h, x, hx => by
  obtain rfl := expE_back h
  rw [expE, if_pos rfl] at h
  rcases List.mem_cons.1 hx with rfl | hx
  ·exact ((mst_zero (by decide)).1 (mst_back (by decide) (expE_back h))).2
  ·exact expE_there h x hx
theorem elmE_back {x : Elm} {e : Nat} (h : elmE m x e = 0) : e = 0 := mst_back (by decide) (constE_back (eachE_back h))
theorem glbE_back {x : Glb} {e : Nat} (h : glbE m x e = 0) : e = 0 := mst_back (by decide) (constE_back h)
/-- A valid module. -/
structure Sound (m : Mod) (H : List Nat) : Prop where
 len : H.length = m.codes.length
 tab : (bsOf m).length ≤ 1
 mem : (msOf m).length ≤ 1
 res : ∀ t ∈ m.types, t.r.length ≤ 1
 cod : ∀ (i : Nat) (c : Cod), m.codes[i]? = some c → (ftype m ((fk m 0).length + i)).isSome = true ∧ (∃ h, codC m i c = (h, 0) ∧ H[i]? = some h) ∧ ∀ x ∈ c.body, InsFine m x
 elm : ∀ x ∈ m.elems, ∀ f ∈ x.fs, thereB m 0 f = true ∧ thereB m 1 x.tb = true
 exp : ∀ x ∈ m.exps, thereB m x.kind x.ix = true
 start : m.hs = true → thereB m 0 m.st = true
theorem vchk_zero (h : (vchk m).2 = 0) : eachE (datE m) m.datas (codE m m.codes [] (fore m)).2 = 0 ∧ (vchk m).1 = (codE m m.codes [] (fore m)).1 := by
 unfold vchk at *
 simp only at *
 split at h
 ·rename_i h1
  exact ⟨h1, by rw [if_pos h1]⟩
 ·rename_i h1
  exact absurd h h1
theorem sound_of (h : (vchk m).2 = 0) : Sound m (vchk m).1 := by
 obtain ⟨h1, h2⟩ := vchk_zero h
 have h3 : (codE m m.codes [] (fore m)).2 = 0 := eachE_back h1
 have h4 : fore m = 0 := codE_back h3
 have h5 := start_back (eachE_back h4)
 have h6 := expE_back h5
 have h7 := eachE_back h6
 have h8 := storesE_back h7
 have h9 := eachE_back h8
 have h10 := eachE_back h9
 obtain ⟨k1, _, k3⟩ := codE_ok h3
 have hl : m.codes.length = m.funcs.length := by
  have := ((mst_zero (by decide)).1 (eachE_back (eachE_back (eachE_back h10)))).2
  simpa using this
 have hst := ((mst_zero (by decide)).1 (limO_back (limO_back h7))).2
 rw [Bool.and_eq_true, decide_eq_true_eq, decide_eq_true_eq] at hst
 have hel := ((eachE_zero (f := elmE m) (fun x e => elmE_back)).1 h4).2
 refine ⟨by rw [h2, k1]; simp, hst.1, by omega, fore_types h4, fun i c hc => ?_, fun x hx f hf => ?_, expE_there h5, fun hs => ?_⟩
 ·have hi := (List.getElem?_eq_some_iff.1 hc).1
  obtain ⟨q, hq1, hq2⟩ := k3 i c hc
  simp only [List.length_nil, Nat.zero_add] at hq1 hq2
  refine ⟨?_, ⟨q, hq1, by rw [h2]; exact hq2⟩, fun x hx => ?_⟩
  ·obtain ⟨t, ht⟩ : ∃ t, m.funcs[i]? = some t := ⟨_, List.getElem?_eq_getElem (by omega)⟩
   have hty := ((mst_zero (by decide)).1 (((eachE_zero (f := fun t e => mst e (m.types[t]?).isSome 80) (fun x e => mst_back (by decide))).1 h8).2 t (List.mem_of_getElem? ht))).2
   unfold ftype
   have hf : (ftyps m)[(fk m 0).length + i]? = some t := by
    rw [ftyps, List.getElem?_append_right (by rw [List.length_map]; exact Nat.le_add_right _ _), List.length_map]
    rw [show (fk m 0).length + i - (fimps m).length = i from by rw [show (fimps m).length = (fk m 0).length from rfl]; omega]
    exact ht
   rw [hf]
   exact hty
  ·have hq : (chk ⟨spX m, fnA m ((fk m 0).length + i), c⟩).2 = 0 := by
    have := congrArg Prod.snd hq1
    exact this
   obtain ⟨s1, s2, hs⟩ := chk_each hq x hx
   exact ins_fine hs
 ·have h11 := hel x hx
  have h12 := ((eachE_zero (f := fun f e => mst e (thereB m 0 f) 80) (fun x e => mst_back (by decide))).1 h11)
  exact ⟨((mst_zero (by decide)).1 (h12.2 f hf)).2, ((mst_zero (by decide)).1 (constE_back h12.1)).2⟩
 ·have h11 := eachE_back h4
  rw [if_pos hs] at h11
  have h12 := ((mst_zero (by decide)).1 h11).2
  refine there0 ?_
  unfold startB at h12
  cases hf : ftype m m.st with
  | none => rw [hf] at h12; cases h12
  | some t => rfl
end
end Go.Proofs.YtmgjcaikldeioaaGreat.Va
