/- The walk of KvPlays: the store and the document's, call by call. -/
import Derived.Test.YteeghdkejnhjnaaKvMz
import Derived.Test.YteeghdkejnhjnaaBoP
import Derived.Deep.CutBlock
import Derived.Deep.CutRange
namespace Go.Proofs.Yteeghdkejnhjnaa.Kv
open Go Go.RowKit Go.Shelf Kt Ad Bo

attribute [local go_sem] Oper.semAt_some

set_option maxRecDepth 100000 in
set_option maxHeartbeats 8000000 in
theorem law_plays {W : World} {v0 : Value} {X : List Kdo} (h0 : KRow W v0 X) :
    Calls Try.prog 7 #[v0] W fun e w' => e = .returned (.bool true) ∧ Below W.heap.size W w' := by
  have HV0 := Lib.hid (fun (w : World) (hb : Below W.heap.size W w) => heavy_any (h0.below hb))
  obtain ⟨s0, cap0, rfl, hs0⟩ := h0.shape
  have HB0 := Lib.hid h0.byt
  have HS0 := Lib.hid hs0
  clear hs0 h0
  have HN := Lib.hid (fun w => known_any w)
  refine (callsIn_wide (n := 9)).1 ?_
  refine callsIn_of_wp_marks Try.func7 rfl trivial ?_ rfl
  refine wpIn_wide.2 ?_
  simp only [Try.ntmps7, List.size_toArray, List.length_cons, List.length_nil, Nat.reduceAdd, Nat.reduceSub, Array.replicate_succ, Array.replicate_zero, List.push_toArray, List.append_toArray, List.nil_append, List.cons_append]
  go_wp2_with fail
  refine (HN.out _).mono ?_
  rintro en w1 ⟨rfl, hb1⟩
  have hl1 : Lies (W.alloc (.cells #[.bool false] 4)) W.heap.size 4 #[.bool false] := Lies.new W _ _
  have hbA : Below W.heap.size W (W.alloc (.cells #[.bool false] 4)) := (Below.refl _ _).alloc (Nat.le_refl _) _
  have HL1 := Lib.hid (hl1.below hb1 hl1.lt)
  have HW1 := Lib.hid (hbA.trans (hb1.mono (by simp)))
  clear HN hl1 hbA hb1
  go_wp2_with fail
  refine (HV0.out w1 HW1.out).mono ?_
  rintro en w2 ⟨hv, rfl, hh, hb⟩
  have HW2 := Lib.hid (HW1.out.trans (hb.mono HW1.out.size))
  have HL2 := Lib.hid (HL1.out.below hb HL1.out.lt)
  clear hb HV0 HW1 HL1
  cases hv with
  | true =>
    have hc := HL2.out.cell 0
    simp only [List.getElem?_toArray, List.getElem?_cons_zero] at hc
    have hf := HL2.out.frozen 0
    go_wp2_with fail
    have hB2 : Below W.heap.size W (w2.setCell ⟨W.heap.size, 0, none⟩ (.bool true)) := HW2.out.setCell (Nat.le_refl _) _
    have hr := (HL2.out.set 0 (.bool true)).cell 0
    refine ⟨_, results_cell1 rfl _ _ W.heap.size (.bool true) rfl ?_, rfl, hB2⟩
    simp at hr
    simp [loadVar, go_sem, hr]
  | false =>
    obtain ⟨hlX, hbX⟩ := hh rfl
    have HL0 := Lib.hid hbX
    clear hh hbX
    go_wp2_with fail
    refine (sto_new _).mono ?_
    rintro en w3 ⟨bl, rfl, hK, hb⟩
    have hW3 := HW2.out.trans (hb.mono HW2.out.size)
    have hlt2 : W.heap.size < w2.heap.size := HL2.out.lt
    have hL3 := HL2.out.below hb HL2.out.lt
    go_wp2_with fail
    obtain ⟨w4, hw4⟩ : ∃ w4, w4 = ((w3.alloc (.cells #[.slice none 0 0] 75)).alloc (.cells #[.pointer (some ⟨bl, 0, none⟩)] 28)).alloc (.cells #[.pointer (some ⟨w3.heap.size, 0, none⟩)] 72) := ⟨_, rfl⟩
    rw [← hw4]
    obtain ⟨br, hbr⟩ : ∃ br, br = w3.heap.size := ⟨_, rfl⟩
    obtain ⟨b3, hb3⟩ : ∃ b3, b3 = w3.heap.size + 1 := ⟨_, rfl⟩
    obtain ⟨b4, hb4⟩ : ∃ b4, b4 = w3.heap.size + 1 + 1 := ⟨_, rfl⟩
    have hsz4 : w4.heap.size = w3.heap.size + 3 := by rw [hw4]; simp
    have hbl4 : Below w3.heap.size w3 w4 := by rw [hw4]; exact (((Below.refl _ _).alloc (Nat.le_refl _) _).alloc (by simp) _).alloc (by simp; omega) _
    have hlr : Lies w4 br 75 #[.slice none 0 0] := by rw [hw4, hbr]; exact ((Lies.new w3 _ _).alloc _).alloc _
    have hl3 : Lies w4 b3 28 #[.pointer (some ⟨bl, 0, none⟩)] := by
      rw [hw4, hb3]
      have := Lies.new (w3.alloc (.cells #[.slice none 0 0] 75)) 28 #[.pointer (some ⟨bl, 0, none⟩)]
      rw [World.size_alloc] at this
      exact this.alloc _
    have hl4 : Lies w4 b4 72 #[.pointer (some ⟨br, 0, none⟩)] := by
      rw [hw4, hb4, hbr]
      have := Lies.new ((w3.alloc (.cells #[.slice none 0 0] 75)).alloc (.cells #[.pointer (some ⟨bl, 0, none⟩)] 28)) 72 #[.pointer (some ⟨w3.heap.size, 0, none⟩)]
      rw [World.size_alloc, World.size_alloc] at this
      exact this
    have hp4 : Pz W w4 (fun i => w2.heap.size ≤ i ∧ i < w3.heap.size) (fun i => i = br) bl br St.nil St.nil :=
      ⟨(hK.mono (fun i hl hi => ⟨hi, hl⟩)).later hbl4, ⟨.slice none 0 0, [], ⟨hlr, WRow.nil _ _ _ _, by simp, rfl⟩, Sorted.nil, rfl⟩, fun i hi e => by have := hi.2; omega, fun i hi => by have := hi.1; omega, fun i hi => by have := hW3.size; omega, fun i hi => by have := hi.2; omega, fun i hi => by omega, hW3.trans (hbl4.mono hW3.size)⟩
    have hz4 : Bz W w4 (fun i => w2.heap.size ≤ i ∧ i < w3.heap.size) (fun i => i = br) [(b3, 28, #[.pointer (some ⟨bl, 0, none⟩)]), (b4, 72, #[.pointer (some ⟨br, 0, none⟩)]), (W.heap.size, 4, #[.bool false])] [] := by
      have hws := hW3.size
      have hwb := hb.size
      have hl2 := hL3.below hbl4 hL3.lt
      refine ⟨fun p hp => ?_, ?_, Marks.nil⟩
      · simp only [List.mem_cons, List.not_mem_nil, or_false] at hp
        rcases hp with rfl | rfl | rfl
        · exact ⟨⟨⟨hl3.lt, fun e => by have := e.2; omega, fun e => by omega⟩, hl3⟩, by omega⟩
        · exact ⟨⟨⟨hl4.lt, fun e => by have := e.2; omega, fun e => by omega⟩, hl4⟩, by omega⟩
        · exact ⟨⟨⟨hl2.lt, fun e => by have := e.1; omega, fun e => by omega⟩, hl2⟩, by omega⟩
      · simp only [List.map_cons, List.map_nil, List.nodup_cons, List.mem_cons, List.not_mem_nil, or_false, not_or, List.nodup_nil, and_true, not_false_eq_true]
        exact ⟨⟨by omega, by omega⟩, by omega⟩
    rw [← hb4, ← hb3, ← hbr]
    have HP4 := Lib.hid hp4
    have HZ4 := Lib.hid hz4
    generalize (fun i => w2.heap.size ≤ i ∧ i < w3.heap.size) = own4 at HP4 HZ4
    clear hp4 hz4 hl3 hl4 hlr hbl4 hsz4 hL3 hlt2 hW3 hK hb hw4 HW2 HL2 hbr hb3 hb4
    refine wp_loop (fun a' wr => ∃ (k : Nat) (ds : List Deferred) (bl : Nat) (own ownr : Nat → Prop) (g : St), ∃ u0 u1 u5 u6 u7 u8 u9 u10 u11 u12 u13 u14 u15 u16 u17 u18 u19 u20 u21 u22 u23 u24 u27 u28 u29 u30 u31 u32 u33 u34 u35 u36 u37 u38 u39 u40 u41 u42 u43 u44 u45 u46 u47 u48 u49 u50 u51 u52 u53 u54 u55 u56 u57 u58 u59 u60 u61 u62 u63 u64 u65 u66 u67 u68 u69 u70 u71 u72 u73 u74 u75 u76 u77 u78 u79 u80 u81 u82 u83 u84 u85 u86 u87 u88 u89 u90 u91 u92 u93 u94 u95 u96 u97 u98 u99 u100 u101 u102 u103 u104 u105 u106 u107 u108 u109 u110 u111 u112 u113 u114 u115 u116 u117 u118 u119 u120 u121 u122 u123 u124 u125 u126 u127 u128 u129 u130 u131 u132 u133 u134 u135 u136 u137 u138 u139 u140 u141 u142 u143 u144 u145 u146 u147 u148 u149 u150 u151 u152 u153 u154 u155 u156 u157 u158 u159 u160 u161 u162 u163 u164 u165 u166 u167 u168 u169 u170 u171 u172 u173 u174 u175 u176 u177 u178 u179 u180 u181 u182 u183 u184 u185 u186 u187 u188 u189 u190 u191 u192 u193 u194 u195 u196 u197 u198 u199 u200 u201 u202 u203 u204 u205 u206 u207 u208 u209 : Value, (k ≤ X.length ∧ u27 = .int .i64 (k : Int) ∧ Pz W wr own ownr bl br g g ∧ Bz W wr own ownr [(b3, 28, #[.pointer (some ⟨bl, 0, none⟩)]), (b4, 72, #[.pointer (some ⟨br, 0, none⟩)]), (W.heap.size, 4, #[.bool false])] ds ∧ Bd k g) ∧ a' = { tmps := #[u0, u1, .pointer (some ⟨W.heap.size, 0, none⟩), .pointer (some ⟨b3, 0, none⟩), .pointer (some ⟨b4, 0, none⟩), u5, u6, u7, u8, u9, u10, u11, u12, u13, u14, u15, u16, u17, u18, u19, u20, u21, u22, u23, u24, .slice s0 X.length cap0, .int .i64 (X.length : Int), u27, u28, u29, u30, u31, u32, u33, u34, u35, u36, u37, u38, u39, u40, u41, u42, u43, u44, u45, u46, u47, u48, u49, u50, u51, u52, u53, u54, u55, u56, u57, u58, u59, u60, u61, u62, u63, u64, u65, u66, u67, u68, u69, u70, u71, u72, u73, u74, u75, u76, u77, u78, u79, u80, u81, u82, u83, u84, u85, u86, u87, u88, u89, u90, u91, u92, u93, u94, u95, u96, u97, u98, u99, u100, u101, u102, u103, u104, u105, u106, u107, u108, u109, u110, u111, u112, u113, u114, u115, u116, u117, u118, u119, u120, u121, u122, u123, u124, u125, u126, u127, u128, u129, u130, u131, u132, u133, u134, u135, u136, u137, u138, u139, u140, u141, u142, u143, u144, u145, u146, u147, u148, u149, u150, u151, u152, u153, u154, u155, u156, u157, u158, u159, u160, u161, u162, u163, u164, u165, u166, u167, u168, u169, u170, u171, u172, u173, u174, u175, u176, u177, u178, u179, u180, u181, u182, u183, u184, u185, u186, u187, u188, u189, u190, u191, u192, u193, u194, u195, u196, u197, u198, u199, u200, u201, u202, u203, u204, u205, u206, u207, u208, u209], defers := ds }) (fun a' _ => X.length - (intOf (a'.tmps.getD 27 undef)).toNat) ?_ ?_
    · refine ⟨0, [], bl, own4, (fun i => i = br), St.nil, ?_⟩
      (repeat apply Exists.intro)
      refine ⟨?_, rfl⟩
      exact ⟨Nat.zero_le _, rfl, HP4.out, HZ4.out, Bd.nil⟩
    · clear HP4 HZ4
      intro a' wr hinv
      obtain ⟨k, ds, bl, own, ownr, g, hinv⟩ := hinv
      obtain ⟨u0, hinv⟩ := hinv
      obtain ⟨u1, hinv⟩ := hinv
      obtain ⟨u5, hinv⟩ := hinv
      obtain ⟨u6, hinv⟩ := hinv
      obtain ⟨u7, hinv⟩ := hinv
      obtain ⟨u8, hinv⟩ := hinv
      obtain ⟨u9, hinv⟩ := hinv
      obtain ⟨u10, hinv⟩ := hinv
      obtain ⟨u11, hinv⟩ := hinv
      obtain ⟨u12, hinv⟩ := hinv
      obtain ⟨u13, hinv⟩ := hinv
      obtain ⟨u14, hinv⟩ := hinv
      obtain ⟨u15, hinv⟩ := hinv
      obtain ⟨u16, hinv⟩ := hinv
      obtain ⟨u17, hinv⟩ := hinv
      obtain ⟨u18, hinv⟩ := hinv
      obtain ⟨u19, hinv⟩ := hinv
      obtain ⟨u20, hinv⟩ := hinv
      obtain ⟨u21, hinv⟩ := hinv
      obtain ⟨u22, hinv⟩ := hinv
      obtain ⟨u23, hinv⟩ := hinv
      obtain ⟨u24, hinv⟩ := hinv
      obtain ⟨u27, hinv⟩ := hinv
      obtain ⟨u28, hinv⟩ := hinv
      obtain ⟨u29, hinv⟩ := hinv
      obtain ⟨u30, hinv⟩ := hinv
      obtain ⟨u31, hinv⟩ := hinv
      obtain ⟨u32, hinv⟩ := hinv
      obtain ⟨u33, hinv⟩ := hinv
      obtain ⟨u34, hinv⟩ := hinv
      obtain ⟨u35, hinv⟩ := hinv
      obtain ⟨u36, hinv⟩ := hinv
      obtain ⟨u37, hinv⟩ := hinv
      obtain ⟨u38, hinv⟩ := hinv
      obtain ⟨u39, hinv⟩ := hinv
      obtain ⟨u40, hinv⟩ := hinv
      obtain ⟨u41, hinv⟩ := hinv
      obtain ⟨u42, hinv⟩ := hinv
      obtain ⟨u43, hinv⟩ := hinv
      obtain ⟨u44, hinv⟩ := hinv
      obtain ⟨u45, hinv⟩ := hinv
      obtain ⟨u46, hinv⟩ := hinv
      obtain ⟨u47, hinv⟩ := hinv
      obtain ⟨u48, hinv⟩ := hinv
      obtain ⟨u49, hinv⟩ := hinv
      obtain ⟨u50, hinv⟩ := hinv
      obtain ⟨u51, hinv⟩ := hinv
      obtain ⟨u52, hinv⟩ := hinv
      obtain ⟨u53, hinv⟩ := hinv
      obtain ⟨u54, hinv⟩ := hinv
      obtain ⟨u55, hinv⟩ := hinv
      obtain ⟨u56, hinv⟩ := hinv
      obtain ⟨u57, hinv⟩ := hinv
      obtain ⟨u58, hinv⟩ := hinv
      obtain ⟨u59, hinv⟩ := hinv
      obtain ⟨u60, hinv⟩ := hinv
      obtain ⟨u61, hinv⟩ := hinv
      obtain ⟨u62, hinv⟩ := hinv
      obtain ⟨u63, hinv⟩ := hinv
      obtain ⟨u64, hinv⟩ := hinv
      obtain ⟨u65, hinv⟩ := hinv
      obtain ⟨u66, hinv⟩ := hinv
      obtain ⟨u67, hinv⟩ := hinv
      obtain ⟨u68, hinv⟩ := hinv
      obtain ⟨u69, hinv⟩ := hinv
      obtain ⟨u70, hinv⟩ := hinv
      obtain ⟨u71, hinv⟩ := hinv
      obtain ⟨u72, hinv⟩ := hinv
      obtain ⟨u73, hinv⟩ := hinv
      obtain ⟨u74, hinv⟩ := hinv
      obtain ⟨u75, hinv⟩ := hinv
      obtain ⟨u76, hinv⟩ := hinv
      obtain ⟨u77, hinv⟩ := hinv
      obtain ⟨u78, hinv⟩ := hinv
      obtain ⟨u79, hinv⟩ := hinv
      obtain ⟨u80, hinv⟩ := hinv
      obtain ⟨u81, hinv⟩ := hinv
      obtain ⟨u82, hinv⟩ := hinv
      obtain ⟨u83, hinv⟩ := hinv
      obtain ⟨u84, hinv⟩ := hinv
      obtain ⟨u85, hinv⟩ := hinv
      obtain ⟨u86, hinv⟩ := hinv
      obtain ⟨u87, hinv⟩ := hinv
      obtain ⟨u88, hinv⟩ := hinv
      obtain ⟨u89, hinv⟩ := hinv
      obtain ⟨u90, hinv⟩ := hinv
      obtain ⟨u91, hinv⟩ := hinv
      obtain ⟨u92, hinv⟩ := hinv
      obtain ⟨u93, hinv⟩ := hinv
      obtain ⟨u94, hinv⟩ := hinv
      obtain ⟨u95, hinv⟩ := hinv
      obtain ⟨u96, hinv⟩ := hinv
      obtain ⟨u97, hinv⟩ := hinv
      obtain ⟨u98, hinv⟩ := hinv
      obtain ⟨u99, hinv⟩ := hinv
      obtain ⟨u100, hinv⟩ := hinv
      obtain ⟨u101, hinv⟩ := hinv
      obtain ⟨u102, hinv⟩ := hinv
      obtain ⟨u103, hinv⟩ := hinv
      obtain ⟨u104, hinv⟩ := hinv
      obtain ⟨u105, hinv⟩ := hinv
      obtain ⟨u106, hinv⟩ := hinv
      obtain ⟨u107, hinv⟩ := hinv
      obtain ⟨u108, hinv⟩ := hinv
      obtain ⟨u109, hinv⟩ := hinv
      obtain ⟨u110, hinv⟩ := hinv
      obtain ⟨u111, hinv⟩ := hinv
      obtain ⟨u112, hinv⟩ := hinv
      obtain ⟨u113, hinv⟩ := hinv
      obtain ⟨u114, hinv⟩ := hinv
      obtain ⟨u115, hinv⟩ := hinv
      obtain ⟨u116, hinv⟩ := hinv
      obtain ⟨u117, hinv⟩ := hinv
      obtain ⟨u118, hinv⟩ := hinv
      obtain ⟨u119, hinv⟩ := hinv
      obtain ⟨u120, hinv⟩ := hinv
      obtain ⟨u121, hinv⟩ := hinv
      obtain ⟨u122, hinv⟩ := hinv
      obtain ⟨u123, hinv⟩ := hinv
      obtain ⟨u124, hinv⟩ := hinv
      obtain ⟨u125, hinv⟩ := hinv
      obtain ⟨u126, hinv⟩ := hinv
      obtain ⟨u127, hinv⟩ := hinv
      obtain ⟨u128, hinv⟩ := hinv
      obtain ⟨u129, hinv⟩ := hinv
      obtain ⟨u130, hinv⟩ := hinv
      obtain ⟨u131, hinv⟩ := hinv
      obtain ⟨u132, hinv⟩ := hinv
      obtain ⟨u133, hinv⟩ := hinv
      obtain ⟨u134, hinv⟩ := hinv
      obtain ⟨u135, hinv⟩ := hinv
      obtain ⟨u136, hinv⟩ := hinv
      obtain ⟨u137, hinv⟩ := hinv
      obtain ⟨u138, hinv⟩ := hinv
      obtain ⟨u139, hinv⟩ := hinv
      obtain ⟨u140, hinv⟩ := hinv
      obtain ⟨u141, hinv⟩ := hinv
      obtain ⟨u142, hinv⟩ := hinv
      obtain ⟨u143, hinv⟩ := hinv
      obtain ⟨u144, hinv⟩ := hinv
      obtain ⟨u145, hinv⟩ := hinv
      obtain ⟨u146, hinv⟩ := hinv
      obtain ⟨u147, hinv⟩ := hinv
      obtain ⟨u148, hinv⟩ := hinv
      obtain ⟨u149, hinv⟩ := hinv
      obtain ⟨u150, hinv⟩ := hinv
      obtain ⟨u151, hinv⟩ := hinv
      obtain ⟨u152, hinv⟩ := hinv
      obtain ⟨u153, hinv⟩ := hinv
      obtain ⟨u154, hinv⟩ := hinv
      obtain ⟨u155, hinv⟩ := hinv
      obtain ⟨u156, hinv⟩ := hinv
      obtain ⟨u157, hinv⟩ := hinv
      obtain ⟨u158, hinv⟩ := hinv
      obtain ⟨u159, hinv⟩ := hinv
      obtain ⟨u160, hinv⟩ := hinv
      obtain ⟨u161, hinv⟩ := hinv
      obtain ⟨u162, hinv⟩ := hinv
      obtain ⟨u163, hinv⟩ := hinv
      obtain ⟨u164, hinv⟩ := hinv
      obtain ⟨u165, hinv⟩ := hinv
      obtain ⟨u166, hinv⟩ := hinv
      obtain ⟨u167, hinv⟩ := hinv
      obtain ⟨u168, hinv⟩ := hinv
      obtain ⟨u169, hinv⟩ := hinv
      obtain ⟨u170, hinv⟩ := hinv
      obtain ⟨u171, hinv⟩ := hinv
      obtain ⟨u172, hinv⟩ := hinv
      obtain ⟨u173, hinv⟩ := hinv
      obtain ⟨u174, hinv⟩ := hinv
      obtain ⟨u175, hinv⟩ := hinv
      obtain ⟨u176, hinv⟩ := hinv
      obtain ⟨u177, hinv⟩ := hinv
      obtain ⟨u178, hinv⟩ := hinv
      obtain ⟨u179, hinv⟩ := hinv
      obtain ⟨u180, hinv⟩ := hinv
      obtain ⟨u181, hinv⟩ := hinv
      obtain ⟨u182, hinv⟩ := hinv
      obtain ⟨u183, hinv⟩ := hinv
      obtain ⟨u184, hinv⟩ := hinv
      obtain ⟨u185, hinv⟩ := hinv
      obtain ⟨u186, hinv⟩ := hinv
      obtain ⟨u187, hinv⟩ := hinv
      obtain ⟨u188, hinv⟩ := hinv
      obtain ⟨u189, hinv⟩ := hinv
      obtain ⟨u190, hinv⟩ := hinv
      obtain ⟨u191, hinv⟩ := hinv
      obtain ⟨u192, hinv⟩ := hinv
      obtain ⟨u193, hinv⟩ := hinv
      obtain ⟨u194, hinv⟩ := hinv
      obtain ⟨u195, hinv⟩ := hinv
      obtain ⟨u196, hinv⟩ := hinv
      obtain ⟨u197, hinv⟩ := hinv
      obtain ⟨u198, hinv⟩ := hinv
      obtain ⟨u199, hinv⟩ := hinv
      obtain ⟨u200, hinv⟩ := hinv
      obtain ⟨u201, hinv⟩ := hinv
      obtain ⟨u202, hinv⟩ := hinv
      obtain ⟨u203, hinv⟩ := hinv
      obtain ⟨u204, hinv⟩ := hinv
      obtain ⟨u205, hinv⟩ := hinv
      obtain ⟨u206, hinv⟩ := hinv
      obtain ⟨u207, hinv⟩ := hinv
      obtain ⟨u208, hinv⟩ := hinv
      obtain ⟨u209, hinv⟩ := hinv
      obtain ⟨⟨hk, hu, hp, hz, hbd⟩, ha⟩ := hinv
      subst hu ha
      (try dsimp only)
      have HP := Lib.hid hp
      have HZ := Lib.hid hz
      have HBD := Lib.hid hbd
      clear hp hz hbd
      by_cases hlt : k < X.length
      · obtain ⟨x, hx⟩ : ∃ x, X[k]? = some x := ⟨_, List.getElem?_eq_getElem hlt⟩
        obtain ⟨b, off, rfl, hbl, hat⟩ := HS0.out (by intro e; simp [e] at hlt)
        obtain ⟨⟨hby, _⟩, ⟨hby2, _⟩⟩ := HB0.out x (List.mem_of_getElem? hx)
        obtain ⟨hlk, hlv⟩ := HL0.out x (List.mem_of_getElem? hx)
        have hd := (hat k x hx).below HP.out.below hbl
        clear hat hx
        obtain ⟨xk, xa, xkv, xkey, xvv, xval, xn⟩ := x
        obtain ⟨sx, cx, hvx⟩ : ∃ sx cx, xkv = .slice sx xkey.length cx := by obtain ⟨s, c, e, _⟩ := hby; exact ⟨s, c, e⟩
        obtain ⟨sy, cy, hvy⟩ : ∃ sx cx, xvv = .slice sx xval.length cx := by obtain ⟨s, c, e, _⟩ := hby2; exact ⟨s, c, e⟩
        subst hvx hvy
        replace hlk : xkey.length ≤ 30000 := hlk
        replace hlv : xval.length ≤ 30000 := hlv
        have HD := Lib.hid hd
        have HBK := Lib.hid (show Byt W (.slice sx xkey.length cx) xkey from hby)
        have HBV := Lib.hid (show Byt W (.slice sy xval.length cy) xval from hby2)
        clear hd hby hby2
        go_upto_region 9 with (first | (refine wk_load _ _ _ HD.out _ rfl rfl rfl ?_; simp only [Kdo.cs, Act.put, List.setIfInBounds_toArray, List.set_cons_zero, List.set_cons_succ]) | (refine wk_store ⟨xk, xa, .slice sx xkey.length cx, xkey, .slice sy xval.length cy, xval, xn⟩ rfl rfl _ _ rfl rfl rfl rfl rfl ?_; simp only [Kdo.cs, Act.put]))
        obtain ⟨W1, hW1⟩ : ∃ W1, W1 = wr.alloc (.cells (Kdo.cs ⟨xk, xa, .slice sx xkey.length cx, xkey, .slice sy xval.length cy, xval, xn⟩).toArray 31) := ⟨_, rfl⟩
        have hb1 : Below wr.heap.size wr W1 := hW1 ▸ (Below.refl _ _).alloc (Nat.le_refl _) _
        have hlx : Lies W1 wr.heap.size 31 (Kdo.cs ⟨xk, xa, .slice sx xkey.length cx, xkey, .slice sy xval.length cy, xval, xn⟩).toArray := hW1 ▸ Lies.new wr _ _
        rw [show wr.alloc (.cells #[.int .i64 xk, .int .u8 xa.x0.toNat, .int .u8 xa.x1.toNat, .int .u8 xa.x2.toNat, .int .u8 xa.x3.toNat, .int .u8 xa.x4.toNat, .int .u8 xa.x5.toNat, .int .u8 xa.x6.toNat, .int .u8 xa.x7.toNat, .slice sx xkey.length cx, .slice sy xval.length cy, .int .i64 xn] 31) = W1 from hW1.symm]
        have HP1 := Lib.hid (HP.out.later hb1)
        have HZ1 := Lib.hid (HZ.out.add (Keep.below hb1 own ownr) (HP.out.fresh (Nat.le_refl _) hlx.lt) hlx (Nat.le_refl _) HP.out.below.size)
        clear hb1 hlx hW1 HD HP HZ
        generalize wr.heap.size = dx at HZ1 ⊢
        obtain ⟨d0, d1, d2, d3, d4, d5, d6, d7, d8, d9, d10, d11⟩ := lies_kdo (HZ1.out.lies List.mem_cons_self)
        go_upto_block 2 with fail
        clear d0 d1 d2 d3 d4 d5 d6 d7 d8 d9 d10 d11
        refine wp_cut (fun a' wx => ∃ (ds : List Deferred) (bl : Nat) (own ownr : Nat → Prop) (g : St), ∃ u0 u1 u5 u7 u8 u9 u10 u11 u12 u13 u14 u15 u16 u17 u18 u19 u20 u21 u22 u23 u24 u28 u29 u30 u31 u32 u33 u34 u35 u36 u37 u38 u39 u40 u41 u42 u43 u44 u45 u46 u47 u48 u49 u50 u51 u52 u53 u54 u55 u56 u57 u58 u59 u60 u61 u62 u63 u64 u65 u66 u67 u68 u69 u70 u71 u72 u73 u74 u75 u76 u77 u78 u79 u80 u81 u82 u83 u84 u85 u86 u87 u88 u89 u90 u91 u92 u93 u94 u95 u96 u97 u98 u99 u100 u101 u102 u103 u104 u105 u106 u107 u108 u109 u110 u111 u112 u113 u114 u115 u116 u117 u118 u119 u120 u121 u122 u123 u124 u125 u126 u127 u128 u129 u130 u131 u132 u133 u134 u135 u136 u137 u138 u139 u140 u141 u142 u143 u144 u145 u146 u147 u148 u149 u150 u151 u152 u153 u154 u155 u156 u157 u158 u159 u160 u161 u162 u163 u164 u165 u166 u167 u168 u169 u170 u171 u172 u173 u174 u175 u176 u177 u178 u179 u180 u181 u182 u183 u184 u185 u186 u187 u188 u189 u190 u191 u192 u193 u194 u195 u196 u197 u198 u199 u200 u201 u202 u203 u204 u205 u206 u207 u208 u209 : Value, (Pz W wx own ownr bl br g g ∧ Bz W wx own ownr ((dx, 31, (Kdo.cs ⟨xk, xa, .slice sx xkey.length cx, xkey, .slice sy xval.length cy, xval, xn⟩).toArray) :: [(b3, 28, #[.pointer (some ⟨bl, 0, none⟩)]), (b4, 72, #[.pointer (some ⟨br, 0, none⟩)]), (W.heap.size, 4, #[.bool false])]) ds ∧ Bd (k + 1) g) ∧ a' = { tmps := #[u0, u1, .pointer (some ⟨W.heap.size, 0, none⟩), .pointer (some ⟨b3, 0, none⟩), .pointer (some ⟨b4, 0, none⟩), u5, .pointer (some ⟨dx, 0, none⟩), u7, u8, u9, u10, u11, u12, u13, u14, u15, u16, u17, u18, u19, u20, u21, u22, u23, u24, .slice (some ⟨b, off, none⟩) X.length cap0, .int .i64 (X.length : Int), .int .i64 (k : Int), u28, u29, u30, u31, u32, u33, u34, u35, u36, u37, u38, u39, u40, u41, u42, u43, u44, u45, u46, u47, u48, u49, u50, u51, u52, u53, u54, u55, u56, u57, u58, u59, u60, u61, u62, u63, u64, u65, u66, u67, u68, u69, u70, u71, u72, u73, u74, u75, u76, u77, u78, u79, u80, u81, u82, u83, u84, u85, u86, u87, u88, u89, u90, u91, u92, u93, u94, u95, u96, u97, u98, u99, u100, u101, u102, u103, u104, u105, u106, u107, u108, u109, u110, u111, u112, u113, u114, u115, u116, u117, u118, u119, u120, u121, u122, u123, u124, u125, u126, u127, u128, u129, u130, u131, u132, u133, u134, u135, u136, u137, u138, u139, u140, u141, u142, u143, u144, u145, u146, u147, u148, u149, u150, u151, u152, u153, u154, u155, u156, u157, u158, u159, u160, u161, u162, u163, u164, u165, u166, u167, u168, u169, u170, u171, u172, u173, u174, u175, u176, u177, u178, u179, u180, u181, u182, u183, u184, u185, u186, u187, u188, u189, u190, u191, u192, u193, u194, u195, u196, u197, u198, u199, u200, u201, u202, u203, u204, u205, u206, u207, u208, u209], defers := ds }) ?rest ?first
        case first =>
          intro _ _ _ _
          have hkinds : xk = 0 ∨ xk = 1 ∨ xk = 2 ∨ xk = 3 ∨ xk = 4 ∨ (xk ≠ 0 ∧ xk ≠ 1 ∧ xk ≠ 2 ∧ xk ≠ 3 ∧ xk ≠ 4) := by omega
          rcases hkinds with rfl | rfl | rfl | rfl | rfl | ⟨m0, m1, m2, m3, m4⟩
          · as_aux_lemma =>
              obtain ⟨d0, d1, d2, d3, d4, d5, d6, d7, d8, d9, d10, d11⟩ := lies_kdo (HZ1.out.lies List.mem_cons_self)
              have q3 := (HZ1.out.lies (List.mem_cons_of_mem _ List.mem_cons_self)).cell 0
              have q4 := (HZ1.out.lies (List.mem_cons_of_mem _ (List.mem_cons_of_mem _ List.mem_cons_self))).cell 0
              simp only [List.getElem?_toArray, List.getElem?_cons_zero] at q3 q4
              go_wp2_with fail
              clear d0 d1 d2 d3 d4 d5 d6 d7 d8 d9 d10 d11 q3 q4
              obtain ⟨er, her⟩ : ∃ er : Nat, (if 64 < xkey.length ∨ 1024 < xval.length then 3 else 0) = er := ⟨_, rfl⟩
              obtain ⟨g1, hg1⟩ : ∃ g1, (if 64 < xkey.length ∨ 1024 < xval.length then g else g.put xa xkey (some xval)) = g1 := ⟨_, rfl⟩
              have HBD1 := Lib.hid (show Bd (k + 1) g1 from by
                rw [← hg1]
                split
                · exact HBD.out.mono (by omega)
                · exact HBD.out.put xa (by omega) (by omega))
              have HER := Lib.hid her
              have HG1 := Lib.hid hg1
              clear her hg1
              refine regionN (RP.take 0 (RP.take 1 (RP.take 3 (RP.take 4 (RP.run 2 (RP.run 5 (RP.take 6 (RP.take 7 RP.done)))))))) (fun w' => Lies w' dx 31 (Kdo.cs ⟨0, xa, .slice sx xkey.length cx, xkey, .slice sy xval.length cy, xval, xn⟩).toArray) (by as_aux_lemma => kernel_rfl) (by as_aux_lemma => kernel_rfl) (HZ1.out.lies List.mem_cons_self).drew (fun hS => ?_)
              have HP2 := Lib.hid (HP1.out.later (Below.refl _ _).drew)
              have HZ2 := Lib.hid (HZ1.out.later (Below.refl _ _).drew)
              generalize W1.drew = V at hS HP2 HZ2 ⊢
              clear HP1 HZ1
              repeat (first | (refine RP.t_take (v := ?_) rfl rfl (fun w' hw' => ?_) ?_; rotate_left; (focus ((have hxf := hw'; obtain ⟨d0, d1, d2, d3, d4, d5, d6, d7, d8, d9, d10, d11⟩ := lies_kdo hxf); go_simp; (try go_bits); (try (with_reducible rfl)))); (try simp only [Act.put, List.setIfInBounds_toArray, List.set_cons_zero, List.set_cons_succ])) | (refine RP.t_skip rfl rfl ?_; (try simp only [Act.put, List.setIfInBounds_toArray, List.set_cons_zero, List.set_cons_succ])))
              refine RP.t_run rfl (fun KK hKK => ?_)
              go_simp
              refine (sclone_any (HBK.out.later HP2.out.below) (by omega)).mono ?_
              rintro ex V1 ⟨v5, rfl, ht5, hb5⟩
              obtain ⟨s5, c5, rfl⟩ := ht5.form
              have HT5 := Lib.hid (HP2.out.mine ht5)
              have HM5 := Lib.hid (show ∀ i, some i = (Value.slice s5 xkey.length c5).ownBlock → V.heap.size ≤ i ∧ i < V1.heap.size from fun i e => made_block ht5 e)
              have HLO5 := Lib.hid (show ∀ i, some i = (Value.slice s5 xkey.length c5).ownBlock → W.heap.size ≤ i from fun i e => Nat.le_trans HP2.out.below.size (made_block ht5 e).1)
              have HP3 := Lib.hid (HP2.out.later hb5)
              have HZ3 := Lib.hid (HZ2.out.later hb5)
              replace hS := hS.below hb5 hS.lt
              refine hKK.out _ _ hS ?_
              clear hKK KK ht5 hb5 HP2 HZ2
              (try simp only [Act.put, List.setIfInBounds_toArray, List.set_cons_zero, List.set_cons_succ])
              repeat (first | (refine RP.t_take (v := ?_) rfl rfl (fun w' hw' => ?_) ?_; rotate_left; (focus ((have hxf := hw'; obtain ⟨d0, d1, d2, d3, d4, d5, d6, d7, d8, d9, d10, d11⟩ := lies_kdo hxf); go_simp; (try go_bits); (try (with_reducible rfl)))); (try simp only [Act.put, List.setIfInBounds_toArray, List.set_cons_zero, List.set_cons_succ])) | (refine RP.t_skip rfl rfl ?_; (try simp only [Act.put, List.setIfInBounds_toArray, List.set_cons_zero, List.set_cons_succ])))
              refine RP.t_run rfl (fun KK hKK => ?_)
              go_simp
              refine (sclone_any (HBV.out.later HP3.out.below) (by omega)).mono ?_
              rintro ex V2 ⟨v6, rfl, ht6, hb6⟩
              obtain ⟨s6, c6, rfl⟩ := ht6.form
              have HT6 := Lib.hid (HP3.out.mine ht6)
              have HNE := Lib.hid (show ∀ i, some i = (Value.slice s6 xval.length c6).ownBlock → ¬ some i = (Value.slice s5 xkey.length c5).ownBlock from fun i e e' => by have := (made_block ht6 e).1; have := (HM5.out i e').2; omega)
              have HLO6 := Lib.hid (show ∀ i, some i = (Value.slice s6 xval.length c6).ownBlock → W.heap.size ≤ i from fun i e => Nat.le_trans HP3.out.below.size (made_block ht6 e).1)
              have HT5b := Lib.hid ((Keep.below hb6 own ownr).mine HT5.out)
              have HP4 := Lib.hid (HP3.out.later hb6)
              have HZ4 := Lib.hid (HZ3.out.later hb6)
              replace hS := hS.below hb6 hS.lt
              refine hKK.out _ _ hS ?_
              clear hKK KK ht6 hb6 HP3 HZ3 HT5 HM5
              (try simp only [Act.put, List.setIfInBounds_toArray, List.set_cons_zero, List.set_cons_succ])
              repeat (first | (refine RP.t_take (v := ?_) rfl rfl (fun w' hw' => ?_) ?_; rotate_left; (focus ((have hxf := hw'; obtain ⟨d0, d1, d2, d3, d4, d5, d6, d7, d8, d9, d10, d11⟩ := lies_kdo hxf); go_simp; (try go_bits); (try (with_reducible rfl)))); (try simp only [Act.put, List.setIfInBounds_toArray, List.set_cons_zero, List.set_cons_succ])) | (refine RP.t_skip rfl rfl ?_; (try simp only [Act.put, List.setIfInBounds_toArray, List.set_cons_zero, List.set_cons_succ])))
              refine RP.t_done ⟨rfl, ?_⟩
              clear hS
              go_wp2_with fail
              refine regionN (RP.take 0 (RP.take 1 (RP.take 2 (RP.take 3 (RP.take 4 (RP.take 6 (RP.take 7 (RP.take 8 (RP.take 9 (RP.take 10 (RP.take 11 (RP.take 12 (RP.run 5 (RP.run 13 (RP.take 14 RP.done))))))))))))))) (fun w' => Lies w' dx 31 (Kdo.cs ⟨0, xa, .slice sx xkey.length cx, xkey, .slice sy xval.length cy, xval, xn⟩).toArray ∧ Lies w' b3 28 #[.pointer (some ⟨bl, 0, none⟩)] ∧ Lies w' b4 72 #[.pointer (some ⟨br, 0, none⟩)]) (by as_aux_lemma => kernel_rfl) (by as_aux_lemma => kernel_rfl) ⟨HZ4.out.lies List.mem_cons_self, HZ4.out.lies (List.mem_cons_of_mem _ List.mem_cons_self), HZ4.out.lies (List.mem_cons_of_mem _ (List.mem_cons_of_mem _ List.mem_cons_self))⟩ (fun hS => ?_)
              have HP5 := Lib.hid (HP4.out.later (Below.refl _ _).drew)
              have HZ5 := Lib.hid (HZ4.out.later (Below.refl _ _).drew)
              have HT5 := Lib.hid ((Keep.below (Below.refl _ _).drew own ownr).mine HT5b.out)
              have HT6b := Lib.hid ((Keep.below (Below.refl _ _).drew own ownr).mine HT6.out)
              generalize V2.drew = V3 at hS HP5 HZ5 HT5 HT6b ⊢
              clear HP4 HZ4 HT5b HT6
              repeat (first | (refine RP.t_take (v := ?_) rfl rfl (fun w' hw' => ?_) ?_; rotate_left; (focus ((obtain ⟨hxf, h3f, h4f⟩ := hw'; have q3 := h3f.cell 0; have q4 := h4f.cell 0; simp only [List.getElem?_toArray, List.getElem?_cons_zero] at q3 q4; obtain ⟨d0, d1, d2, d3, d4, d5, d6, d7, d8, d9, d10, d11⟩ := lies_kdo hxf); go_simp; (try go_bits); (try (with_reducible rfl)))); (try simp only [Act.put, List.setIfInBounds_toArray, List.set_cons_zero, List.set_cons_succ])) | (refine RP.t_skip rfl rfl ?_; (try simp only [Act.put, List.setIfInBounds_toArray, List.set_cons_zero, List.set_cons_succ])))
              refine RP.t_run rfl (fun KK hKK => ?_)
              go_simp
              have hc := pz_put HP5.out xa HT5.out.by HT6b.out.by
              rw [HER.out, HG1.out] at hc
              replace hc := Lib.hid hc
              refine hc.out.mono ?_
              rintro ex V4 ⟨own5, rfl, hp, hk⟩
              have HP6 := Lib.hid hp
              have HZ6 := Lib.hid (HZ5.out.keep hk)
              have HT5c := Lib.hid (hk.mine HT5.out)
              have HT6c := Lib.hid (hk.mine HT6b.out)
              refine hKK.out _ _ ⟨HZ6.out.lies List.mem_cons_self, HZ6.out.lies (List.mem_cons_of_mem _ List.mem_cons_self), HZ6.out.lies (List.mem_cons_of_mem _ (List.mem_cons_of_mem _ List.mem_cons_self))⟩ ?_
              clear hKK KK hc hp hk hS HP5 HZ5 HT5 HT6b
              (try simp only [Act.put, List.setIfInBounds_toArray, List.set_cons_zero, List.set_cons_succ])
              repeat (first | (refine RP.t_take (v := ?_) rfl rfl (fun w' hw' => ?_) ?_; rotate_left; (focus ((obtain ⟨hxf, h3f, h4f⟩ := hw'; have q3 := h3f.cell 0; have q4 := h4f.cell 0; simp only [List.getElem?_toArray, List.getElem?_cons_zero] at q3 q4; obtain ⟨d0, d1, d2, d3, d4, d5, d6, d7, d8, d9, d10, d11⟩ := lies_kdo hxf); go_simp; (try go_bits); (try (with_reducible rfl)))); (try simp only [Act.put, List.setIfInBounds_toArray, List.set_cons_zero, List.set_cons_succ])) | (refine RP.t_skip rfl rfl ?_; (try simp only [Act.put, List.setIfInBounds_toArray, List.set_cons_zero, List.set_cons_succ])))
              refine RP.t_run rfl (fun KK hKK => ?_)
              go_simp
              have hc := pz_dput HP6.out HBD.out (by omega) xa (HBK.out.later HP6.out.below) (HBV.out.later HP6.out.below)
              rw [HER.out, HG1.out] at hc
              replace hc := Lib.hid hc
              refine hc.out.mono ?_
              rintro ex V5 ⟨ownr5, rfl, hp, hk⟩
              have HP7 := Lib.hid hp
              have HZ7 := Lib.hid (HZ6.out.keep hk)
              have HT5d := Lib.hid (hk.mine HT5c.out)
              have HT6d := Lib.hid (hk.mine HT6c.out)
              refine hKK.out _ _ ⟨HZ7.out.lies List.mem_cons_self, HZ7.out.lies (List.mem_cons_of_mem _ List.mem_cons_self), HZ7.out.lies (List.mem_cons_of_mem _ (List.mem_cons_of_mem _ List.mem_cons_self))⟩ ?_
              clear hKK KK hc hp hk HP6 HZ6 HT5c HT6c
              (try simp only [Act.put, List.setIfInBounds_toArray, List.set_cons_zero, List.set_cons_succ])
              repeat (first | (refine RP.t_take (v := ?_) rfl rfl (fun w' hw' => ?_) ?_; rotate_left; (focus ((obtain ⟨hxf, h3f, h4f⟩ := hw'; have q3 := h3f.cell 0; have q4 := h4f.cell 0; simp only [List.getElem?_toArray, List.getElem?_cons_zero] at q3 q4; obtain ⟨d0, d1, d2, d3, d4, d5, d6, d7, d8, d9, d10, d11⟩ := lies_kdo hxf); go_simp; (try go_bits); (try (with_reducible rfl)))); (try simp only [Act.put, List.setIfInBounds_toArray, List.set_cons_zero, List.set_cons_succ])) | (refine RP.t_skip rfl rfl ?_; (try simp only [Act.put, List.setIfInBounds_toArray, List.set_cons_zero, List.set_cons_succ])))
              refine RP.t_done ⟨rfl, ?_⟩
              go_wp2_with (first | (refine wl_clear HT5d.out _ rfl rfl rfl (fun w7 hf7 => ?_); (have HP8 := Lib.hid (HP7.out.clear HT5d.out HLO5.out hf7)); (have HZ8 := Lib.hid (HZ7.out.clear HT5d.out hf7 (by simp))); (have HT6e := Lib.hid (HT6d.out.aside hf7 HNE.out)); clear hf7 HT5d HP7 HZ7 HT6d; simp only [Act.put]) | (refine wl_clear HT6e.out _ rfl rfl rfl (fun w8 hf8 => ?_); (have HP9 := Lib.hid (HP8.out.clear HT6e.out HLO6.out hf8)); (have HZ9 := Lib.hid (HZ8.out.clear HT6e.out hf8 (by simp))); clear hf8 HT6e HP8 HZ8; simp only [Act.put]))
              refine Met.intro ?_
              go_step
              refine ⟨ds, bl, own5, ownr5, g1, ?_⟩
              (repeat apply Exists.intro)
              exact ⟨⟨HP9.out, HZ9.out, HBD1.out⟩, rfl⟩
          · as_aux_lemma =>
              obtain ⟨d0, d1, d2, d3, d4, d5, d6, d7, d8, d9, d10, d11⟩ := lies_kdo (HZ1.out.lies List.mem_cons_self)
              have q3 := (HZ1.out.lies (List.mem_cons_of_mem _ List.mem_cons_self)).cell 0
              have q4 := (HZ1.out.lies (List.mem_cons_of_mem _ (List.mem_cons_of_mem _ List.mem_cons_self))).cell 0
              simp only [List.getElem?_toArray, List.getElem?_cons_zero] at q3 q4
              obtain ⟨q, hq⟩ : ∃ q, (g xa xkey).isSome = q := ⟨_, rfl⟩
              have HQ := Lib.hid hq
              clear hq
              go_wp2_with fail
              clear d0 d1 d2 d3 d4 d5 d6 d7 d8 d9 d10 d11 q3 q4
              refine regionN (RP.take 0 (RP.take 1 (RP.take 2 (RP.take 3 (RP.take 4 (RP.take 6 (RP.take 7 (RP.take 8 (RP.take 9 (RP.take 10 (RP.run 5 (RP.run 11 (RP.take 12 RP.done))))))))))))) (fun w' => Lies w' dx 31 (Kdo.cs ⟨1, xa, .slice sx xkey.length cx, xkey, .slice sy xval.length cy, xval, xn⟩).toArray ∧ Lies w' b3 28 #[.pointer (some ⟨bl, 0, none⟩)] ∧ Lies w' b4 72 #[.pointer (some ⟨br, 0, none⟩)]) (by as_aux_lemma => kernel_rfl) (by as_aux_lemma => kernel_rfl) ⟨HZ1.out.lies List.mem_cons_self, HZ1.out.lies (List.mem_cons_of_mem _ List.mem_cons_self), HZ1.out.lies (List.mem_cons_of_mem _ (List.mem_cons_of_mem _ List.mem_cons_self))⟩ (fun hS => ?_)
              have HP2 := Lib.hid (HP1.out.later (Below.refl _ _).drew)
              have HZ2 := Lib.hid (HZ1.out.later (Below.refl _ _).drew)
              generalize W1.drew = V at hS HP2 HZ2 ⊢
              clear HP1 HZ1
              repeat (first | (refine RP.t_take (v := ?_) rfl rfl (fun w' hw' => ?_) ?_; rotate_left; (focus ((obtain ⟨hxf, h3f, h4f⟩ := hw'; have q3 := h3f.cell 0; have q4 := h4f.cell 0; simp only [List.getElem?_toArray, List.getElem?_cons_zero] at q3 q4; obtain ⟨d0, d1, d2, d3, d4, d5, d6, d7, d8, d9, d10, d11⟩ := lies_kdo hxf); go_simp; (try go_bits); (try (with_reducible rfl)))); (try simp only [Act.put, List.setIfInBounds_toArray, List.set_cons_zero, List.set_cons_succ])) | (refine RP.t_skip rfl rfl ?_; (try simp only [Act.put, List.setIfInBounds_toArray, List.set_cons_zero, List.set_cons_succ])))
              refine RP.t_run rfl (fun KK hKK => ?_)
              go_simp
              have hc := pz_del HP2.out HBD.out xa (HBK.out.later HP2.out.below) (by unfold maxLen; omega)
              rw [HQ.out] at hc
              replace hc := Lib.hid hc
              refine hc.out.mono ?_
              rintro ex V1 ⟨own5, rfl, hp, hk, _⟩
              have HP3 := Lib.hid hp
              have HZ3 := Lib.hid (HZ2.out.keep hk)
              refine hKK.out _ _ ⟨HZ3.out.lies List.mem_cons_self, HZ3.out.lies (List.mem_cons_of_mem _ List.mem_cons_self), HZ3.out.lies (List.mem_cons_of_mem _ (List.mem_cons_of_mem _ List.mem_cons_self))⟩ ?_
              clear hKK KK hc hp hk hS HP2 HZ2
              (try simp only [Act.put, List.setIfInBounds_toArray, List.set_cons_zero, List.set_cons_succ])
              repeat (first | (refine RP.t_take (v := ?_) rfl rfl (fun w' hw' => ?_) ?_; rotate_left; (focus ((obtain ⟨hxf, h3f, h4f⟩ := hw'; have q3 := h3f.cell 0; have q4 := h4f.cell 0; simp only [List.getElem?_toArray, List.getElem?_cons_zero] at q3 q4; obtain ⟨d0, d1, d2, d3, d4, d5, d6, d7, d8, d9, d10, d11⟩ := lies_kdo hxf); go_simp; (try go_bits); (try (with_reducible rfl)))); (try simp only [Act.put, List.setIfInBounds_toArray, List.set_cons_zero, List.set_cons_succ])) | (refine RP.t_skip rfl rfl ?_; (try simp only [Act.put, List.setIfInBounds_toArray, List.set_cons_zero, List.set_cons_succ])))
              refine RP.t_run rfl (fun KK hKK => ?_)
              go_simp
              have hc := pz_ddel HP3.out HBD.out (by omega) xa (HBK.out.later HP3.out.below)
              rw [HQ.out] at hc
              replace hc := Lib.hid hc
              refine hc.out.mono ?_
              rintro ex V2 ⟨ownr5, rfl, hp, hk, _⟩
              have HP4 := Lib.hid hp
              have HZ4 := Lib.hid (HZ3.out.keep hk)
              have HBD1 := Lib.hid ((HBD.out.del xa xkey).mono (by omega : k ≤ k + 1))
              refine hKK.out _ _ ⟨HZ4.out.lies List.mem_cons_self, HZ4.out.lies (List.mem_cons_of_mem _ List.mem_cons_self), HZ4.out.lies (List.mem_cons_of_mem _ (List.mem_cons_of_mem _ List.mem_cons_self))⟩ ?_
              clear hKK KK hc hp hk HP3 HZ3
              (try simp only [Act.put, List.setIfInBounds_toArray, List.set_cons_zero, List.set_cons_succ])
              repeat (first | (refine RP.t_take (v := ?_) rfl rfl (fun w' hw' => ?_) ?_; rotate_left; (focus ((obtain ⟨hxf, h3f, h4f⟩ := hw'; have q3 := h3f.cell 0; have q4 := h4f.cell 0; simp only [List.getElem?_toArray, List.getElem?_cons_zero] at q3 q4; obtain ⟨d0, d1, d2, d3, d4, d5, d6, d7, d8, d9, d10, d11⟩ := lies_kdo hxf); go_simp; (try go_bits); (try (with_reducible rfl)))); (try simp only [Act.put, List.setIfInBounds_toArray, List.set_cons_zero, List.set_cons_succ])) | (refine RP.t_skip rfl rfl ?_; (try simp only [Act.put, List.setIfInBounds_toArray, List.set_cons_zero, List.set_cons_succ])))
              refine RP.t_done ⟨rfl, ?_⟩
              go_wp2_with fail
              refine Met.intro ?_
              go_step
              refine ⟨ds, bl, own5, ownr5, (g.put xa xkey none), ?_⟩
              (repeat apply Exists.intro)
              exact ⟨⟨HP4.out, HZ4.out, HBD1.out⟩, rfl⟩
          · as_aux_lemma =>
              obtain ⟨d0, d1, d2, d3, d4, d5, d6, d7, d8, d9, d10, d11⟩ := lies_kdo (HZ1.out.lies List.mem_cons_self)
              have q3 := (HZ1.out.lies (List.mem_cons_of_mem _ List.mem_cons_self)).cell 0
              have q4 := (HZ1.out.lies (List.mem_cons_of_mem _ (List.mem_cons_of_mem _ List.mem_cons_self))).cell 0
              simp only [List.getElem?_toArray, List.getElem?_cons_zero] at q3 q4
              obtain ⟨q, hq⟩ : ∃ q, (g xa xkey).isSome = q := ⟨_, rfl⟩
              obtain ⟨wb, hwb⟩ : ∃ wb, (g xa xkey).getD [] = wb := ⟨_, rfl⟩
              have hc := sto_get HP1.out.s HBD.out xa (HBK.out.later HP1.out.below) (by unfold maxLen; omega)
              have hc2 := fun w (h : Pz W w own ownr bl br g g) => dto_get h.d HBD.out (by omega) xa (HBK.out.later h.below)
              rw [hq, hwb] at hc
              simp only [hq, hwb] at hc2
              have HC := Lib.hid hc
              have HC2 := Lib.hid hc2
              clear hc hc2 hq hwb
              go_wp2_with fail
              refine HC.out.mono ?_
              rintro ex V1 ⟨v5, rfl, ht5, hb5⟩
              (try dsimp only)
              obtain ⟨s5, c5, rfl⟩ := ht5.form
              have HT5 := Lib.hid (HP1.out.mine ht5)
              have HLO5 := Lib.hid (show ∀ i, some i = (Value.slice s5 wb.length c5).ownBlock → W.heap.size ≤ i from fun i e => Nat.le_trans HP1.out.below.size (made_block ht5 e).1)
              have HP2 := Lib.hid (HP1.out.later hb5)
              have HZ2 := Lib.hid (HZ1.out.later hb5)
              clear ht5 hb5 HC HP1 HZ1 d0 d1 d2 d3 d4 d5 d6 d7 d8 d9 d10 d11 q3 q4
              obtain ⟨d0, d1, d2, d3, d4, d5, d6, d7, d8, d9, d10, d11⟩ := lies_kdo (HZ2.out.lies List.mem_cons_self)
              have q3 := (HZ2.out.lies (List.mem_cons_of_mem _ List.mem_cons_self)).cell 0
              have q4 := (HZ2.out.lies (List.mem_cons_of_mem _ (List.mem_cons_of_mem _ List.mem_cons_self))).cell 0
              simp only [List.getElem?_toArray, List.getElem?_cons_zero] at q3 q4
              go_wp2_with fail
              refine (HC2.out _ HP2.out).mono ?_
              rintro ex V2 ⟨v6, rfl, ht6, hb6⟩
              (try dsimp only)
              obtain ⟨s6, c6, rfl⟩ : ∃ s c, v6 = .slice s wb.length c := by obtain ⟨s, c, e, _⟩ := ht6; exact ⟨s, c, e⟩
              have HT6 := Lib.hid ((Keep.below hb6 own ownr).mine HT5.out)
              have HP3 := Lib.hid (HP2.out.later hb6)
              have HZ3 := Lib.hid (HZ2.out.later hb6)
              have kx := Byt.conv HT6.out.by
              have ky := Byt.conv ht6
              clear ht6 hb6 HC2 HP2 HZ2 HT5 d0 d1 d2 d3 d4 d5 d6 d7 d8 d9 d10 d11 q3 q4
              go_wp2_with (refine wl_clear HT6.out _ rfl rfl rfl (fun w7 hf7 => ?_); (have HP4 := Lib.hid (HP3.out.clear HT6.out HLO5.out hf7)); (have HZ4 := Lib.hid (HZ3.out.clear HT6.out hf7 (by simp))); clear hf7 HT6 HP3 HZ3 kx ky; simp only [Act.put])
              refine Met.intro ?_
              go_step
              refine ⟨ds, bl, own, ownr, g, ?_⟩
              (repeat apply Exists.intro)
              exact ⟨⟨HP4.out, HZ4.out, (HBD.out.mono (by omega))⟩, rfl⟩
          · as_aux_lemma =>
              obtain ⟨d0, d1, d2, d3, d4, d5, d6, d7, d8, d9, d10, d11⟩ := lies_kdo (HZ1.out.lies List.mem_cons_self)
              have q3 := (HZ1.out.lies (List.mem_cons_of_mem _ List.mem_cons_self)).cell 0
              have q4 := (HZ1.out.lies (List.mem_cons_of_mem _ (List.mem_cons_of_mem _ List.mem_cons_self))).cell 0
              simp only [List.getElem?_toArray, List.getElem?_cons_zero] at q3 q4
              go_wp2_with fail
              refine (dto_list HP1.out.d HBD.out (by omega) xa).mono ?_
              rintro ex V1 ⟨vw, T, rfl, hT, hTl, hb⟩
              (try dsimp only)
              have HTW := Lib.hid hT
              have HTL := Lib.hid hTl
              obtain ⟨sw, cw, hvw⟩ : ∃ s c, vw = .slice s T.length c := by obtain ⟨⟨s, c, e, _⟩, _⟩ := hT; exact ⟨s, c, e⟩
              subst hvw
              have HP2 := Lib.hid (HP1.out.later hb)
              have HZ2 := Lib.hid (HZ1.out.later hb)
              clear hT hTl hb HP1 HZ1 d0 d1 d2 d3 d4 d5 d6 d7 d8 d9 d10 d11 q3 q4
              obtain ⟨d0, d1, d2, d3, d4, d5, d6, d7, d8, d9, d10, d11⟩ := lies_kdo (HZ2.out.lies List.mem_cons_self)
              have q3 := (HZ2.out.lies (List.mem_cons_of_mem _ List.mem_cons_self)).cell 0
              have q4 := (HZ2.out.lies (List.mem_cons_of_mem _ (List.mem_cons_of_mem _ List.mem_cons_self))).cell 0
              simp only [List.getElem?_toArray, List.getElem?_cons_zero] at q3 q4
              go_upto_region 28 with fail
              clear d0 d1 d2 d3 d4 d5 d6 d7 d8 d9 d10 d11 q3 q4
              obtain ⟨w5, hw5⟩ : ∃ w5, w5 = (V1.alloc (.cells #[.slice sw T.length cw] 37)).alloc (.cells #[.int .i64 0] 3) := ⟨_, rfl⟩
              rw [← hw5]
              obtain ⟨b13, hb13⟩ : ∃ b, b = V1.heap.size := ⟨_, rfl⟩
              obtain ⟨b14, hb14⟩ : ∃ b, b = V1.heap.size + 1 := ⟨_, rfl⟩
              have hba : Below V1.heap.size V1 (V1.alloc (.cells #[.slice sw T.length cw] 37)) := (Below.refl _ _).alloc (Nat.le_refl _) _
              have hbb : Below (V1.alloc (.cells #[.slice sw T.length cw] 37)).heap.size (V1.alloc (.cells #[.slice sw T.length cw] 37)) w5 := by rw [hw5]; exact (Below.refl _ _).alloc (Nat.le_refl _) _
              have HP3 := Lib.hid (HP2.out.later hba)
              have hl13 := Lies.new V1 37 #[.slice sw T.length cw]
              have hl14 : Lies w5 (V1.alloc (.cells #[.slice sw T.length cw] 37)).heap.size 3 #[.int .i64 0] := by rw [hw5]; exact Lies.new _ _ _
              have HZ3 := Lib.hid (HZ2.out.add (Keep.below hba own ownr) (HP2.out.fresh (Nat.le_refl _) hl13.lt) hl13 (Nat.le_refl _) HP2.out.below.size)
              have HP4 := Lib.hid (HP3.out.later hbb)
              have HZ4 := Lib.hid (HZ3.out.add (Keep.below hbb own ownr) (HP3.out.fresh (Nat.le_refl _) hl14.lt) hl14 (Nat.le_refl _) HP3.out.below.size)
              have HTW4 := Lib.hid ((HTW.out.later hba).later hbb)
              rw [World.size_alloc] at HZ4
              rw [← hb14, ← hb13] at HZ4
              rw [← hb14, ← hb13]
              clear hw5 hba hbb HP2 HP3 HZ2 HZ3 hl13 hl14 HTW hb13 hb14
              obtain ⟨d0, d1, d2, d3, d4, d5, d6, d7, d8, d9, d10, d11⟩ := lies_kdo (HZ4.out.lies (List.mem_cons_of_mem _ (List.mem_cons_of_mem _ List.mem_cons_self)))
              have q3 := (HZ4.out.lies (List.mem_cons_of_mem _ (List.mem_cons_of_mem _ (List.mem_cons_of_mem _ List.mem_cons_self)))).cell 0
              simp only [List.getElem?_toArray, List.getElem?_cons_zero] at q3
              go_wp2_with fail
              refine (kvpairs_any _ bl xa).mono ?_
              rintro ex V2 ⟨rfl, rfl⟩
              (try dsimp only)
              clear d0 d1 d2 d3 d4 d5 d6 d7 d8 d9 d10 d11 q3
              go_upto_block 3 with fail
              obtain ⟨w6, hw6⟩ : ∃ w6, w6 = (w5.alloc (.cells #[.pointer (some ⟨bl, 0, none⟩)] 28)).alloc (.cells xa.cs.toArray 24) := ⟨_, rfl⟩
              rw [← hw6]
              have hb6 : Below w5.heap.size w5 w6 := by rw [hw6]; exact ((Below.refl _ _).alloc (Nat.le_refl _) _).alloc (by simp) _
              have hl1 : Lies w6 w5.heap.size 28 #[.pointer (some ⟨bl, 0, none⟩)] := by rw [hw6]; exact (Lies.new w5 _ _).alloc _
              have hl2 : Lies w6 (w5.heap.size + 1) 24 xa.cs.toArray := by
                rw [hw6]
                have := Lies.new (w5.alloc (.cells #[.pointer (some ⟨bl, 0, none⟩)] 28)) 24 xa.cs.toArray
                rw [World.size_alloc] at this
                exact this
              have HP6 := Lib.hid (HP4.out.later hb6)
              have HZ6 := Lib.hid (HZ4.out.later hb6)
              have HTW6 := Lib.hid (HTW4.out.later hb6)
              have HQ := Lib.hid (pairs_off 8 (by decide) w5.heap.size (w5.heap.size + 1) xa hl1 hl2 HP6.out.s HBD.out (by omega) HTL.out)
              clear hw6 hb6 hl1 hl2 HP4 HZ4 HTW4
              refine wp_cut (fun a' wx => ∃ (ds : List Deferred) (own ownr : Nat → Prop) (g : St) (n : Nat), ∃ u0 u1 u5 u7 u8 u9 u10 u11 u12 u15 u16 u17 u18 u19 u20 u21 u22 u23 u24 u28 u29 u30 u31 u32 u33 u34 u35 u36 u37 u38 u39 u40 u41 u42 u43 u44 u45 u46 u47 u48 u49 u50 u51 u52 u53 u54 u55 u56 u57 u58 u59 u60 u61 u62 u63 u64 u65 u66 u67 u68 u69 u70 u71 u72 u73 u74 u75 u76 u77 u78 u79 u80 u81 u82 u83 u84 u85 u86 u87 u88 u89 u90 u91 u92 u93 u94 u95 u96 u97 u98 u99 u100 u101 u102 u103 u104 u105 u106 u107 u108 u109 u110 u111 u112 u113 u114 u115 u116 u117 u118 u119 u120 u121 u122 u123 u124 u125 u126 u127 u128 u129 u130 u131 u132 u133 u134 u135 u136 u137 u138 u139 u140 u141 u142 u143 u144 u145 u146 u147 u148 u149 u150 u151 u152 u153 u154 u155 u156 u157 u158 u159 u160 u161 u162 u163 u164 u165 u166 u167 u168 u169 u170 u171 u172 u173 u174 u175 u176 u177 u178 u179 u180 u181 u182 u183 u184 u185 u186 u187 u188 u189 u190 u191 u192 u193 u194 u195 u196 u197 u198 u199 u200 u201 u202 u203 u204 u205 u206 u207 u208 u209 : Value, (Pz W wx own ownr bl br g g ∧ Bz W wx own ownr ((b14, 3, #[.int .i64 (n : Int)]) :: ((b13, 37, #[.slice sw T.length cw]) :: ((dx, 31, (Kdo.cs ⟨3, xa, .slice sx xkey.length cx, xkey, .slice sy xval.length cy, xval, xn⟩).toArray) :: [(b3, 28, #[.pointer (some ⟨bl, 0, none⟩)]), (b4, 72, #[.pointer (some ⟨br, 0, none⟩)]), (W.heap.size, 4, #[.bool false])]))) ds ∧ Bd (k + 1) g ∧ (n : Int) = min (T.length : Int) (max xn 1)) ∧ a' = { tmps := #[u0, u1, .pointer (some ⟨W.heap.size, 0, none⟩), .pointer (some ⟨b3, 0, none⟩), .pointer (some ⟨b4, 0, none⟩), u5, .pointer (some ⟨dx, 0, none⟩), u7, u8, u9, u10, u11, u12, .pointer (some ⟨b13, 0, none⟩), .pointer (some ⟨b14, 0, none⟩), u15, u16, u17, u18, u19, u20, u21, u22, u23, u24, .slice (some ⟨b, off, none⟩) X.length cap0, .int .i64 (X.length : Int), .int .i64 (k : Int), u28, u29, u30, u31, u32, u33, u34, u35, u36, u37, u38, u39, u40, u41, u42, u43, u44, u45, u46, u47, u48, u49, u50, u51, u52, u53, u54, u55, u56, u57, u58, u59, u60, u61, u62, u63, u64, u65, u66, u67, u68, u69, u70, u71, u72, u73, u74, u75, u76, u77, u78, u79, u80, u81, u82, u83, u84, u85, u86, u87, u88, u89, u90, u91, u92, u93, u94, u95, u96, u97, u98, u99, u100, u101, u102, u103, u104, u105, u106, u107, u108, u109, u110, u111, u112, u113, u114, u115, u116, u117, u118, u119, u120, u121, u122, u123, u124, u125, u126, u127, u128, u129, u130, u131, u132, u133, u134, u135, u136, u137, u138, u139, u140, u141, u142, u143, u144, u145, u146, u147, u148, u149, u150, u151, u152, u153, u154, u155, u156, u157, u158, u159, u160, u161, u162, u163, u164, u165, u166, u167, u168, u169, u170, u171, u172, u173, u174, u175, u176, u177, u178, u179, u180, u181, u182, u183, u184, u185, u186, u187, u188, u189, u190, u191, u192, u193, u194, u195, u196, u197, u198, u199, u200, u201, u202, u203, u204, u205, u206, u207, u208, u209], defers := ds }) ?rest3 ?first3
              case first3 =>
                intro _ _ _ _
                obtain ⟨L, hL⟩ : ∃ L, L = w6.heap.size := ⟨_, rfl⟩
                have HLT := Lib.hid HZ6.out.lt
                have HLW := Lib.hid (show W.heap.size ≤ L from hL ▸ HP6.out.below.size)
                have HX := Lib.hid (show (b14 < L ∧ ∀ p ∈ ((b13, 37, #[.slice sw T.length cw]) :: ((dx, 31, (Kdo.cs ⟨3, xa, .slice sx xkey.length cx, xkey, .slice sy xval.length cy, xval, xn⟩).toArray) :: [(b3, 28, #[.pointer (some ⟨bl, 0, none⟩)]), (b4, 72, #[.pointer (some ⟨br, 0, none⟩)]), (W.heap.size, 4, #[.bool false])])), p.1 < L) ∧ ∀ D, markOf D ∈ ds → D < L from by
                  rw [hL]
                  exact ⟨⟨HLT.out.1 _ List.mem_cons_self, fun p hp => HLT.out.1 p (List.mem_cons_of_mem _ hp)⟩, HLT.out.2⟩)
                go_wp2_with fail
                refine (wpIn_wide (n := 9)).1 ?_
                refine wpIn_rangeFunc_off rfl (by decide) (gf := 77) (lb := #[.pointer (some ⟨w5.heap.size, 0, none⟩), .pointer (some ⟨w5.heap.size + 1, 0, none⟩)]) rfl trivial ePairs HQ.out (Below.refl _ _) (fun _ => rfl)
                  (fun pre Wi => PI W L bl br g xa b14 ((b13, 37, #[.slice sw T.length cw]) :: ((dx, 31, (Kdo.cs ⟨3, xa, .slice sx xkey.length cx, xkey, .slice sy xval.length cy, xval, xn⟩).toArray) :: [(b3, 28, #[.pointer (some ⟨bl, 0, none⟩)]), (b4, 72, #[.pointer (some ⟨br, 0, none⟩)]), (W.heap.size, 4, #[.bool false])])) ds (.slice sw T.length cw) T pre Wi ∧ (pre.length = 0 ∨ (pre.length : Int) < xn))
                  (fun c pre Wi => PI W L bl br g xa b14 ((b13, 37, #[.slice sw T.length cw]) :: ((dx, 31, (Kdo.cs ⟨3, xa, .slice sx xkey.length cx, xkey, .slice sy xval.length cy, xval, xn⟩).toArray) :: [(b3, 28, #[.pointer (some ⟨bl, 0, none⟩)]), (b4, 72, #[.pointer (some ⟨br, 0, none⟩)]), (W.heap.size, 4, #[.bool false])])) ds (.slice sw T.length cw) T pre Wi ∧ c = .exit 3 ∧ xn ≤ (pre.length : Int) ∧ (pre.length = 1 ∨ (pre.length : Int) - 1 < xn) ∧ 1 ≤ pre.length ∧ pre.length ≤ T.length)
                  (fun s A B h hb => ⟨h.1.later hb, h.2⟩) (fun c s A B h hb => ⟨h.1.later hb, h.2⟩)
                  (fun s A l o o' h h1 h2 ho hc _ => ⟨h.1.put HX.out.1 HX.out.2 HLW.out o' (hL ▸ h1) (hL ▸ h2) ho hc, h.2⟩)
                  (fun c s A l o o' h h1 h2 ho hc _ => ⟨h.1.put HX.out.1 HX.out.2 HLW.out o' (hL ▸ h1) (hL ▸ h2) ho hc, h.2⟩)
                  (fun s x A l o o' h ho hc _ => pairOf_put o' h ho hc) (fun h k => h.trans k) (fun A l o o' ho hc _ => keepsP_put o' ho hc)
                  ⟨⟨own, ownr, HP6.out, HZ6.out, HTW6.out, fun e => by have := HP6.out.lt _ e; omega, fun e => by have := HP6.out.lt _ e; omega, fun e => by have := HP6.out.ltr _ e; omega, fun e => by have := HP6.out.ltr _ e; omega⟩, Or.inl rfl⟩
                  ?a1 ?assign ?body ?done ?stop
                case assign =>
                  intro l x Wi K2 hK2
                  gi_wp2
                  exact hK2
                case done =>
                  intro zs Wi hS hI hm
                  obtain ⟨⟨own7, ownr7, hp, hz, _, hn⟩, hl⟩ := hI
                  have hlen : zs.length = T.length := by have := congrArg List.length hS; rwa [saidP_len, saidP_len] at this
                  have HP7 := Lib.hid hp
                  rw [← hL] at hm
                  have HZ7 := Lib.hid (hz.mark HLW.out ⟨(Array.getElem?_eq_some_iff.1 hm).1, hn.1, hn.2.2.1⟩ hm (fun D hD => by have := HX.out.2 D hD; omega))
                  have HB7 := Lib.hid ((HBD.out.gdel xa (zs.map (·.k))).mono (by omega : k ≤ k + 1))
                  rw [← hL]
                  clear hp hz hn hm hS HP6 HZ6 HTW6 HQ HTL HX HLT HBD
                  go_wp2_with fail
                  refine Met.intro ?_
                  go_step
                  refine ⟨markOf L :: ds, own7, ownr7, gdel g xa (zs.map (·.k)), zs.length, ?_⟩
                  (repeat apply Exists.intro)
                  refine ⟨?_, rfl⟩
                  exact ⟨HP7.out, HZ7.out, HB7.out, by omega⟩
                case stop =>
                  intro c zs Wi hI hm
                  obtain ⟨⟨own7, ownr7, hp, hz, _, hn⟩, rfl, h1, h2, h3, h4⟩ := hI
                  have HP7 := Lib.hid hp
                  rw [← hL] at hm
                  have HZ7 := Lib.hid (hz.mark HLW.out ⟨(Array.getElem?_eq_some_iff.1 hm).1, hn.1, hn.2.2.1⟩ hm (fun D hD => by have := HX.out.2 D hD; omega))
                  have HB7 := Lib.hid ((HBD.out.gdel xa (zs.map (·.k))).mono (by omega : k ≤ k + 1))
                  rw [← hL]
                  clear hp hz hn hm HP6 HZ6 HTW6 HQ HTL HX HLT HBD
                  refine wpIn_wide.2 ?_
                  go_wp2_with fail
                  refine Met.intro ?_
                  go_step
                  refine ⟨markOf L :: ds, own7, ownr7, gdel g xa (zs.map (·.k)), zs.length, ?_⟩
                  (repeat apply Exists.intro)
                  refine ⟨?_, rfl⟩
                  exact ⟨HP7.out, HZ7.out, HB7.out, by omega⟩
                case body =>
                  intro l pre x Wi hsz hI hOf
                  (try dsimp only)
                  obtain ⟨⟨own7, ownr7, hp, hz, hT, hn⟩, hl⟩ := hI
                  obtain ⟨⟨rest, hrest⟩, hbk, hbv⟩ := hOf
                  obtain ⟨hg, hlt1, hat⟩ := tells_next HTL.out hrest
                  obtain ⟨y, hy, hy1, hy2⟩ := said_at hat
                  obtain ⟨g9, o9, hsw⟩ := shows_some hT hy
                  subst hsw
                  obtain ⟨zkv, zk, zvv, zv⟩ := x
                  obtain ⟨ykv, yk, yvv, yv⟩ := y
                  simp only at hy1 hy2
                  subst hy1 hy2
                  obtain ⟨hpr, hyk, hyv⟩ := shows_at hT hy
                  obtain ⟨sk, ck, hzk⟩ : ∃ s c, zkv = .slice s yk.length c := by obtain ⟨s, c, e, _⟩ := hbk; exact ⟨s, c, e⟩
                  obtain ⟨sz, cz, hzv⟩ : ∃ s c, zvv = .slice s yv.length c := by obtain ⟨s, c, e, _⟩ := hbv; exact ⟨s, c, e⟩
                  obtain ⟨sa, ca, hya⟩ : ∃ s c, ykv = .slice s yk.length c := by obtain ⟨s, c, e, _⟩ := hyk; exact ⟨s, c, e⟩
                  obtain ⟨sb, cb, hyb⟩ : ∃ s c, yvv = .slice s yv.length c := by obtain ⟨s, c, e, _⟩ := hyv; exact ⟨s, c, e⟩
                  subst hzk hzv hya hyb
                  simp only at hbk hbv hg
                  obtain ⟨zk, hzk⟩ : ∃ zk, zk = yk := ⟨_, rfl⟩
                  obtain ⟨zv, hzv⟩ : ∃ zv, zv = yv := ⟨_, rfl⟩
                  subst hzk hzv
                  have hlT : pre.length < T.length := by rwa [saidP_len] at hlt1
                  have hTk : T.length ≤ 1000 := by have := HTL.out.len HBD.out; rw [saidP_len] at this; omega
                  have hPk : pre.length ≤ 1000 := by omega
                  have hi0 : (0 : Int) ≤ (pre.length : Int) := Int.natCast_nonneg _
                  have hi1 : (pre.length : Int) < (T.length : Int) := by omega
                  have hge : decide (T.length ≤ pre.length) = false := decide_eq_false (by omega)
                  have hkl : zk.length ≤ 64 := by
                    obtain ⟨Dl, _, h2⟩ := HBD.out.gdel xa (pre.map (·.k))
                    exact (h2 xa zk zv hg).2.1
                  have HY := Lib.hid hy
                  have HG := Lib.hid hg
                  have HN7 := Lib.hid hn
                  have HLl := Lib.hid hl
                  have HP7 := Lib.hid hp
                  have HZ7 := Lib.hid hz
                  have HBG := Lib.hid (HBD.out.gdel xa (pre.map (·.k)))
                  have HSN := Lib.hid (gdel_snoc g xa (pre.map (·.k)) zk)
                  have hOL : Off Wi own7 ownr7 L ∧ Off Wi own7 ownr7 (L + 1) := by rw [← hL] at hsz; exact ⟨⟨by omega, hn.1, hn.2.2.1⟩, ⟨by omega, hn.2.1, hn.2.2.2⟩⟩
                  have HOL := Lib.hid hOL
                  have HT7 := Lib.hid hT
                  have HK7 := Lib.hid hbk
                  have HV7 := Lib.hid hbv
                  clear hp hz hT hn hrest hbk hbv hg hlt1 hat hy hpr hyk hyv hl hOL
                  clear HQ HTL HP6 HZ6 HTW6 HLT
                  gi_wp2_with fail
                  refine regionR (RP.take 0 (RP.take 1 (RP.take 2 (RP.take 3 (RP.take 4 (RP.take 5 (RP.take 6 (RP.take 7 (RP.take 8 (RP.take 9 (RP.take 10 (RP.take 11 (RP.take 12 (RP.take 13 (RP.take 14 (RP.take 15 (RP.take 16 (RP.take 17 (RP.take 18 (RP.take 19 (RP.take 20 (RP.take 21 (RP.take 22 (RP.take 23 (RP.take 24 (RP.take 25 (RP.take 26 (RP.take 27 (RP.take 28 (RP.take 29 (RP.take 30 (RP.run 31 (RP.take 32 (RP.take 33 (RP.take 34 (RP.take 35 (RP.take 36 (RP.take 37 (RP.take 38 (RP.run 39 (RP.take 40 (RP.take 41 RP.done)))))))))))))))))))))))))))))))))))))))))) (fun w' => Lies w' b14 3 #[.int .i64 (pre.length : Int)] ∧ Lies w' b13 37 #[.slice (some ⟨g9, o9, none⟩) T.length cw] ∧ Lies w' dx 31 (Kdo.cs ⟨3, xa, .slice sx xkey.length cx, xkey, .slice sy xval.length cy, xval, xn⟩).toArray ∧ Lies w' b3 28 #[.pointer (some ⟨bl, 0, none⟩)] ∧ Lies w' b4 72 #[.pointer (some ⟨br, 0, none⟩)] ∧ ShowsP w' (.slice (some ⟨g9, o9, none⟩) T.length cw) T ∧ Byt w' (.slice sk zk.length ck) zk ∧ Byt w' (.slice sz zv.length cz) zv) (by as_aux_lemma => kernel_rfl) (by as_aux_lemma => kernel_rfl) (by as_aux_lemma => kernel_rfl) ⟨HZ7.out.lies List.mem_cons_self, HZ7.out.lies (List.mem_cons_of_mem _ List.mem_cons_self), HZ7.out.lies (List.mem_cons_of_mem _ (List.mem_cons_of_mem _ List.mem_cons_self)), HZ7.out.lies (List.mem_cons_of_mem _ (List.mem_cons_of_mem _ (List.mem_cons_of_mem _ List.mem_cons_self))), HZ7.out.lies (List.mem_cons_of_mem _ (List.mem_cons_of_mem _ (List.mem_cons_of_mem _ (List.mem_cons_of_mem _ List.mem_cons_self)))), HT7.out.later (Below.refl _ _).drew, HK7.out.later (Below.refl _ _).drew, HV7.out.later (Below.refl _ _).drew⟩ (fun hS => ?_)
                  have HP8 := Lib.hid (HP7.out.later (Below.refl _ _).drew)
                  have HZ8 := Lib.hid (HZ7.out.later (Below.refl _ _).drew)
                  have HKP := Lib.hid (KeepsP.later (Below.refl Wi.heap.size Wi).drew)
                  have HKE := Lib.hid (Keep.below (Below.refl Wi.heap.size Wi).drew own7 ownr7)
                  generalize Wi.drew = V at hS HP8 HZ8 HKP HKE ⊢
                  clear HP7 HZ7 HT7 HK7 HV7
                  repeat (first | (refine RP.t_take (v := ?_) rfl rfl (fun w' hw' => ?_) ?_; rotate_left; (focus ((obtain ⟨h14f, h13f, hxf, h3f, h4f, hTf, hkf, hvf⟩ := hw'; have q14 := h14f.cell 0; have q13 := h13f.cell 0; have q3 := h3f.cell 0; have q4 := h4f.cell 0; simp only [List.getElem?_toArray, List.getElem?_cons_zero] at q14 q13 q3 q4; obtain ⟨d0, d1, d2, d3, d4, d5, d6, d7, d8, d9, d10, d11⟩ := lies_kdo hxf; obtain ⟨⟨c1, c2⟩, hyk, hyv⟩ := shows_at hTf HY.out; simp only at c1 c2; have kx := hkf.conv; have ky := hvf.conv; have kz := hyk.conv; have kw := hyv.conv); go_simp; (try go_bits); (try (with_reducible rfl)))); (try simp only [Act.put, List.setIfInBounds_toArray, List.set_cons_zero, List.set_cons_succ])) | (refine RP.t_skip rfl rfl ?_; (try simp only [Act.put, List.setIfInBounds_toArray, List.set_cons_zero, List.set_cons_succ])))
                  refine RP.t_run rfl (fun KK hKK => ?_)
                  go_simp
                  have hc := pz_del HP8.out HBG.out xa hS.2.2.2.2.2.2.1 (by unfold maxLen; omega)
                  rw [HG.out] at hc
                  simp only [Option.isSome_some] at hc
                  replace hc := Lib.hid hc
                  refine hc.out.mono ?_
                  rintro ex V1 ⟨own8, rfl, hp, hk, hkp⟩
                  have HP9 := Lib.hid hp
                  have HZ9 := Lib.hid (HZ8.out.keep hk)
                  have HKE2 := Lib.hid (HKE.out.trans hk)
                  have HKP2 := Lib.hid (HKP.out.trans hkp)
                  replace hS :=  (show _ ∧ _ ∧ _ ∧ _ ∧ _ ∧ _ ∧ _ ∧ _ from ⟨HZ9.out.lies List.mem_cons_self, HZ9.out.lies (List.mem_cons_of_mem _ List.mem_cons_self), HZ9.out.lies (List.mem_cons_of_mem _ (List.mem_cons_of_mem _ List.mem_cons_self)), HZ9.out.lies (List.mem_cons_of_mem _ (List.mem_cons_of_mem _ (List.mem_cons_of_mem _ List.mem_cons_self))), HZ9.out.lies (List.mem_cons_of_mem _ (List.mem_cons_of_mem _ (List.mem_cons_of_mem _ (List.mem_cons_of_mem _ List.mem_cons_self)))), hkp.1 _ _ hS.2.2.2.2.2.1, hkp.2 _ _ hS.2.2.2.2.2.2.1, hkp.2 _ _ hS.2.2.2.2.2.2.2⟩)
                  refine hKK.out _ _ hS ?_
                  clear hKK KK hc hp hk hkp HP8 HZ8 HKE HKP
                  (try simp only [Act.put, List.setIfInBounds_toArray, List.set_cons_zero, List.set_cons_succ])
                  repeat (first | (refine RP.t_take (v := ?_) rfl rfl (fun w' hw' => ?_) ?_; rotate_left; (focus ((obtain ⟨h14f, h13f, hxf, h3f, h4f, hTf, hkf, hvf⟩ := hw'; have q14 := h14f.cell 0; have q13 := h13f.cell 0; have q3 := h3f.cell 0; have q4 := h4f.cell 0; simp only [List.getElem?_toArray, List.getElem?_cons_zero] at q14 q13 q3 q4; obtain ⟨d0, d1, d2, d3, d4, d5, d6, d7, d8, d9, d10, d11⟩ := lies_kdo hxf; obtain ⟨⟨c1, c2⟩, hyk, hyv⟩ := shows_at hTf HY.out; simp only at c1 c2; have kx := hkf.conv; have ky := hvf.conv; have kz := hyk.conv; have kw := hyv.conv); go_simp; (try go_bits); (try (with_reducible rfl)))); (try simp only [Act.put, List.setIfInBounds_toArray, List.set_cons_zero, List.set_cons_succ])) | (refine RP.t_skip rfl rfl ?_; (try simp only [Act.put, List.setIfInBounds_toArray, List.set_cons_zero, List.set_cons_succ])))
                  refine RP.t_run rfl (fun KK hKK => ?_)
                  go_simp
                  have hc := pz_ddel HP9.out HBG.out (by omega) xa hS.2.2.2.2.2.2.1
                  rw [HG.out] at hc
                  simp only [Option.isSome_some] at hc
                  replace hc := Lib.hid hc
                  refine hc.out.mono ?_
                  rintro ex V2 ⟨ownr8, rfl, hp, hk, hkp⟩
                  have HP10 := Lib.hid hp
                  have HZ10 := Lib.hid (HZ9.out.keep hk)
                  have HKE3 := Lib.hid (HKE2.out.trans hk)
                  have HKP3 := Lib.hid (HKP2.out.trans hkp)
                  replace hS :=  (show _ ∧ _ ∧ _ ∧ _ ∧ _ ∧ _ ∧ _ ∧ _ from ⟨HZ10.out.lies List.mem_cons_self, HZ10.out.lies (List.mem_cons_of_mem _ List.mem_cons_self), HZ10.out.lies (List.mem_cons_of_mem _ (List.mem_cons_of_mem _ List.mem_cons_self)), HZ10.out.lies (List.mem_cons_of_mem _ (List.mem_cons_of_mem _ (List.mem_cons_of_mem _ List.mem_cons_self))), HZ10.out.lies (List.mem_cons_of_mem _ (List.mem_cons_of_mem _ (List.mem_cons_of_mem _ (List.mem_cons_of_mem _ List.mem_cons_self)))), hkp.1 _ _ hS.2.2.2.2.2.1, hkp.2 _ _ hS.2.2.2.2.2.2.1, hkp.2 _ _ hS.2.2.2.2.2.2.2⟩)
                  refine hKK.out _ _ hS ?_
                  clear hKK KK hc hp hk hkp HP9 HZ9 HKE2 HKP2
                  (try simp only [Act.put, List.setIfInBounds_toArray, List.set_cons_zero, List.set_cons_succ])
                  repeat (first | (refine RP.t_take (v := ?_) rfl rfl (fun w' hw' => ?_) ?_; rotate_left; (focus ((obtain ⟨h14f, h13f, hxf, h3f, h4f, hTf, hkf, hvf⟩ := hw'; have q14 := h14f.cell 0; have q13 := h13f.cell 0; have q3 := h3f.cell 0; have q4 := h4f.cell 0; simp only [List.getElem?_toArray, List.getElem?_cons_zero] at q14 q13 q3 q4; obtain ⟨d0, d1, d2, d3, d4, d5, d6, d7, d8, d9, d10, d11⟩ := lies_kdo hxf; obtain ⟨⟨c1, c2⟩, hyk, hyv⟩ := shows_at hTf HY.out; simp only at c1 c2; have kx := hkf.conv; have ky := hvf.conv; have kz := hyk.conv; have kw := hyv.conv); go_simp; (try go_bits); (try (with_reducible rfl)))); (try simp only [Act.put, List.setIfInBounds_toArray, List.set_cons_zero, List.set_cons_succ])) | (refine RP.t_skip rfl rfl ?_; (try simp only [Act.put, List.setIfInBounds_toArray, List.set_cons_zero, List.set_cons_succ])))
                  refine RP.t_done ⟨rfl, ?_⟩
                  have HP11 := Lib.hid (HZ10.out.setp HP10.out 0 (.int .i64 ((pre.length : Int) + 1)))
                  have HZ11 := Lib.hid (HZ10.out.set 0 (.int .i64 ((pre.length : Int) + 1)))
                  have HKP4 := Lib.hid (HKP3.out.trans (keepsP_set (HZ10.out.lies List.mem_cons_self) (.int .i64 ((pre.length : Int) + 1))))
                  have HT11 := Lib.hid ((keepsP_set (HZ10.out.lies List.mem_cons_self) (.int .i64 ((pre.length : Int) + 1))).1 _ _ hS.2.2.2.2.2.1)
                  have hrec : ∀ j, Off Wi own7 ownr7 j → j ≠ b14 → (V2.setCell ⟨b14, 0, none⟩ (.int .i64 ((pre.length : Int) + 1))).heap[j]? = Wi.heap[j]? := fun j hj hne => (Below.heap_setCell V2 ⟨b14, 0, none⟩ _ j hne).trans (HKE3.out.same j hj)
                  have HREC := Lib.hid (And.intro (hrec L HOL.out.1 (by have := HX.out.1.1; omega)) (hrec (L + 1) HOL.out.2 (by have := HX.out.1.1; omega)))
                  have HNO := Lib.hid (And.intro (HKE3.out.off L HOL.out.1).2 (HKE3.out.off (L + 1) HOL.out.2).2)
                  have hmap : (pre ++ [(⟨.slice sk zk.length ck, zk, .slice sz zv.length cz, zv⟩ : Pr)]).map (·.k) = pre.map (·.k) ++ [zk] := by rw [List.map_append]; rfl
                  have hlen : ((pre ++ [(⟨.slice sk zk.length ck, zk, .slice sz zv.length cz, zv⟩ : Pr)]).length : Int) = (pre.length : Int) + 1 := by rw [List.length_append]; simp
                  have HPI := Lib.hid (show PI W L bl br g xa b14 ((b13, 37, #[.slice (some ⟨g9, o9, none⟩) T.length cw]) :: ((dx, 31, (Kdo.cs ⟨3, xa, .slice sx xkey.length cx, xkey, .slice sy xval.length cy, xval, xn⟩).toArray) :: [(b3, 28, #[.pointer (some ⟨bl, 0, none⟩)]), (b4, 72, #[.pointer (some ⟨br, 0, none⟩)]), (W.heap.size, 4, #[.bool false])])) ds (.slice (some ⟨g9, o9, none⟩) T.length cw) T (pre ++ [(⟨.slice sk zk.length ck, zk, .slice sz zv.length cz, zv⟩ : Pr)]) (V2.setCell ⟨b14, 0, none⟩ (.int .i64 ((pre.length : Int) + 1))) from by
                    refine ⟨own8, ownr8, ?_, ?_, HT11.out, HNO.out.1.1, HNO.out.2.1, HNO.out.1.2, HNO.out.2.2⟩
                    · rw [hmap, HSN.out]; exact HP11.out
                    · rw [hlen]; exact HZ11.out)
                  have HLE := Lib.hid hlen
                  have q14 := (HZ10.out.lies List.mem_cons_self).cell 0
                  have f14 := (HZ10.out.lies List.mem_cons_self).frozen 0
                  have d11 := (HZ11.out.lies (List.mem_cons_of_mem _ (List.mem_cons_of_mem _ List.mem_cons_self))).cell 11
                  simp only [List.getElem?_toArray, List.getElem?_cons_zero, Kdo.cs, List.getElem?_cons_succ] at q14 d11
                  clear hrec hmap hlen hS HP10 HZ10 HP11 HZ11 HKE3 HKP3 HT11 HNO HOL HSN HG HBG HY HN7
                  by_cases hN : xn ≤ (pre.length : Int) + 1
                  · gi_wp2_with fail
                    rw [← hL]
                    refine ⟨HREC.out, HPI.out, rfl, ?_, ?_, ?_, ?_⟩
                    · rw [HLE.out]; exact hN
                    · rcases HLl.out with h | h
                      · left; rw [List.length_append, h]; rfl
                      · right; rw [HLE.out]; omega
                    · rw [List.length_append]; simp
                    · rw [List.length_append]; simp; omega
                  · gi_wp2_with fail
                    rw [← hL]
                    refine ⟨HREC.out, HKP4.out, HPI.out, Or.inr ?_⟩
                    rw [HLE.out]; omega
              case rest3 =>
                intro a' wd hinv
                clear HP6 HZ6 HTW6 HQ HTL HBD
                obtain ⟨ds, own, ownr, g, n, hinv⟩ := hinv
                obtain ⟨u0, hinv⟩ := hinv
                obtain ⟨u1, hinv⟩ := hinv
                obtain ⟨u5, hinv⟩ := hinv
                obtain ⟨u7, hinv⟩ := hinv
                obtain ⟨u8, hinv⟩ := hinv
                obtain ⟨u9, hinv⟩ := hinv
                obtain ⟨u10, hinv⟩ := hinv
                obtain ⟨u11, hinv⟩ := hinv
                obtain ⟨u12, hinv⟩ := hinv
                obtain ⟨u15, hinv⟩ := hinv
                obtain ⟨u16, hinv⟩ := hinv
                obtain ⟨u17, hinv⟩ := hinv
                obtain ⟨u18, hinv⟩ := hinv
                obtain ⟨u19, hinv⟩ := hinv
                obtain ⟨u20, hinv⟩ := hinv
                obtain ⟨u21, hinv⟩ := hinv
                obtain ⟨u22, hinv⟩ := hinv
                obtain ⟨u23, hinv⟩ := hinv
                obtain ⟨u24, hinv⟩ := hinv
                obtain ⟨u28, hinv⟩ := hinv
                obtain ⟨u29, hinv⟩ := hinv
                obtain ⟨u30, hinv⟩ := hinv
                obtain ⟨u31, hinv⟩ := hinv
                obtain ⟨u32, hinv⟩ := hinv
                obtain ⟨u33, hinv⟩ := hinv
                obtain ⟨u34, hinv⟩ := hinv
                obtain ⟨u35, hinv⟩ := hinv
                obtain ⟨u36, hinv⟩ := hinv
                obtain ⟨u37, hinv⟩ := hinv
                obtain ⟨u38, hinv⟩ := hinv
                obtain ⟨u39, hinv⟩ := hinv
                obtain ⟨u40, hinv⟩ := hinv
                obtain ⟨u41, hinv⟩ := hinv
                obtain ⟨u42, hinv⟩ := hinv
                obtain ⟨u43, hinv⟩ := hinv
                obtain ⟨u44, hinv⟩ := hinv
                obtain ⟨u45, hinv⟩ := hinv
                obtain ⟨u46, hinv⟩ := hinv
                obtain ⟨u47, hinv⟩ := hinv
                obtain ⟨u48, hinv⟩ := hinv
                obtain ⟨u49, hinv⟩ := hinv
                obtain ⟨u50, hinv⟩ := hinv
                obtain ⟨u51, hinv⟩ := hinv
                obtain ⟨u52, hinv⟩ := hinv
                obtain ⟨u53, hinv⟩ := hinv
                obtain ⟨u54, hinv⟩ := hinv
                obtain ⟨u55, hinv⟩ := hinv
                obtain ⟨u56, hinv⟩ := hinv
                obtain ⟨u57, hinv⟩ := hinv
                obtain ⟨u58, hinv⟩ := hinv
                obtain ⟨u59, hinv⟩ := hinv
                obtain ⟨u60, hinv⟩ := hinv
                obtain ⟨u61, hinv⟩ := hinv
                obtain ⟨u62, hinv⟩ := hinv
                obtain ⟨u63, hinv⟩ := hinv
                obtain ⟨u64, hinv⟩ := hinv
                obtain ⟨u65, hinv⟩ := hinv
                obtain ⟨u66, hinv⟩ := hinv
                obtain ⟨u67, hinv⟩ := hinv
                obtain ⟨u68, hinv⟩ := hinv
                obtain ⟨u69, hinv⟩ := hinv
                obtain ⟨u70, hinv⟩ := hinv
                obtain ⟨u71, hinv⟩ := hinv
                obtain ⟨u72, hinv⟩ := hinv
                obtain ⟨u73, hinv⟩ := hinv
                obtain ⟨u74, hinv⟩ := hinv
                obtain ⟨u75, hinv⟩ := hinv
                obtain ⟨u76, hinv⟩ := hinv
                obtain ⟨u77, hinv⟩ := hinv
                obtain ⟨u78, hinv⟩ := hinv
                obtain ⟨u79, hinv⟩ := hinv
                obtain ⟨u80, hinv⟩ := hinv
                obtain ⟨u81, hinv⟩ := hinv
                obtain ⟨u82, hinv⟩ := hinv
                obtain ⟨u83, hinv⟩ := hinv
                obtain ⟨u84, hinv⟩ := hinv
                obtain ⟨u85, hinv⟩ := hinv
                obtain ⟨u86, hinv⟩ := hinv
                obtain ⟨u87, hinv⟩ := hinv
                obtain ⟨u88, hinv⟩ := hinv
                obtain ⟨u89, hinv⟩ := hinv
                obtain ⟨u90, hinv⟩ := hinv
                obtain ⟨u91, hinv⟩ := hinv
                obtain ⟨u92, hinv⟩ := hinv
                obtain ⟨u93, hinv⟩ := hinv
                obtain ⟨u94, hinv⟩ := hinv
                obtain ⟨u95, hinv⟩ := hinv
                obtain ⟨u96, hinv⟩ := hinv
                obtain ⟨u97, hinv⟩ := hinv
                obtain ⟨u98, hinv⟩ := hinv
                obtain ⟨u99, hinv⟩ := hinv
                obtain ⟨u100, hinv⟩ := hinv
                obtain ⟨u101, hinv⟩ := hinv
                obtain ⟨u102, hinv⟩ := hinv
                obtain ⟨u103, hinv⟩ := hinv
                obtain ⟨u104, hinv⟩ := hinv
                obtain ⟨u105, hinv⟩ := hinv
                obtain ⟨u106, hinv⟩ := hinv
                obtain ⟨u107, hinv⟩ := hinv
                obtain ⟨u108, hinv⟩ := hinv
                obtain ⟨u109, hinv⟩ := hinv
                obtain ⟨u110, hinv⟩ := hinv
                obtain ⟨u111, hinv⟩ := hinv
                obtain ⟨u112, hinv⟩ := hinv
                obtain ⟨u113, hinv⟩ := hinv
                obtain ⟨u114, hinv⟩ := hinv
                obtain ⟨u115, hinv⟩ := hinv
                obtain ⟨u116, hinv⟩ := hinv
                obtain ⟨u117, hinv⟩ := hinv
                obtain ⟨u118, hinv⟩ := hinv
                obtain ⟨u119, hinv⟩ := hinv
                obtain ⟨u120, hinv⟩ := hinv
                obtain ⟨u121, hinv⟩ := hinv
                obtain ⟨u122, hinv⟩ := hinv
                obtain ⟨u123, hinv⟩ := hinv
                obtain ⟨u124, hinv⟩ := hinv
                obtain ⟨u125, hinv⟩ := hinv
                obtain ⟨u126, hinv⟩ := hinv
                obtain ⟨u127, hinv⟩ := hinv
                obtain ⟨u128, hinv⟩ := hinv
                obtain ⟨u129, hinv⟩ := hinv
                obtain ⟨u130, hinv⟩ := hinv
                obtain ⟨u131, hinv⟩ := hinv
                obtain ⟨u132, hinv⟩ := hinv
                obtain ⟨u133, hinv⟩ := hinv
                obtain ⟨u134, hinv⟩ := hinv
                obtain ⟨u135, hinv⟩ := hinv
                obtain ⟨u136, hinv⟩ := hinv
                obtain ⟨u137, hinv⟩ := hinv
                obtain ⟨u138, hinv⟩ := hinv
                obtain ⟨u139, hinv⟩ := hinv
                obtain ⟨u140, hinv⟩ := hinv
                obtain ⟨u141, hinv⟩ := hinv
                obtain ⟨u142, hinv⟩ := hinv
                obtain ⟨u143, hinv⟩ := hinv
                obtain ⟨u144, hinv⟩ := hinv
                obtain ⟨u145, hinv⟩ := hinv
                obtain ⟨u146, hinv⟩ := hinv
                obtain ⟨u147, hinv⟩ := hinv
                obtain ⟨u148, hinv⟩ := hinv
                obtain ⟨u149, hinv⟩ := hinv
                obtain ⟨u150, hinv⟩ := hinv
                obtain ⟨u151, hinv⟩ := hinv
                obtain ⟨u152, hinv⟩ := hinv
                obtain ⟨u153, hinv⟩ := hinv
                obtain ⟨u154, hinv⟩ := hinv
                obtain ⟨u155, hinv⟩ := hinv
                obtain ⟨u156, hinv⟩ := hinv
                obtain ⟨u157, hinv⟩ := hinv
                obtain ⟨u158, hinv⟩ := hinv
                obtain ⟨u159, hinv⟩ := hinv
                obtain ⟨u160, hinv⟩ := hinv
                obtain ⟨u161, hinv⟩ := hinv
                obtain ⟨u162, hinv⟩ := hinv
                obtain ⟨u163, hinv⟩ := hinv
                obtain ⟨u164, hinv⟩ := hinv
                obtain ⟨u165, hinv⟩ := hinv
                obtain ⟨u166, hinv⟩ := hinv
                obtain ⟨u167, hinv⟩ := hinv
                obtain ⟨u168, hinv⟩ := hinv
                obtain ⟨u169, hinv⟩ := hinv
                obtain ⟨u170, hinv⟩ := hinv
                obtain ⟨u171, hinv⟩ := hinv
                obtain ⟨u172, hinv⟩ := hinv
                obtain ⟨u173, hinv⟩ := hinv
                obtain ⟨u174, hinv⟩ := hinv
                obtain ⟨u175, hinv⟩ := hinv
                obtain ⟨u176, hinv⟩ := hinv
                obtain ⟨u177, hinv⟩ := hinv
                obtain ⟨u178, hinv⟩ := hinv
                obtain ⟨u179, hinv⟩ := hinv
                obtain ⟨u180, hinv⟩ := hinv
                obtain ⟨u181, hinv⟩ := hinv
                obtain ⟨u182, hinv⟩ := hinv
                obtain ⟨u183, hinv⟩ := hinv
                obtain ⟨u184, hinv⟩ := hinv
                obtain ⟨u185, hinv⟩ := hinv
                obtain ⟨u186, hinv⟩ := hinv
                obtain ⟨u187, hinv⟩ := hinv
                obtain ⟨u188, hinv⟩ := hinv
                obtain ⟨u189, hinv⟩ := hinv
                obtain ⟨u190, hinv⟩ := hinv
                obtain ⟨u191, hinv⟩ := hinv
                obtain ⟨u192, hinv⟩ := hinv
                obtain ⟨u193, hinv⟩ := hinv
                obtain ⟨u194, hinv⟩ := hinv
                obtain ⟨u195, hinv⟩ := hinv
                obtain ⟨u196, hinv⟩ := hinv
                obtain ⟨u197, hinv⟩ := hinv
                obtain ⟨u198, hinv⟩ := hinv
                obtain ⟨u199, hinv⟩ := hinv
                obtain ⟨u200, hinv⟩ := hinv
                obtain ⟨u201, hinv⟩ := hinv
                obtain ⟨u202, hinv⟩ := hinv
                obtain ⟨u203, hinv⟩ := hinv
                obtain ⟨u204, hinv⟩ := hinv
                obtain ⟨u205, hinv⟩ := hinv
                obtain ⟨u206, hinv⟩ := hinv
                obtain ⟨u207, hinv⟩ := hinv
                obtain ⟨u208, hinv⟩ := hinv
                obtain ⟨u209, hinv⟩ := hinv
                obtain ⟨⟨hp, hz, hbd, hn⟩, ha⟩ := hinv
                subst ha
                (try dsimp only)
                have HP7 := Lib.hid hp
                have HZ7 := Lib.hid hz
                have HBD := Lib.hid hbd
                clear hp hz hbd
                have q14 := (HZ7.out.lies List.mem_cons_self).cell 0
                have q13 := (HZ7.out.lies (List.mem_cons_of_mem _ List.mem_cons_self)).cell 0
                simp only [List.getElem?_toArray, List.getElem?_cons_zero] at q14 q13
                obtain ⟨d0, d1, d2, d3, d4, d5, d6, d7, d8, d9, d10, d11⟩ := lies_kdo (HZ7.out.lies (List.mem_cons_of_mem _ (List.mem_cons_of_mem _ List.mem_cons_self)))
                have hnb : ((n : Int) != min (T.length : Int) (max xn 1)) = false := by rw [hn]; simp
                clear hn
                go_wp2_with fail
                refine Met.intro ?_
                go_step
                refine ⟨ds, bl, own, ownr, g, ?_⟩
                (repeat apply Exists.intro)
                refine ⟨?_, rfl⟩
                exact ⟨HP7.out, HZ7.out.tail.tail, HBD.out⟩
          · as_aux_lemma =>
              have HZ1p := Lib.hid (show Bz W W1 own ownr [(b3, 28, #[.pointer (some ⟨bl, 0, none⟩)]), (dx, 31, (Kdo.cs ⟨4, xa, .slice sx xkey.length cx, xkey, .slice sy xval.length cy, xval, xn⟩).toArray), (b4, 72, #[.pointer (some ⟨br, 0, none⟩)]), (W.heap.size, 4, #[.bool false])] ds from HZ1.out.perm (List.Perm.swap _ _ _))
              clear HZ1
              obtain ⟨d0, d1, d2, d3, d4, d5, d6, d7, d8, d9, d10, d11⟩ := lies_kdo (HZ1p.out.lies (List.mem_cons_of_mem _ List.mem_cons_self))
              have q3 := (HZ1p.out.lies List.mem_cons_self).cell 0
              simp only [List.getElem?_toArray, List.getElem?_cons_zero] at q3
              have f3 := (HZ1p.out.lies List.mem_cons_self).frozen 0
              go_wp2_with fail
              refine (pz_copy HP1.out).mono ?_
              rintro ex V1 ⟨bl2, own2, rfl, ht, hk⟩
              (try dsimp only)
              have HT1 := Lib.hid ht
              have HZ2 := Lib.hid (HZ1p.out.keep hk)
              clear ht hk HP1 HZ1p d0 d1 d2 d3 d4 d5 d6 d7 d8 d9 d10 d11 q3 f3
              obtain ⟨d0, d1, d2, d3, d4, d5, d6, d7, d8, d9, d10, d11⟩ := lies_kdo (HZ2.out.lies (List.mem_cons_of_mem _ List.mem_cons_self))
              have q3 := (HZ2.out.lies List.mem_cons_self).cell 0
              simp only [List.getElem?_toArray, List.getElem?_cons_zero] at q3
              have f3 := (HZ2.out.lies List.mem_cons_self).frozen 0
              have HZ3 := Lib.hid (show Bz W (V1.setCell ⟨b3, 0, none⟩ (.pointer (some ⟨bl2, 0, none⟩))) (Or2 own own2) ownr [(b3, 28, #[.pointer (some ⟨bl2, 0, none⟩)]), (dx, 31, (Kdo.cs ⟨4, xa, .slice sx xkey.length cx, xkey, .slice sy xval.length cy, xval, xn⟩).toArray), (b4, 72, #[.pointer (some ⟨br, 0, none⟩)]), (W.heap.size, 4, #[.bool false])] ds from HZ2.out.set 0 _)
              have HT2 := Lib.hid (HZ2.out.sett HT1.out 0 (.pointer (some ⟨bl2, 0, none⟩)))
              go_upto_region 40 with fail
              generalize V1.setCell ⟨b3, 0, none⟩ (.pointer (some ⟨bl2, 0, none⟩)) = V2 at HZ3 HT2 ⊢
              clear HZ2 HT1 d0 d1 d2 d3 d4 d5 d6 d7 d8 d9 d10 d11 q3 f3
              obtain ⟨d0, d1, d2, d3, d4, d5, d6, d7, d8, d9, d10, d11⟩ := lies_kdo (HZ3.out.lies (List.mem_cons_of_mem _ List.mem_cons_self))
              have q3 := (HZ3.out.lies List.mem_cons_self).cell 0
              simp only [List.getElem?_toArray, List.getElem?_cons_zero] at q3
              have f3 := (HZ3.out.lies List.mem_cons_self).frozen 0
              go_upto_region 42 with fail
              go_wp2_with (refine wl_oth rfl rfl _ rfl rfl rfl (fun V3 hb3' hy => ?_); (have HZ4 := Lib.hid (HZ3.out.later hb3')); (have HT3 := Lib.hid (HT2.out.later hb3')); (have HY := Lib.hid hy); clear hb3' hy HZ3 HT2 d0 d1 d2 d3 d4 d5 d6 d7 d8 d9 d10 d11 q3 f3; simp only [Act.put])
              refine (tz_put HT3.out xa (HBK.out.later HT3.out.p.below) HY.out).mono ?_
              rintro ex V4 ⟨er, own5, rfl, ht, hk⟩
              (try dsimp only)
              have HT4 := Lib.hid ht
              have HZ5 := Lib.hid (HZ4.out.keep hk)
              have HBD4 := Lib.hid (show Bd (k + 1) (if 64 < xkey.length ∨ 1024 < ([111, 116, 104, 101, 114] : Bs).length then g else g.put xa xkey (some [111, 116, 104, 101, 114])) from by
                split
                · exact HBD.out.mono (by omega)
                · exact HBD.out.put xa (by omega) (by decide))
              clear ht hk HT3 HZ4 HY
              obtain ⟨d0, d1, d2, d3, d4, d5, d6, d7, d8, d9, d10, d11⟩ := lies_kdo (HZ5.out.lies (List.mem_cons_of_mem _ List.mem_cons_self))
              have q3 := (HZ5.out.lies List.mem_cons_self).cell 0
              simp only [List.getElem?_toArray, List.getElem?_cons_zero] at q3
              have f3 := (HZ5.out.lies List.mem_cons_self).frozen 0
              go_wp2_with fail
              refine (tz_del HT4.out HBD4.out xa (k := []) (byt_nil _ 0) (Nat.zero_le _)).mono ?_
              rintro ex V5 ⟨eb, own6, rfl, ht, hk⟩
              (try dsimp only)
              have HP6 := Lib.hid ht.p
              have HZ6 := Lib.hid ((HZ5.out.keep hk).drop.perm (List.Perm.swap _ _ _))
              clear ht hk HT4 HZ5 HBD4 d0 d1 d2 d3 d4 d5 d6 d7 d8 d9 d10 d11 q3 f3
              go_wp2_with fail
              refine Met.intro ?_
              go_step
              refine ⟨ds, bl2, own2, ownr, g, ?_⟩
              (repeat apply Exists.intro)
              exact ⟨⟨HP6.out, HZ6.out, (HBD.out.mono (by omega))⟩, rfl⟩
          · as_aux_lemma =>
              obtain ⟨d0, d1, d2, d3, d4, d5, d6, d7, d8, d9, d10, d11⟩ := lies_kdo (HZ1.out.lies List.mem_cons_self)
              go_wp2_with fail
              refine Met.intro ?_
              go_step
              refine ⟨ds, bl, own, ownr, g, ?_⟩
              (repeat apply Exists.intro)
              exact ⟨⟨HP1.out, HZ1.out, (HBD.out.mono (by omega))⟩, rfl⟩
        case rest =>
          intro a' wc hinv
          clear HP1 HZ1 HBD
          obtain ⟨ds, bl, own, ownr, g, hinv⟩ := hinv
          obtain ⟨u0, hinv⟩ := hinv
          obtain ⟨u1, hinv⟩ := hinv
          obtain ⟨u5, hinv⟩ := hinv
          obtain ⟨u7, hinv⟩ := hinv
          obtain ⟨u8, hinv⟩ := hinv
          obtain ⟨u9, hinv⟩ := hinv
          obtain ⟨u10, hinv⟩ := hinv
          obtain ⟨u11, hinv⟩ := hinv
          obtain ⟨u12, hinv⟩ := hinv
          obtain ⟨u13, hinv⟩ := hinv
          obtain ⟨u14, hinv⟩ := hinv
          obtain ⟨u15, hinv⟩ := hinv
          obtain ⟨u16, hinv⟩ := hinv
          obtain ⟨u17, hinv⟩ := hinv
          obtain ⟨u18, hinv⟩ := hinv
          obtain ⟨u19, hinv⟩ := hinv
          obtain ⟨u20, hinv⟩ := hinv
          obtain ⟨u21, hinv⟩ := hinv
          obtain ⟨u22, hinv⟩ := hinv
          obtain ⟨u23, hinv⟩ := hinv
          obtain ⟨u24, hinv⟩ := hinv
          obtain ⟨u28, hinv⟩ := hinv
          obtain ⟨u29, hinv⟩ := hinv
          obtain ⟨u30, hinv⟩ := hinv
          obtain ⟨u31, hinv⟩ := hinv
          obtain ⟨u32, hinv⟩ := hinv
          obtain ⟨u33, hinv⟩ := hinv
          obtain ⟨u34, hinv⟩ := hinv
          obtain ⟨u35, hinv⟩ := hinv
          obtain ⟨u36, hinv⟩ := hinv
          obtain ⟨u37, hinv⟩ := hinv
          obtain ⟨u38, hinv⟩ := hinv
          obtain ⟨u39, hinv⟩ := hinv
          obtain ⟨u40, hinv⟩ := hinv
          obtain ⟨u41, hinv⟩ := hinv
          obtain ⟨u42, hinv⟩ := hinv
          obtain ⟨u43, hinv⟩ := hinv
          obtain ⟨u44, hinv⟩ := hinv
          obtain ⟨u45, hinv⟩ := hinv
          obtain ⟨u46, hinv⟩ := hinv
          obtain ⟨u47, hinv⟩ := hinv
          obtain ⟨u48, hinv⟩ := hinv
          obtain ⟨u49, hinv⟩ := hinv
          obtain ⟨u50, hinv⟩ := hinv
          obtain ⟨u51, hinv⟩ := hinv
          obtain ⟨u52, hinv⟩ := hinv
          obtain ⟨u53, hinv⟩ := hinv
          obtain ⟨u54, hinv⟩ := hinv
          obtain ⟨u55, hinv⟩ := hinv
          obtain ⟨u56, hinv⟩ := hinv
          obtain ⟨u57, hinv⟩ := hinv
          obtain ⟨u58, hinv⟩ := hinv
          obtain ⟨u59, hinv⟩ := hinv
          obtain ⟨u60, hinv⟩ := hinv
          obtain ⟨u61, hinv⟩ := hinv
          obtain ⟨u62, hinv⟩ := hinv
          obtain ⟨u63, hinv⟩ := hinv
          obtain ⟨u64, hinv⟩ := hinv
          obtain ⟨u65, hinv⟩ := hinv
          obtain ⟨u66, hinv⟩ := hinv
          obtain ⟨u67, hinv⟩ := hinv
          obtain ⟨u68, hinv⟩ := hinv
          obtain ⟨u69, hinv⟩ := hinv
          obtain ⟨u70, hinv⟩ := hinv
          obtain ⟨u71, hinv⟩ := hinv
          obtain ⟨u72, hinv⟩ := hinv
          obtain ⟨u73, hinv⟩ := hinv
          obtain ⟨u74, hinv⟩ := hinv
          obtain ⟨u75, hinv⟩ := hinv
          obtain ⟨u76, hinv⟩ := hinv
          obtain ⟨u77, hinv⟩ := hinv
          obtain ⟨u78, hinv⟩ := hinv
          obtain ⟨u79, hinv⟩ := hinv
          obtain ⟨u80, hinv⟩ := hinv
          obtain ⟨u81, hinv⟩ := hinv
          obtain ⟨u82, hinv⟩ := hinv
          obtain ⟨u83, hinv⟩ := hinv
          obtain ⟨u84, hinv⟩ := hinv
          obtain ⟨u85, hinv⟩ := hinv
          obtain ⟨u86, hinv⟩ := hinv
          obtain ⟨u87, hinv⟩ := hinv
          obtain ⟨u88, hinv⟩ := hinv
          obtain ⟨u89, hinv⟩ := hinv
          obtain ⟨u90, hinv⟩ := hinv
          obtain ⟨u91, hinv⟩ := hinv
          obtain ⟨u92, hinv⟩ := hinv
          obtain ⟨u93, hinv⟩ := hinv
          obtain ⟨u94, hinv⟩ := hinv
          obtain ⟨u95, hinv⟩ := hinv
          obtain ⟨u96, hinv⟩ := hinv
          obtain ⟨u97, hinv⟩ := hinv
          obtain ⟨u98, hinv⟩ := hinv
          obtain ⟨u99, hinv⟩ := hinv
          obtain ⟨u100, hinv⟩ := hinv
          obtain ⟨u101, hinv⟩ := hinv
          obtain ⟨u102, hinv⟩ := hinv
          obtain ⟨u103, hinv⟩ := hinv
          obtain ⟨u104, hinv⟩ := hinv
          obtain ⟨u105, hinv⟩ := hinv
          obtain ⟨u106, hinv⟩ := hinv
          obtain ⟨u107, hinv⟩ := hinv
          obtain ⟨u108, hinv⟩ := hinv
          obtain ⟨u109, hinv⟩ := hinv
          obtain ⟨u110, hinv⟩ := hinv
          obtain ⟨u111, hinv⟩ := hinv
          obtain ⟨u112, hinv⟩ := hinv
          obtain ⟨u113, hinv⟩ := hinv
          obtain ⟨u114, hinv⟩ := hinv
          obtain ⟨u115, hinv⟩ := hinv
          obtain ⟨u116, hinv⟩ := hinv
          obtain ⟨u117, hinv⟩ := hinv
          obtain ⟨u118, hinv⟩ := hinv
          obtain ⟨u119, hinv⟩ := hinv
          obtain ⟨u120, hinv⟩ := hinv
          obtain ⟨u121, hinv⟩ := hinv
          obtain ⟨u122, hinv⟩ := hinv
          obtain ⟨u123, hinv⟩ := hinv
          obtain ⟨u124, hinv⟩ := hinv
          obtain ⟨u125, hinv⟩ := hinv
          obtain ⟨u126, hinv⟩ := hinv
          obtain ⟨u127, hinv⟩ := hinv
          obtain ⟨u128, hinv⟩ := hinv
          obtain ⟨u129, hinv⟩ := hinv
          obtain ⟨u130, hinv⟩ := hinv
          obtain ⟨u131, hinv⟩ := hinv
          obtain ⟨u132, hinv⟩ := hinv
          obtain ⟨u133, hinv⟩ := hinv
          obtain ⟨u134, hinv⟩ := hinv
          obtain ⟨u135, hinv⟩ := hinv
          obtain ⟨u136, hinv⟩ := hinv
          obtain ⟨u137, hinv⟩ := hinv
          obtain ⟨u138, hinv⟩ := hinv
          obtain ⟨u139, hinv⟩ := hinv
          obtain ⟨u140, hinv⟩ := hinv
          obtain ⟨u141, hinv⟩ := hinv
          obtain ⟨u142, hinv⟩ := hinv
          obtain ⟨u143, hinv⟩ := hinv
          obtain ⟨u144, hinv⟩ := hinv
          obtain ⟨u145, hinv⟩ := hinv
          obtain ⟨u146, hinv⟩ := hinv
          obtain ⟨u147, hinv⟩ := hinv
          obtain ⟨u148, hinv⟩ := hinv
          obtain ⟨u149, hinv⟩ := hinv
          obtain ⟨u150, hinv⟩ := hinv
          obtain ⟨u151, hinv⟩ := hinv
          obtain ⟨u152, hinv⟩ := hinv
          obtain ⟨u153, hinv⟩ := hinv
          obtain ⟨u154, hinv⟩ := hinv
          obtain ⟨u155, hinv⟩ := hinv
          obtain ⟨u156, hinv⟩ := hinv
          obtain ⟨u157, hinv⟩ := hinv
          obtain ⟨u158, hinv⟩ := hinv
          obtain ⟨u159, hinv⟩ := hinv
          obtain ⟨u160, hinv⟩ := hinv
          obtain ⟨u161, hinv⟩ := hinv
          obtain ⟨u162, hinv⟩ := hinv
          obtain ⟨u163, hinv⟩ := hinv
          obtain ⟨u164, hinv⟩ := hinv
          obtain ⟨u165, hinv⟩ := hinv
          obtain ⟨u166, hinv⟩ := hinv
          obtain ⟨u167, hinv⟩ := hinv
          obtain ⟨u168, hinv⟩ := hinv
          obtain ⟨u169, hinv⟩ := hinv
          obtain ⟨u170, hinv⟩ := hinv
          obtain ⟨u171, hinv⟩ := hinv
          obtain ⟨u172, hinv⟩ := hinv
          obtain ⟨u173, hinv⟩ := hinv
          obtain ⟨u174, hinv⟩ := hinv
          obtain ⟨u175, hinv⟩ := hinv
          obtain ⟨u176, hinv⟩ := hinv
          obtain ⟨u177, hinv⟩ := hinv
          obtain ⟨u178, hinv⟩ := hinv
          obtain ⟨u179, hinv⟩ := hinv
          obtain ⟨u180, hinv⟩ := hinv
          obtain ⟨u181, hinv⟩ := hinv
          obtain ⟨u182, hinv⟩ := hinv
          obtain ⟨u183, hinv⟩ := hinv
          obtain ⟨u184, hinv⟩ := hinv
          obtain ⟨u185, hinv⟩ := hinv
          obtain ⟨u186, hinv⟩ := hinv
          obtain ⟨u187, hinv⟩ := hinv
          obtain ⟨u188, hinv⟩ := hinv
          obtain ⟨u189, hinv⟩ := hinv
          obtain ⟨u190, hinv⟩ := hinv
          obtain ⟨u191, hinv⟩ := hinv
          obtain ⟨u192, hinv⟩ := hinv
          obtain ⟨u193, hinv⟩ := hinv
          obtain ⟨u194, hinv⟩ := hinv
          obtain ⟨u195, hinv⟩ := hinv
          obtain ⟨u196, hinv⟩ := hinv
          obtain ⟨u197, hinv⟩ := hinv
          obtain ⟨u198, hinv⟩ := hinv
          obtain ⟨u199, hinv⟩ := hinv
          obtain ⟨u200, hinv⟩ := hinv
          obtain ⟨u201, hinv⟩ := hinv
          obtain ⟨u202, hinv⟩ := hinv
          obtain ⟨u203, hinv⟩ := hinv
          obtain ⟨u204, hinv⟩ := hinv
          obtain ⟨u205, hinv⟩ := hinv
          obtain ⟨u206, hinv⟩ := hinv
          obtain ⟨u207, hinv⟩ := hinv
          obtain ⟨u208, hinv⟩ := hinv
          obtain ⟨u209, hinv⟩ := hinv
          obtain ⟨⟨hp, hz, hbd⟩, ha⟩ := hinv
          subst ha
          (try dsimp only)
          have HP1 := Lib.hid hp
          have HZ1 := Lib.hid hz
          have HBD := Lib.hid hbd
          clear hp hz hbd
          go_wp2_with fail
          refine regionN (RP.take 0 (RP.take 1 (RP.take 2 (RP.take 4 (RP.take 5 (RP.take 6 (RP.run 3 (RP.run 7 (RP.run 8 (RP.take 9 (RP.take 10 (RP.take 11 (RP.take 13 (RP.run 12 (RP.run 14 (RP.run 15 (RP.take 16 (RP.take 17 RP.done)))))))))))))))))) (fun w' => Lies w' dx 31 (Kdo.cs ⟨xk, xa, .slice sx xkey.length cx, xkey, .slice sy xval.length cy, xval, xn⟩).toArray ∧ Lies w' b3 28 #[.pointer (some ⟨bl, 0, none⟩)] ∧ Lies w' b4 72 #[.pointer (some ⟨br, 0, none⟩)]) (by as_aux_lemma => kernel_rfl) (by as_aux_lemma => kernel_rfl) ⟨HZ1.out.lies List.mem_cons_self, HZ1.out.lies (List.mem_cons_of_mem _ List.mem_cons_self), HZ1.out.lies (List.mem_cons_of_mem _ (List.mem_cons_of_mem _ List.mem_cons_self))⟩ (fun hS => ?_)
          have HP2 := Lib.hid (HP1.out.later (Below.refl _ _).drew)
          have HZ2 := Lib.hid (HZ1.out.later (Below.refl _ _).drew)
          generalize wc.drew = V at hS HP2 HZ2 ⊢
          clear HP1 HZ1
          clear hS
          repeat (first | (refine RP.t_take (v := ?_) rfl rfl (fun w' hw' => ?_) ?_; rotate_left; (focus ((obtain ⟨hxf, h3f, h4f⟩ := hw'; have q3 := h3f.cell 0; have q4 := h4f.cell 0; simp only [List.getElem?_toArray, List.getElem?_cons_zero] at q3 q4; obtain ⟨d0, d1, d2, d3, d4, d5, d6, d7, d8, d9, d10, d11⟩ := lies_kdo hxf); go_simp; (try go_bits); (try (with_reducible rfl)))); (try simp only [Act.put, List.setIfInBounds_toArray, List.set_cons_zero, List.set_cons_succ])) | (refine RP.t_skip rfl rfl ?_; (try simp only [Act.put, List.setIfInBounds_toArray, List.set_cons_zero, List.set_cons_succ])))
          refine RP.t_run rfl (fun KK hKK => ?_)
          go_simp
          refine (sto_list HP2.out.s HBD.out (by omega) xa).mono ?_
          rintro ex V3 ⟨v1, T1, rfl, hS1, hT1, hb⟩
          have HS1 := Lib.hid (hS1.later (Below.refl _ _))
          have HT1 := Lib.hid hT1
          clear hS1 hT1
          have HP3 := Lib.hid (HP2.out.later hb)
          have HZ3 := Lib.hid (HZ2.out.later hb)
          refine hKK.out _ _ ⟨HZ3.out.lies List.mem_cons_self, HZ3.out.lies (List.mem_cons_of_mem _ List.mem_cons_self), HZ3.out.lies (List.mem_cons_of_mem _ (List.mem_cons_of_mem _ List.mem_cons_self))⟩ ?_
          clear hKK KK hb HP2 HZ2
          (try simp only [Act.put, List.setIfInBounds_toArray, List.set_cons_zero, List.set_cons_succ])
          repeat (first | (refine RP.t_take (v := ?_) rfl rfl (fun w' hw' => ?_) ?_; rotate_left; (focus ((obtain ⟨hxf, h3f, h4f⟩ := hw'; have q3 := h3f.cell 0; have q4 := h4f.cell 0; simp only [List.getElem?_toArray, List.getElem?_cons_zero] at q3 q4; obtain ⟨d0, d1, d2, d3, d4, d5, d6, d7, d8, d9, d10, d11⟩ := lies_kdo hxf); go_simp; (try go_bits); (try (with_reducible rfl)))); (try simp only [Act.put, List.setIfInBounds_toArray, List.set_cons_zero, List.set_cons_succ])) | (refine RP.t_skip rfl rfl ?_; (try simp only [Act.put, List.setIfInBounds_toArray, List.set_cons_zero, List.set_cons_succ])))
          refine RP.t_run rfl (fun KK hKK => ?_)
          go_simp
          refine (dto_list HP3.out.d HBD.out (by omega) xa).mono ?_
          rintro ex V4 ⟨v2, T2, rfl, hS2, hT2, hb⟩
          have HS2 := Lib.hid (hS2.later (Below.refl _ _))
          have HT2 := Lib.hid hT2
          clear hS2 hT2
          have HP4 := Lib.hid (HP3.out.later hb)
          have HZ4 := Lib.hid (HZ3.out.later hb)
          have HS1b := Lib.hid (HS1.out.later hb)
          refine hKK.out _ _ ⟨HZ4.out.lies List.mem_cons_self, HZ4.out.lies (List.mem_cons_of_mem _ List.mem_cons_self), HZ4.out.lies (List.mem_cons_of_mem _ (List.mem_cons_of_mem _ List.mem_cons_self))⟩ ?_
          clear hKK KK hb HP3 HZ3 HS1
          (try simp only [Act.put, List.setIfInBounds_toArray, List.set_cons_zero, List.set_cons_succ])
          repeat (first | (refine RP.t_take (v := ?_) rfl rfl (fun w' hw' => ?_) ?_; rotate_left; (focus ((obtain ⟨hxf, h3f, h4f⟩ := hw'; have q3 := h3f.cell 0; have q4 := h4f.cell 0; simp only [List.getElem?_toArray, List.getElem?_cons_zero] at q3 q4; obtain ⟨d0, d1, d2, d3, d4, d5, d6, d7, d8, d9, d10, d11⟩ := lies_kdo hxf); go_simp; (try go_bits); (try (with_reducible rfl)))); (try simp only [Act.put, List.setIfInBounds_toArray, List.set_cons_zero, List.set_cons_succ])) | (refine RP.t_skip rfl rfl ?_; (try simp only [Act.put, List.setIfInBounds_toArray, List.set_cons_zero, List.set_cons_succ])))
          have hlT : T1.length ≤ k + 1 := by have := HT1.out.len HBD.out; rwa [saidP_len] at this
          have hc1 := samep_any HS1b.out HS2.out (by omega)
          rw [decide_eq_true (HT1.out.uniq HT2.out)] at hc1
          replace hc1 := Lib.hid hc1
          clear hlT HS1b HS2 HT1 HT2
          refine RP.t_run rfl (fun KK hKK => ?_)
          go_simp
          refine (hc1.out).mono ?_
          rintro ex V5 ⟨rfl, hb⟩
          clear hc1
          have HP5 := Lib.hid (HP4.out.later hb)
          have HZ5 := Lib.hid (HZ4.out.later hb)
          refine hKK.out _ _ ⟨HZ5.out.lies List.mem_cons_self, HZ5.out.lies (List.mem_cons_of_mem _ List.mem_cons_self), HZ5.out.lies (List.mem_cons_of_mem _ (List.mem_cons_of_mem _ List.mem_cons_self))⟩ ?_
          clear hKK KK hb HP4 HZ4
          (try simp only [Act.put, List.setIfInBounds_toArray, List.set_cons_zero, List.set_cons_succ])
          repeat (first | (refine RP.t_take (v := ?_) rfl rfl (fun w' hw' => ?_) ?_; rotate_left; (focus ((obtain ⟨hxf, h3f, h4f⟩ := hw'; have q3 := h3f.cell 0; have q4 := h4f.cell 0; simp only [List.getElem?_toArray, List.getElem?_cons_zero] at q3 q4; obtain ⟨d0, d1, d2, d3, d4, d5, d6, d7, d8, d9, d10, d11⟩ := lies_kdo hxf); go_simp; (try go_bits); (try (with_reducible rfl)))); (try simp only [Act.put, List.setIfInBounds_toArray, List.set_cons_zero, List.set_cons_succ])) | (refine RP.t_skip rfl rfl ?_; (try simp only [Act.put, List.setIfInBounds_toArray, List.set_cons_zero, List.set_cons_succ])))
          refine RP.t_run rfl (fun KK hKK => ?_)
          go_simp
          refine (sto_all HP5.out.s HBD.out (by omega)).mono ?_
          rintro ex V6 ⟨v3, ts3, rfl, hS3, hR3, hM3, hl3, hb⟩
          have HS3 := Lib.hid (hS3.later (Below.refl _ _))
          have HR3 := Lib.hid (And.intro hR3 hM3)
          clear hS3 hR3 hM3
          have HP6 := Lib.hid (HP5.out.later hb)
          have HZ6 := Lib.hid (HZ5.out.later hb)
          refine hKK.out _ _ ⟨HZ6.out.lies List.mem_cons_self, HZ6.out.lies (List.mem_cons_of_mem _ List.mem_cons_self), HZ6.out.lies (List.mem_cons_of_mem _ (List.mem_cons_of_mem _ List.mem_cons_self))⟩ ?_
          clear hKK KK hb HP5 HZ5
          (try simp only [Act.put, List.setIfInBounds_toArray, List.set_cons_zero, List.set_cons_succ])
          repeat (first | (refine RP.t_take (v := ?_) rfl rfl (fun w' hw' => ?_) ?_; rotate_left; (focus ((obtain ⟨hxf, h3f, h4f⟩ := hw'; have q3 := h3f.cell 0; have q4 := h4f.cell 0; simp only [List.getElem?_toArray, List.getElem?_cons_zero] at q3 q4; obtain ⟨d0, d1, d2, d3, d4, d5, d6, d7, d8, d9, d10, d11⟩ := lies_kdo hxf); go_simp; (try go_bits); (try (with_reducible rfl)))); (try simp only [Act.put, List.setIfInBounds_toArray, List.set_cons_zero, List.set_cons_succ])) | (refine RP.t_skip rfl rfl ?_; (try simp only [Act.put, List.setIfInBounds_toArray, List.set_cons_zero, List.set_cons_succ])))
          refine RP.t_run rfl (fun KK hKK => ?_)
          go_simp
          refine (dto_all HP6.out.d HBD.out (by omega)).mono ?_
          rintro ex V7 ⟨v4, ts4, rfl, hS4, hR4, hM4, hb⟩
          have HS4 := Lib.hid (hS4.later (Below.refl _ _))
          have HR4 := Lib.hid (And.intro hR4 hM4)
          clear hS4 hR4 hM4
          have HP7 := Lib.hid (HP6.out.later hb)
          have HZ7 := Lib.hid (HZ6.out.later hb)
          have HS3b := Lib.hid (HS3.out.later hb)
          refine hKK.out _ _ ⟨HZ7.out.lies List.mem_cons_self, HZ7.out.lies (List.mem_cons_of_mem _ List.mem_cons_self), HZ7.out.lies (List.mem_cons_of_mem _ (List.mem_cons_of_mem _ List.mem_cons_self))⟩ ?_
          clear hKK KK hb HP6 HZ6 HS3
          (try simp only [Act.put, List.setIfInBounds_toArray, List.set_cons_zero, List.set_cons_succ])
          repeat (first | (refine RP.t_take (v := ?_) rfl rfl (fun w' hw' => ?_) ?_; rotate_left; (focus ((obtain ⟨hxf, h3f, h4f⟩ := hw'; have q3 := h3f.cell 0; have q4 := h4f.cell 0; simp only [List.getElem?_toArray, List.getElem?_cons_zero] at q3 q4; obtain ⟨d0, d1, d2, d3, d4, d5, d6, d7, d8, d9, d10, d11⟩ := lies_kdo hxf); go_simp; (try go_bits); (try (with_reducible rfl)))); (try simp only [Act.put, List.setIfInBounds_toArray, List.set_cons_zero, List.set_cons_succ])) | (refine RP.t_skip rfl rfl ?_; (try simp only [Act.put, List.setIfInBounds_toArray, List.set_cons_zero, List.set_cons_succ])))
          have hc1 := equal_any HS3b.out HS4.out (by omega)
          rw [decide_eq_true (rise_uniq HR3.out.1 HR4.out.1 (fun a => (HR3.out.2 a).trans (HR4.out.2 a).symm))] at hc1
          replace hc1 := Lib.hid hc1
          clear HS3b HS4 HR3 HR4 hl3
          refine RP.t_run rfl (fun KK hKK => ?_)
          go_simp
          refine (hc1.out).mono ?_
          rintro ex V8 ⟨rfl, hb⟩
          clear hc1
          have HP8 := Lib.hid (HP7.out.later hb)
          have HZ8 := Lib.hid (HZ7.out.later hb)
          refine hKK.out _ _ ⟨HZ8.out.lies List.mem_cons_self, HZ8.out.lies (List.mem_cons_of_mem _ List.mem_cons_self), HZ8.out.lies (List.mem_cons_of_mem _ (List.mem_cons_of_mem _ List.mem_cons_self))⟩ ?_
          clear hKK KK hb HP7 HZ7
          (try simp only [Act.put, List.setIfInBounds_toArray, List.set_cons_zero, List.set_cons_succ])
          repeat (first | (refine RP.t_take (v := ?_) rfl rfl (fun w' hw' => ?_) ?_; rotate_left; (focus ((obtain ⟨hxf, h3f, h4f⟩ := hw'; have q3 := h3f.cell 0; have q4 := h4f.cell 0; simp only [List.getElem?_toArray, List.getElem?_cons_zero] at q3 q4; obtain ⟨d0, d1, d2, d3, d4, d5, d6, d7, d8, d9, d10, d11⟩ := lies_kdo hxf); go_simp; (try go_bits); (try (with_reducible rfl)))); (try simp only [Act.put, List.setIfInBounds_toArray, List.set_cons_zero, List.set_cons_succ])) | (refine RP.t_skip rfl rfl ?_; (try simp only [Act.put, List.setIfInBounds_toArray, List.set_cons_zero, List.set_cons_succ])))
          refine RP.t_done ⟨rfl, ?_⟩
          go_wp2_with fail
          refine ⟨⟨k + 1, ds, bl, own, ownr, g, ?_⟩, ?_⟩
          · (repeat apply Exists.intro)
            refine ⟨?_, rfl⟩
            exact ⟨by omega, by go_num, HP8.out, HZ8.out.tail, HBD.out⟩
          · simp [intOf]; omega
      · as_aux_lemma =>
          obtain rfl : k = X.length := by omega
          have hc := (HZ.out.lies (List.mem_cons_of_mem _ (List.mem_cons_of_mem _ List.mem_cons_self))).cell 0
          simp only [List.getElem?_toArray, List.getElem?_cons_zero] at hc
          have hf := (HZ.out.lies (List.mem_cons_of_mem _ (List.mem_cons_of_mem _ List.mem_cons_self))).frozen 0
          go_wp2_with fail
          have hm := HZ.out.m.set (HZ.out.lies (List.mem_cons_of_mem _ (List.mem_cons_of_mem _ List.mem_cons_self))) 0 (.bool true)
          have hl := (HZ.out.lies (List.mem_cons_of_mem _ (List.mem_cons_of_mem _ List.mem_cons_self))).set 0 (.bool true)
          have hB := HP.out.below.setCell (p := ⟨W.heap.size, 0, none⟩) (Nat.le_refl _) (.bool true)
          obtain ⟨Ds, hds, hn, hD⟩ := hm
          subst hds
          refine leaves_marks Ds _ hn (fun D h => (hD D h).2.2) (fun w' hw' => ?_)
          have hnd : W.heap.size ∉ Ds := fun e => by
            have h4 := (hD _ e).2.2
            rw [show (wr.setCell ⟨W.heap.size, 0, none⟩ (.bool true)).heap[W.heap.size]? = _ from hl] at h4
            cases h4
          have hl2 := lies_fr hl hw' hnd
          have hc2 := hl2.cell 0
          simp at hc2
          refine ⟨.bool true, results_cell1 rfl _ _ W.heap.size (.bool true) rfl ?_, rfl, hB.trans (hw'.below hB.size (fun k e => (hD k e).1))⟩
          simp [loadVar, go_sem, hc2]
end Go.Proofs.Yteeghdkejnhjnaa.Kv
