/- The law's known: the chapter's rows; no book. -/
import Derived.Test.YteeghdkejnhjnaaBoO
namespace Go.Proofs.Yteeghdkejnhjnaa.Bo
open Go Go.RowKit Kt Ad

def kA : A8 := ⟨1, 0, 0, 0, 0, 0, 0, 0⟩
def kB : A8 := ⟨2, 0, 0, 0, 0, 0, 0, 0⟩
abbrev E1s : List (A8 × List UInt8) := [(kA, [120])]
abbrev E2s : List (A8 × List UInt8) := [(kA, [120]), (kB, [])]
theorem said_len (E : List Ev) : (said E).length = E.length := List.length_map ..
theorem said_drop (E : List Ev) (k : Nat) : said (E.drop k) = (said E).drop k := by unfold said; rw [List.map_drop]
theorem said_takes (E : List Ev) (k : Nat) : said (E.take k) = (said E).take k := by unfold said; rw [List.map_take]
theorem said_short {E : List Ev} {S : List (A8 × List UInt8)} (h : said E = S) (hs : ∀ x ∈ S, x.2.length ≤ 1000000) : ∀ x ∈ E, x.b.length ≤ 1000000 := fun x hx => hs (x.a, x.b) (h ▸ List.mem_map.2 ⟨x, hx, rfl⟩)
theorem byt_nil (w : World) (n : Nat) : Byt w (.slice none 0 n) [] := ⟨none, n, rfl, fun h => absurd rfl h⟩
theorem shows_one (w : World) (x : Ev) (hb : Byt w x.v x.b) : Shows (w.alloc (.cells x.cs.toArray 66)) (.slice (some ⟨w.heap.size, 0, none⟩) 1 1) [x] := by
  refine ⟨⟨_, 1, rfl, fun _ => ⟨w.heap.size, 0, rfl, by simp, fun j u hj => ?_⟩⟩, fun y hy => ?_⟩
  · have := cells_new w x.cs 66 j u (by simpa using hj)
    simpa [Addr.add_lit] using this
  · obtain rfl : y = x := by simpa using hy
    exact hb.later ((Below.refl _ _).alloc (Nat.le_refl _) _)
theorem build_ev0 (a : A8) (w : World) : (Instr.build 66 #[(0, a.v)]).run Try.prog w = .ok (.agg (Ev.cs ⟨a, .slice none 0 0, []⟩).toArray) w := by kernel_rfl
theorem exec_build0 {op : Oper} {a : Act} (x : A8) (p0 : Operand) (ho : op.op = .build 66 #[(0, p0)]) (h0 : a.eval p0 = x.v) (w : World) :
    (execOp a.eval op).run Try.prog w = .ok (.value (.agg (Ev.cs ⟨x, .slice none 0 0, []⟩).toArray)) w := by
  have hb := build_ev0 x w
  unfold execOp
  simp [ho, h0, hb]
/-- The bytes of a constant: the row is marked. -/
theorem run_mark {w : World} {g : Nat} {C : Array Value} (h : Lies w g 5 C) (n c : Nat) :
    (convert 25 25 (.slice (some ⟨g, 0, none⟩) n c)).run Try.prog w = .ok (.slice (some ⟨g, 0, none⟩) n c) (w.freeze ⟨g, C.size, none⟩ 1) := by
  have hs : w.shape? g = some (5, C.size) := by unfold World.shape?; rw [show w.heap[g]? = _ from h]
  simp [convert, run_underlying Try.underlying25, run_underlying Try.underlying5, markStringish, shape, freeze, Sem.run, hs]
theorem freeze_fr {w : World} {g : Nat} {C : Array Value} (h : Lies w g 5 C) : Fr w (w.freeze ⟨g, C.size, none⟩ 1) (fun k => k = g) ∧ (∀ i, (w.freeze ⟨g, C.size, none⟩ 1).cell? ⟨g, i, none⟩ = C[i]?) := by
  unfold World.freeze
  rw [if_neg (by decide)]
  refine ⟨⟨rfl, rfl, rfl, by simp, fun k _ hk => ?_⟩, fun i => ?_⟩
  · simp only [Array.getElem?_modify]
    rw [if_neg (fun e => hk e.symm)]
  · simp [World.cell?, Array.getElem?_modify, show w.heap[g]? = _ from h]
theorem wp_mark {op : Oper} {a : Act} {w : World} {K : Act → World → Prop} {Q : Exit → Act → World → Prop} {g : Nat} {x : UInt8} (h : Lies w g 5 #[.int .u8 (x.toNat : Int)]) (p : Operand) (n c : Nat) (ho : op.op = .convert 25 25 p) (h0 : a.eval p = .slice (some ⟨g, 0, none⟩) n c)
    (hK : ∀ w', Fr w w' (fun k => k = g) → Byt w' (.slice (some ⟨g, 0, none⟩) 1 1) [x] → K (a.put op.dst (.slice (some ⟨g, 0, none⟩) n c)) w') : Oper.wp Try.prog op a w K Q := by
  have hb := run_mark h n c
  obtain ⟨hf, hc⟩ := freeze_fr h
  have := hK _ hf ⟨_, 1, rfl, fun _ => ⟨g, 0, rfl, Nat.lt_of_lt_of_le h.lt hf.size, fun j u hj => by rw [Nat.zero_add, hc]; cases j <;> simp_all [u8v]⟩⟩
  unfold Oper.wp execOp
  simp [ho, h0, hb]
  exact this

theorem some_of_map {α β : Type} {f : α → β} {o : Option α} {b : β} (h : o.map f = some b) : o.isSome = true := by cases o with | none => cases h | some _ => rfl
structure Kn (W w : World) (own : Nat → Prop) (bl bm : Nat) (vr : Value) (E : List Ev) (C : Cs) : Prop where
  a : Lies w W.heap.size 24 kA.cs.toArray
  b : Lies w (W.heap.size + 1) 24 kB.cs.toArray
  k : Bk w own bl bm vr E C
  ho : ∀ i, w.heap.size ≤ i → own i
  lo : ∀ i, own i → W.heap.size + 2 ≤ i
  below : Below W.heap.size W w
section
variable {W w w' : World} {own : Nat → Prop} {bl bm g : Nat} {vr vr' : Value} {E E' : List Ev} {C C' : Cs}
theorem Kn.owned (h : Kn W w own bl bm vr E C) (hk : Bk w' own bl bm vr' E' C') (hf : Fr w w' own) : Kn W w' own bl bm vr' E' C' :=
  ⟨lies_fr h.a hf (fun e => by have := h.lo _ e; omega), lies_fr h.b hf (fun e => by have := h.lo _ e; omega), hk, fun i hi => h.ho i (Nat.le_trans hf.size hi), h.lo, h.below.trans (hf.below h.below.size (fun k hk => by have := h.lo _ hk; omega))⟩
theorem Kn.later (h : Kn W w own bl bm vr E C) (hb : Below w.heap.size w w') : Kn W w' own bl bm vr E C := h.owned (h.k.later hb) (Fr.of_below hb _)
theorem Kn.drew (h : Kn W w own bl bm vr E C) : Kn W w.drew own bl bm vr E C := h.later (Below.refl _ _).drew
theorem Kn.lit (h : Kn W w (fun i => W.heap.size + 2 ≤ i) bl bm vr E C) (o : Obj) : Kn W (w.alloc o) (fun i => W.heap.size + 2 ≤ i ∧ i ≠ w.heap.size) bl bm vr E C := by
  have hb : Below w.heap.size w (w.alloc o) := (Below.refl _ _).alloc (Nat.le_refl _) _
  have h' := h.later hb
  exact ⟨h'.a, h'.b, (h.k.mono (fun k hk ho => ⟨ho, by omega⟩)).later hb, fun i hi => by simp only [World.size_alloc] at hi; have := h.ho i (by omega); omega, fun i hi => hi.1, h'.below⟩
theorem Kn.marked (h : Kn W w (fun i => W.heap.size + 2 ≤ i ∧ i ≠ g) bl bm vr E C) (hf : Fr w w' (fun k => k = g)) (hg : W.heap.size + 2 ≤ g) : Kn W w' (fun i => W.heap.size + 2 ≤ i) bl bm vr E C :=
  ⟨lies_fr h.a hf (by omega), lies_fr h.b hf (by omega), (h.k.kept hf (fun k hk e => hk.2 e)).mono (fun k _ hk => hk.1), fun i hi => (h.ho i (Nat.le_trans hf.size hi)).1, fun i hi => hi, h.below.trans (hf.below h.below.size (fun k hk => by omega))⟩
theorem Told.later {v : Value} (h : Told w own v E) (hb : Below w.heap.size w w') : Told w' own v E := h.kept (m := fun _ => False) (Fr.of_below hb _) (fun _ _ h => h)
end

set_option maxRecDepth 100000 in
set_option maxHeartbeats 8000000 in
theorem known_any (W : World) : Calls Try.prog 19 #[] W fun e w' => e = .returned (.bool true) ∧ Below W.heap.size W w' := by
  go_enter Try.func19, Try.ntmps19
  go_wp2_with fail
  refine (new_any _).mono ?_
  rintro en w0 ⟨bl, bm, rfl, hK, hB⟩
  have hs2 : ∀ (x y : Obj), ((W.alloc x).alloc y).heap.size = W.heap.size + 2 := fun x y => by simp only [World.size_alloc]
  have hsz := hB.size
  rw [hs2] at hK hsz
  have H := Lib.hid (show Kn W w0 (fun i => W.heap.size + 2 ≤ i) bl bm (.slice none 0 0) [] [] from
    ⟨((Lies.new W 24 kA.cs.toArray).alloc (.cells kB.cs.toArray 24)).below hB (by simp only [World.size_alloc]; omega),
     (by have := Lies.new (W.alloc (.cells kA.cs.toArray 24)) 24 kB.cs.toArray; rw [World.size_alloc] at this; exact this.below hB (by simp only [World.size_alloc]; omega)),
     hK, fun i hi => by omega, fun i hi => hi,
     (((Below.refl W.heap.size W).alloc (Nat.le_refl _) (.cells kA.cs.toArray 24)).alloc (by simp only [World.size_alloc]; omega) (.cells kB.cs.toArray 24)).trans (hB.mono (by simp only [World.size_alloc]; omega))⟩)
  clear hK hB hs2 hsz
  go_wp2_with fail
  refine RP.region (RP.take 0 (RP.take 1 (RP.run 2 (RP.run 3 (RP.run 4 (RP.take 5 (RP.take 6 (RP.take 7 (RP.take 8 (RP.run 9 (RP.take 10 (RP.take 11 (RP.take 12 (RP.take 13 (RP.run 14 (RP.take 15 (RP.take 16 (RP.take 17 (RP.take 18 (RP.take 20 (RP.take 21 (RP.fork 19 22 (RP.run 22 (RP.run 23 (RP.take 24 (RP.take 25 (RP.take 26 (RP.take 27 (RP.run 28 (RP.take 29 (RP.take 30 (RP.take 31 RP.done)))))))))) (RP.run 19 (RP.run 23 (RP.take 24 (RP.take 25 (RP.take 26 (RP.take 27 (RP.run 28 (RP.take 29 (RP.take 30 (RP.take 31 RP.done)))))))))))))))))))))))))))))))) (fun w' => Lies w' W.heap.size 24 kA.cs.toArray ∧ Lies w' (W.heap.size + 1) 24 kB.cs.toArray) (by as_aux_lemma => kernel_rfl) (by as_aux_lemma => kernel_rfl) (fun _ _ d _ _ h => by cases d <;> exact h) ⟨H.out.a.drew, H.out.b.drew⟩ (fun hS => ?_)
  clear hS
  replace H := Lib.hid H.out.drew
  generalize w0.drew = U1 at H ⊢
  repeat (first | (refine RP.t_take (v := ?_) rfl rfl (fun w' hw' => ?_) ?_; rotate_left; (focus ((obtain ⟨hAf, hBf⟩ := hw'; obtain ⟨a0, a1, a2, a3, a4, a5, a6, a7⟩ := lies_addr hAf; obtain ⟨b0, b1, b2, b3, b4, b5, b6, b7⟩ := lies_addr hBf; simp only [kA, kB] at a0 a1 a2 a3 a4 a5 a6 a7 b0 b1 b2 b3 b4 b5 b6 b7); go_simp; (try go_bits); (try (with_reducible rfl)))); (try simp only [Act.put, List.setIfInBounds_toArray, List.set_cons_zero, List.set_cons_succ])) | (refine RP.t_skip rfl rfl ?_; (try simp only [Act.put, List.setIfInBounds_toArray, List.set_cons_zero, List.set_cons_succ])))
  refine RP.t_run rfl (fun KK hKK => ?_)
  go_simp
  have hb : Below U1.heap.size U1 (U1.alloc (.cells #[.int .u8 120] 5)) := (Below.refl _ _).alloc (Nat.le_refl _) _
  have hl1 : Lies (U1.alloc (.cells #[.int .u8 120] 5)) U1.heap.size 5 #[.int .u8 120] := Lies.new _ _ _
  have hgb : W.heap.size + 2 ≤ U1.heap.size := H.out.lo _ (H.out.ho _ (Nat.le_refl _))
  have hglt : U1.heap.size < (U1.alloc (.cells #[.int .u8 120] 5)).heap.size := by simp only [World.size_alloc]; omega
  replace H := Lib.hid (H.out.lit (.cells #[.int .u8 120] 5))
  refine hKK.out _ _ ⟨H.out.a, H.out.b⟩ ?_
  clear hKK KK hb
  generalize U1.alloc (.cells #[.int .u8 120] 5) = U3 at H hl1 hglt ⊢
  generalize U1.heap.size = g2 at H hl1 hgb hglt ⊢
  have HG := Lib.hid (show Lies U3 g2 5 #[.int .u8 (((120 : UInt8)).toNat : Int)] from hl1)
  clear hl1
  (try simp only [Act.put, List.setIfInBounds_toArray, List.set_cons_zero, List.set_cons_succ])
  refine t_run1 rfl rfl (fun KK hKK => ?_)
  refine wp_mark HG.out _ 1 1 rfl rfl (fun U4 hf hx => ?_)
  replace H := Lib.hid (H.out.marked hf hgb)
  have HX := Lib.hid (show Byt U4 (.slice (some ⟨g2, 0, none⟩) 1 1) [120] from hx)
  refine hKK.out _ _ ⟨H.out.a, H.out.b⟩ ?_
  clear hKK KK hf hx HG hgb hglt
  (try simp only [Act.put, List.setIfInBounds_toArray, List.set_cons_zero, List.set_cons_succ])
  have HS0 := Lib.hid (show said ([] : List Ev) = [] from rfl)
  refine RP.t_run rfl (fun KK hKK => ?_)
  go_simp
  have hc := emit_own H.out.k H.out.ho (by rw [← said_len, HS0.out]; decide) kA HX.out
  rw [HS0.out] at hc
  refine hc.mono ?_
  rintro ex U5 ⟨vnE1, E1, rfl, hk, hs, hf⟩
  replace H := Lib.hid (H.out.owned hk hf)
  have HSE1 := Lib.hid (show said E1 = E1s from hs)
  clear hc hk hs hf HX
  refine hKK.out _ _ ⟨H.out.a, H.out.b⟩ ?_
  clear hKK KK
  (try simp only [Act.put, List.setIfInBounds_toArray, List.set_cons_zero, List.set_cons_succ])
  repeat (first | (refine RP.t_take (v := ?_) rfl rfl (fun w' hw' => ?_) ?_; rotate_left; (focus ((obtain ⟨hAf, hBf⟩ := hw'; obtain ⟨a0, a1, a2, a3, a4, a5, a6, a7⟩ := lies_addr hAf; obtain ⟨b0, b1, b2, b3, b4, b5, b6, b7⟩ := lies_addr hBf; simp only [kA, kB] at a0 a1 a2 a3 a4 a5 a6 a7 b0 b1 b2 b3 b4 b5 b6 b7); go_simp; (try go_bits); (try (with_reducible rfl)))); (try simp only [Act.put, List.setIfInBounds_toArray, List.set_cons_zero, List.set_cons_succ])) | (refine RP.t_skip rfl rfl ?_; (try simp only [Act.put, List.setIfInBounds_toArray, List.set_cons_zero, List.set_cons_succ])))
  refine RP.t_run rfl (fun KK hKK => ?_)
  go_simp
  have hc := emit_own H.out.k H.out.ho (by rw [← said_len, HSE1.out]; decide) kB (byt_nil _ 0)
  rw [HSE1.out] at hc
  refine hc.mono ?_
  rintro ex U6 ⟨vnE2, E2, rfl, hk, hs, hf⟩
  replace H := Lib.hid (H.out.owned hk hf)
  have HSE2 := Lib.hid (show said E2 = E2s from hs)
  clear hc hk hs hf
  refine hKK.out _ _ ⟨H.out.a, H.out.b⟩ ?_
  clear hKK KK
  (try simp only [Act.put, List.setIfInBounds_toArray, List.set_cons_zero, List.set_cons_succ])
  repeat (first | (refine RP.t_take (v := ?_) rfl rfl (fun w' hw' => ?_) ?_; rotate_left; (focus ((obtain ⟨hAf, hBf⟩ := hw'; obtain ⟨a0, a1, a2, a3, a4, a5, a6, a7⟩ := lies_addr hAf; obtain ⟨b0, b1, b2, b3, b4, b5, b6, b7⟩ := lies_addr hBf; simp only [kA, kB] at a0 a1 a2 a3 a4 a5 a6 a7 b0 b1 b2 b3 b4 b5 b6 b7); go_simp; (try go_bits); (try (with_reducible rfl)))); (try simp only [Act.put, List.setIfInBounds_toArray, List.set_cons_zero, List.set_cons_succ])) | (refine RP.t_skip rfl rfl ?_; (try simp only [Act.put, List.setIfInBounds_toArray, List.set_cons_zero, List.set_cons_succ])))
  refine RP.t_run rfl (fun KK hKK => ?_)
  go_simp
  have hlE : E2.length = 2 := by rw [← said_len, HSE2.out]; rfl
  have hc := len_any H.out.k
  rw [hlE] at hc
  refine hc.mono ?_
  rintro ex U7 ⟨rfl, rfl⟩
  clear hc hlE
  refine hKK.out _ _ ⟨H.out.a, H.out.b⟩ ?_
  clear hKK KK
  (try simp only [Act.put, List.setIfInBounds_toArray, List.set_cons_zero, List.set_cons_succ])
  iterate 5 (first | (refine RP.t_take (v := ?_) rfl rfl (fun w' hw' => ?_) ?_; rotate_left; (focus ((obtain ⟨hAf, hBf⟩ := hw'; obtain ⟨a0, a1, a2, a3, a4, a5, a6, a7⟩ := lies_addr hAf; obtain ⟨b0, b1, b2, b3, b4, b5, b6, b7⟩ := lies_addr hBf; simp only [kA, kB] at a0 a1 a2 a3 a4 a5 a6 a7 b0 b1 b2 b3 b4 b5 b6 b7); go_simp; (try go_bits); (try (with_reducible rfl)))); (try simp only [Act.put, List.setIfInBounds_toArray, List.set_cons_zero, List.set_cons_succ])) | (refine RP.t_skip rfl rfl ?_; (try simp only [Act.put, List.setIfInBounds_toArray, List.set_cons_zero, List.set_cons_succ])))
  refine RP.t_take (v := .agg (Ev.cs ⟨kB, .slice none 0 0, []⟩).toArray) rfl rfl (fun w' _ => exec_build0 kB _ rfl rfl w') ?_
  (try simp only [Act.put, List.setIfInBounds_toArray, List.set_cons_zero, List.set_cons_succ])
  refine RP.t_fork rfl rfl (fun KK hKK => ?_) (fun KK hKK => ?_)
  · as_aux_lemma =>
      go_simp
      have hc := events_any H.out.k (by rw [← said_len, HSE2.out]; decide) (said_short HSE2.out (by decide)) 1
      refine hc.mono ?_
      rintro ex U8 ⟨vt, E3, rfl, hs, ht, hb⟩
      have HSE3 := Lib.hid (show said E3 = [(kB, [])] from by rw [hs, if_neg (by decide), said_drop, HSE2.out]; rfl)
      have HLNE3 := Lib.hid (show E3.length = 1 from by rw [← said_len, HSE3.out]; rfl)
      obtain ⟨st, ct, rfl, _⟩ := ht.row.form
      have HT := Lib.hid (ht.mono (own' := fun _ => True) (fun k _ hk => trivial))
      replace H := Lib.hid (H.out.later hb)
      clear hc hs ht hb
      refine hKK.out _ _ ⟨H.out.a, H.out.b⟩ ?_
      clear hKK KK
      (try simp only [Act.put, List.setIfInBounds_toArray, List.set_cons_zero, List.set_cons_succ])
      repeat (first | (refine RP.t_take (v := ?_) rfl rfl (fun w' hw' => ?_) ?_; rotate_left; (focus ((obtain ⟨hAf, hBf⟩ := hw'; obtain ⟨a0, a1, a2, a3, a4, a5, a6, a7⟩ := lies_addr hAf; obtain ⟨b0, b1, b2, b3, b4, b5, b6, b7⟩ := lies_addr hBf; simp only [kA, kB] at a0 a1 a2 a3 a4 a5 a6 a7 b0 b1 b2 b3 b4 b5 b6 b7); go_simp; (try go_bits); (try (with_reducible rfl)))); (try simp only [Act.put, List.setIfInBounds_toArray, List.set_cons_zero, List.set_cons_succ])) | (refine RP.t_skip rfl rfl ?_; (try simp only [Act.put, List.setIfInBounds_toArray, List.set_cons_zero, List.set_cons_succ])))
      refine t_run1 rfl rfl (fun KK hKK => ?_)
      refine wp_bslice kB none 0 0 [] _ rfl rfl ?_
      have hl9 : Shows (U8.alloc (.cells (Ev.cs ⟨kB, .slice none 0 0, []⟩).toArray 66)) (.slice (some ⟨U8.heap.size, 0, none⟩) 1 1) [⟨kB, .slice none 0 0, []⟩] := shows_one U8 _ (byt_nil _ 0)
      have hb : Below U8.heap.size U8 (U8.alloc (.cells (Ev.cs ⟨kB, .slice none 0 0, []⟩).toArray 66)) := (Below.refl _ _).alloc (Nat.le_refl _) _
      have HL := Lib.hid hl9
      clear hl9
      replace H := Lib.hid (H.out.later hb)
      replace HT := Lib.hid (HT.out.later hb)
      refine hKK.out _ _ ⟨H.out.a, H.out.b⟩ ?_
      clear hKK KK hb
      generalize U8.alloc (.cells (Ev.cs ⟨kB, .slice none 0 0, []⟩).toArray 66) = U9 at H HL HT ⊢
      generalize U8.heap.size = d9 at HL ⊢
      (try simp only [Act.put, List.setIfInBounds_toArray, List.set_cons_zero, List.set_cons_succ])
      refine RP.t_run rfl (fun KK hKK => ?_)
      go_simp
      have hc := same_any HT.out.shows HL.out (by rw [HLNE3.out]; decide)
      rw [HSE3.out, decide_eq_true (show ([(kB, [])] : List (A8 × List UInt8)) = said [⟨kB, .slice none 0 0, []⟩] from rfl)] at hc
      refine hc.mono ?_
      rintro ex U10 ⟨rfl, hb⟩
      replace H := Lib.hid (H.out.later hb)
      clear hc hb HT HL
      refine hKK.out _ _ ⟨H.out.a, H.out.b⟩ ?_
      clear hKK KK
      (try simp only [Act.put, List.setIfInBounds_toArray, List.set_cons_zero, List.set_cons_succ])
      repeat (first | (refine RP.t_take (v := ?_) rfl rfl (fun w' hw' => ?_) ?_; rotate_left; (focus ((obtain ⟨hAf, hBf⟩ := hw'; obtain ⟨a0, a1, a2, a3, a4, a5, a6, a7⟩ := lies_addr hAf; obtain ⟨b0, b1, b2, b3, b4, b5, b6, b7⟩ := lies_addr hBf; simp only [kA, kB] at a0 a1 a2 a3 a4 a5 a6 a7 b0 b1 b2 b3 b4 b5 b6 b7); go_simp; (try go_bits); (try (with_reducible rfl)))); (try simp only [Act.put, List.setIfInBounds_toArray, List.set_cons_zero, List.set_cons_succ])) | (refine RP.t_skip rfl rfl ?_; (try simp only [Act.put, List.setIfInBounds_toArray, List.set_cons_zero, List.set_cons_succ])))
      refine RP.t_run rfl (fun KK hKK => ?_)
      go_simp
      have hc := events_any H.out.k (by rw [← said_len, HSE2.out]; decide) (said_short HSE2.out (by decide)) 3
      refine hc.mono ?_
      rintro ex U11 ⟨vt, E4, rfl, hs, ht, hb⟩
      have HSE4 := Lib.hid (show said E4 = [] from by rw [hs, if_neg (by decide), said_drop, HSE2.out]; rfl)
      have HLNE4 := Lib.hid (show E4.length = 0 from by rw [← said_len, HSE4.out]; rfl)
      obtain ⟨st, ct, rfl, _⟩ := ht.row.form
      replace H := Lib.hid (H.out.later hb)
      clear hc hs ht hb
      rw [HLNE4.out]
      refine hKK.out _ _ ⟨H.out.a, H.out.b⟩ ?_
      clear hKK KK
      (try simp only [Act.put, List.setIfInBounds_toArray, List.set_cons_zero, List.set_cons_succ])
      repeat (first | (refine RP.t_take (v := ?_) rfl rfl (fun w' hw' => ?_) ?_; rotate_left; (focus ((obtain ⟨hAf, hBf⟩ := hw'; obtain ⟨a0, a1, a2, a3, a4, a5, a6, a7⟩ := lies_addr hAf; obtain ⟨b0, b1, b2, b3, b4, b5, b6, b7⟩ := lies_addr hBf; simp only [kA, kB] at a0 a1 a2 a3 a4 a5 a6 a7 b0 b1 b2 b3 b4 b5 b6 b7); go_simp; (try go_bits); (try (with_reducible rfl)))); (try simp only [Act.put, List.setIfInBounds_toArray, List.set_cons_zero, List.set_cons_succ])) | (refine RP.t_skip rfl rfl ?_; (try simp only [Act.put, List.setIfInBounds_toArray, List.set_cons_zero, List.set_cons_succ])))
      refine RP.t_done ?_
      go_wp2_with fail
      refine RP.region (RP.take 0 (RP.run 1 (RP.take 2 (RP.take 3 (RP.take 4 (RP.run 5 (RP.take 6 (RP.take 7 (RP.take 8 (RP.take 9 (RP.take 11 (RP.fork 10 12 (RP.run 12 (RP.run 13 (RP.take 14 (RP.run 15 (RP.run 16 (RP.take 17 (RP.take 18 (RP.take 19 (RP.take 20 (RP.take 21 (RP.run 22 (RP.run 23 (RP.run 24 (RP.take 25 (RP.take 26 RP.done))))))))))))))) (RP.fork 10 13 (RP.run 13 (RP.take 14 (RP.run 15 (RP.run 16 (RP.take 17 (RP.take 18 (RP.take 19 (RP.take 20 (RP.take 21 (RP.run 22 (RP.run 23 (RP.run 24 (RP.take 25 (RP.take 26 RP.done)))))))))))))) (RP.take 14 (RP.fork 10 15 (RP.run 15 (RP.run 16 (RP.take 17 (RP.take 18 (RP.take 19 (RP.take 20 (RP.take 21 (RP.run 22 (RP.run 23 (RP.run 24 (RP.take 25 (RP.take 26 RP.done)))))))))))) (RP.run 10 (RP.run 16 (RP.take 17 (RP.take 18 (RP.take 19 (RP.take 20 (RP.take 21 (RP.run 22 (RP.run 23 (RP.run 24 (RP.take 25 (RP.take 26 RP.done))))))))))))))))))))))))))) (fun w' => Lies w' W.heap.size 24 kA.cs.toArray ∧ Lies w' (W.heap.size + 1) 24 kB.cs.toArray) (by as_aux_lemma => kernel_rfl) (by as_aux_lemma => kernel_rfl) (fun _ _ d _ _ h => by cases d <;> exact h) ⟨H.out.a.drew, H.out.b.drew⟩ (fun hS => ?_)
      clear hS
      replace H := Lib.hid H.out.drew
      generalize U11.drew = U12 at H ⊢
      repeat (first | (refine RP.t_take (v := ?_) rfl rfl (fun w' hw' => ?_) ?_; rotate_left; (focus ((obtain ⟨hAf, hBf⟩ := hw'; obtain ⟨a0, a1, a2, a3, a4, a5, a6, a7⟩ := lies_addr hAf; obtain ⟨b0, b1, b2, b3, b4, b5, b6, b7⟩ := lies_addr hBf; simp only [kA, kB] at a0 a1 a2 a3 a4 a5 a6 a7 b0 b1 b2 b3 b4 b5 b6 b7); go_simp; (try go_bits); (try (with_reducible rfl)))); (try simp only [Act.put, List.setIfInBounds_toArray, List.set_cons_zero, List.set_cons_succ])) | (refine RP.t_skip rfl rfl ?_; (try simp only [Act.put, List.setIfInBounds_toArray, List.set_cons_zero, List.set_cons_succ])))
      refine RP.t_run rfl (fun KK hKK => ?_)
      go_simp
      have hc := cut_bad H.out.k 3 (Or.inr (by rw [← said_len, HSE2.out]; decide))
      refine hc.mono ?_
      rintro ex U13 ⟨rfl, rfl⟩
      clear hc
      refine hKK.out _ _ ⟨H.out.a, H.out.b⟩ ?_
      clear hKK KK
      (try simp only [Act.put, List.setIfInBounds_toArray, List.set_cons_zero, List.set_cons_succ])
      repeat (first | (refine RP.t_take (v := ?_) rfl rfl (fun w' hw' => ?_) ?_; rotate_left; (focus ((obtain ⟨hAf, hBf⟩ := hw'; obtain ⟨a0, a1, a2, a3, a4, a5, a6, a7⟩ := lies_addr hAf; obtain ⟨b0, b1, b2, b3, b4, b5, b6, b7⟩ := lies_addr hBf; simp only [kA, kB] at a0 a1 a2 a3 a4 a5 a6 a7 b0 b1 b2 b3 b4 b5 b6 b7); go_simp; (try go_bits); (try (with_reducible rfl)))); (try simp only [Act.put, List.setIfInBounds_toArray, List.set_cons_zero, List.set_cons_succ])) | (refine RP.t_skip rfl rfl ?_; (try simp only [Act.put, List.setIfInBounds_toArray, List.set_cons_zero, List.set_cons_succ])))
      refine RP.t_run rfl (fun KK hKK => ?_)
      go_simp
      have hc := cut_own H.out.k 1 (by rw [← said_len, HSE2.out]; decide)
      refine hc.mono ?_
      rintro ex U14 ⟨vn5, rfl, hk, hf⟩
      replace H := Lib.hid (H.out.owned hk hf)
      have HS5 := Lib.hid (show said (E2.take 1) = E1s from by rw [said_takes, HSE2.out]; rfl)
      clear hc hk hf
      generalize E2.take 1 = E5 at H HS5
      refine hKK.out _ _ ⟨H.out.a, H.out.b⟩ ?_
      clear hKK KK
      (try simp only [Act.put, List.setIfInBounds_toArray, List.set_cons_zero, List.set_cons_succ])
      repeat (first | (refine RP.t_take (v := ?_) rfl rfl (fun w' hw' => ?_) ?_; rotate_left; (focus ((obtain ⟨hAf, hBf⟩ := hw'; obtain ⟨a0, a1, a2, a3, a4, a5, a6, a7⟩ := lies_addr hAf; obtain ⟨b0, b1, b2, b3, b4, b5, b6, b7⟩ := lies_addr hBf; simp only [kA, kB] at a0 a1 a2 a3 a4 a5 a6 a7 b0 b1 b2 b3 b4 b5 b6 b7); go_simp; (try go_bits); (try (with_reducible rfl)))); (try simp only [Act.put, List.setIfInBounds_toArray, List.set_cons_zero, List.set_cons_succ])) | (refine RP.t_skip rfl rfl ?_; (try simp only [Act.put, List.setIfInBounds_toArray, List.set_cons_zero, List.set_cons_succ])))
      refine RP.t_fork rfl rfl (fun KK hKK => ?_) (fun KK hKK => ?_)
      · as_aux_lemma =>
          go_simp
          have hc := events_any H.out.k (by rw [← said_len, HS5.out]; decide) (said_short HS5.out (by decide)) 0
          refine hc.mono ?_
          rintro ex U15 ⟨vt, E6, rfl, hs, ht, hb⟩
          have HSE6 := Lib.hid (show said E6 = [(kA, [120])] from by rw [hs, if_neg (by decide), said_drop, HS5.out]; rfl)
          have HLNE6 := Lib.hid (show E6.length = 1 from by rw [← said_len, HSE6.out]; rfl)
          obtain ⟨st, ct, rfl, _⟩ := ht.row.form
          have HT := Lib.hid (ht.mono (own' := fun _ => True) (fun k _ hk => trivial))
          replace H := Lib.hid (H.out.later hb)
          clear hc hs ht hb
          refine hKK.out _ _ ⟨H.out.a, H.out.b⟩ ?_
          clear hKK KK
          (try simp only [Act.put, List.setIfInBounds_toArray, List.set_cons_zero, List.set_cons_succ])
          repeat (first | (refine RP.t_take (v := ?_) rfl rfl (fun w' hw' => ?_) ?_; rotate_left; (focus ((obtain ⟨hAf, hBf⟩ := hw'; obtain ⟨a0, a1, a2, a3, a4, a5, a6, a7⟩ := lies_addr hAf; obtain ⟨b0, b1, b2, b3, b4, b5, b6, b7⟩ := lies_addr hBf; simp only [kA, kB] at a0 a1 a2 a3 a4 a5 a6 a7 b0 b1 b2 b3 b4 b5 b6 b7); go_simp; (try go_bits); (try (with_reducible rfl)))); (try simp only [Act.put, List.setIfInBounds_toArray, List.set_cons_zero, List.set_cons_succ])) | (refine RP.t_skip rfl rfl ?_; (try simp only [Act.put, List.setIfInBounds_toArray, List.set_cons_zero, List.set_cons_succ])))
          refine RP.t_run rfl (fun KK hKK => ?_)
          go_simp
          have hb : Below U15.heap.size U15 (U15.alloc (.cells #[.int .u8 120] 5)) := (Below.refl _ _).alloc (Nat.le_refl _) _
          have hl1 : Lies (U15.alloc (.cells #[.int .u8 120] 5)) U15.heap.size 5 #[.int .u8 120] := Lies.new _ _ _
          have hgb : W.heap.size + 2 ≤ U15.heap.size := H.out.lo _ (H.out.ho _ (Nat.le_refl _))
          have hglt : U15.heap.size < (U15.alloc (.cells #[.int .u8 120] 5)).heap.size := by simp only [World.size_alloc]; omega
          replace H := Lib.hid (H.out.lit (.cells #[.int .u8 120] 5))
          replace HT := Lib.hid ((HT.out.mono (own' := fun i => i ≠ U15.heap.size) (fun k hk _ => by omega)).later hb)
          refine hKK.out _ _ ⟨H.out.a, H.out.b⟩ ?_
          clear hKK KK hb
          generalize U15.alloc (.cells #[.int .u8 120] 5) = U17 at H HT hl1 hglt ⊢
          generalize U15.heap.size = g16 at H HT hl1 hgb hglt ⊢
          have HG := Lib.hid (show Lies U17 g16 5 #[.int .u8 (((120 : UInt8)).toNat : Int)] from hl1)
          clear hl1
          (try simp only [Act.put, List.setIfInBounds_toArray, List.set_cons_zero, List.set_cons_succ])
          refine t_run1 rfl rfl (fun KK hKK => ?_)
          refine wp_mark HG.out _ 1 1 rfl rfl (fun U18 hf hx => ?_)
          replace H := Lib.hid (H.out.marked hf hgb)
          replace HT := Lib.hid (HT.out.kept hf (fun k hk e => hk e))
          have HX := Lib.hid (show Byt U18 (.slice (some ⟨g16, 0, none⟩) 1 1) [120] from hx)
          refine hKK.out _ _ ⟨H.out.a, H.out.b⟩ ?_
          clear hKK KK hf hx HG hgb hglt
          (try simp only [Act.put, List.setIfInBounds_toArray, List.set_cons_zero, List.set_cons_succ])
          refine RP.t_take (v := .agg (Ev.cs ⟨kA, .slice (some ⟨g16, 0, none⟩) 1 1, [120]⟩).toArray) rfl rfl (fun w' _ => exec_build kA (some ⟨g16, 0, none⟩) 1 1 [120] _ _ rfl rfl rfl w') ?_
          (try simp only [Act.put, List.setIfInBounds_toArray, List.set_cons_zero, List.set_cons_succ])
          refine t_run1 rfl rfl (fun KK hKK => ?_)
          refine wp_bslice kA (some ⟨g16, 0, none⟩) 1 1 [120] _ rfl rfl ?_
          have hl9 : Shows (U18.alloc (.cells (Ev.cs ⟨kA, .slice (some ⟨g16, 0, none⟩) 1 1, [120]⟩).toArray 66)) (.slice (some ⟨U18.heap.size, 0, none⟩) 1 1) [⟨kA, .slice (some ⟨g16, 0, none⟩) 1 1, [120]⟩] := shows_one U18 _ HX.out
          have hb : Below U18.heap.size U18 (U18.alloc (.cells (Ev.cs ⟨kA, .slice (some ⟨g16, 0, none⟩) 1 1, [120]⟩).toArray 66)) := (Below.refl _ _).alloc (Nat.le_refl _) _
          have HL := Lib.hid hl9
          clear hl9
          replace H := Lib.hid (H.out.later hb)
          replace HT := Lib.hid (HT.out.later hb)
          replace HX := Lib.hid (HX.out.later hb)
          refine hKK.out _ _ ⟨H.out.a, H.out.b⟩ ?_
          clear hKK KK hb
          generalize U18.alloc (.cells (Ev.cs ⟨kA, .slice (some ⟨g16, 0, none⟩) 1 1, [120]⟩).toArray 66) = U19 at H HL HT HX ⊢
          generalize U18.heap.size = d19 at HL ⊢
          (try simp only [Act.put, List.setIfInBounds_toArray, List.set_cons_zero, List.set_cons_succ])
          refine RP.t_run rfl (fun KK hKK => ?_)
          go_simp
          have hc := same_any HT.out.shows HL.out (by rw [HLNE6.out]; decide)
          rw [HSE6.out, decide_eq_true (show ([(kA, [120])] : List (A8 × List UInt8)) = said [⟨kA, .slice (some ⟨g16, 0, none⟩) 1 1, [120]⟩] from rfl)] at hc
          refine hc.mono ?_
          rintro ex U20 ⟨rfl, hb⟩
          replace H := Lib.hid (H.out.later hb)
          clear hc hb HT HL HX
          refine hKK.out _ _ ⟨H.out.a, H.out.b⟩ ?_
          clear hKK KK
          (try simp only [Act.put, List.setIfInBounds_toArray, List.set_cons_zero, List.set_cons_succ])
          repeat (first | (refine RP.t_take (v := ?_) rfl rfl (fun w' hw' => ?_) ?_; rotate_left; (focus ((obtain ⟨hAf, hBf⟩ := hw'; obtain ⟨a0, a1, a2, a3, a4, a5, a6, a7⟩ := lies_addr hAf; obtain ⟨b0, b1, b2, b3, b4, b5, b6, b7⟩ := lies_addr hBf; simp only [kA, kB] at a0 a1 a2 a3 a4 a5 a6 a7 b0 b1 b2 b3 b4 b5 b6 b7); go_simp; (try go_bits); (try (with_reducible rfl)))); (try simp only [Act.put, List.setIfInBounds_toArray, List.set_cons_zero, List.set_cons_succ])) | (refine RP.t_skip rfl rfl ?_; (try simp only [Act.put, List.setIfInBounds_toArray, List.set_cons_zero, List.set_cons_succ])))
          refine RP.t_run rfl (fun KK hKK => ?_)
          go_simp
          have hb : Below U20.heap.size U20 (U20.alloc (.cells #[.int .u8 99] 5)) := (Below.refl _ _).alloc (Nat.le_refl _) _
          have hl1 : Lies (U20.alloc (.cells #[.int .u8 99] 5)) U20.heap.size 5 #[.int .u8 99] := Lies.new _ _ _
          have hgb : W.heap.size + 2 ≤ U20.heap.size := H.out.lo _ (H.out.ho _ (Nat.le_refl _))
          have hglt : U20.heap.size < (U20.alloc (.cells #[.int .u8 99] 5)).heap.size := by simp only [World.size_alloc]; omega
          replace H := Lib.hid (H.out.lit (.cells #[.int .u8 99] 5))
          refine hKK.out _ _ ⟨H.out.a, H.out.b⟩ ?_
          clear hKK KK hb
          generalize U20.alloc (.cells #[.int .u8 99] 5) = U22 at H hl1 hglt ⊢
          generalize U20.heap.size = g21 at H hl1 hgb hglt ⊢
          have HG := Lib.hid (show Lies U22 g21 5 #[.int .u8 (((99 : UInt8)).toNat : Int)] from hl1)
          clear hl1
          (try simp only [Act.put, List.setIfInBounds_toArray, List.set_cons_zero, List.set_cons_succ])
          refine t_run1 rfl rfl (fun KK hKK => ?_)
          refine wp_mark HG.out _ 1 1 rfl rfl (fun U23 hf hx => ?_)
          replace H := Lib.hid (H.out.marked hf hgb)
          have HX := Lib.hid (show Byt U23 (.slice (some ⟨g21, 0, none⟩) 1 1) [99] from hx)
          refine hKK.out _ _ ⟨H.out.a, H.out.b⟩ ?_
          clear hKK KK hf hx HG hgb hglt
          (try simp only [Act.put, List.setIfInBounds_toArray, List.set_cons_zero, List.set_cons_succ])
          refine RP.t_run rfl (fun KK hKK => ?_)
          go_simp
          have hc := setcode_own H.out.k H.out.ho kA HX.out (by decide)
          refine hc.mono ?_
          rintro ex U24 ⟨C1, rfl, hk, hs, hf⟩
          replace H := Lib.hid (H.out.owned hk hf)
          have HC1 := Lib.hid (show Al.turn (·.2) C1 = [(kA, [99])] from by rw [hs]; rfl)
          clear hc hk hs hf HX
          refine hKK.out _ _ ⟨H.out.a, H.out.b⟩ ?_
          clear hKK KK
          (try simp only [Act.put, List.setIfInBounds_toArray, List.set_cons_zero, List.set_cons_succ])
          repeat (first | (refine RP.t_take (v := ?_) rfl rfl (fun w' hw' => ?_) ?_; rotate_left; (focus ((obtain ⟨hAf, hBf⟩ := hw'; obtain ⟨a0, a1, a2, a3, a4, a5, a6, a7⟩ := lies_addr hAf; obtain ⟨b0, b1, b2, b3, b4, b5, b6, b7⟩ := lies_addr hBf; simp only [kA, kB] at a0 a1 a2 a3 a4 a5 a6 a7 b0 b1 b2 b3 b4 b5 b6 b7); go_simp; (try go_bits); (try (with_reducible rfl)))); (try simp only [Act.put, List.setIfInBounds_toArray, List.set_cons_zero, List.set_cons_succ])) | (refine RP.t_skip rfl rfl ?_; (try simp only [Act.put, List.setIfInBounds_toArray, List.set_cons_zero, List.set_cons_succ])))
          refine RP.t_done ?_
          have hfm : (Al.find C1 kA).map (·.2) = some [99] := by rw [← Al.turn_find, HC1.out]; rfl
          have hfs : (Al.find C1 kA).isSome = true := some_of_map hfm
          have hfl : ∀ c ∈ C1, c.2.2.length ≤ 1000000000 := fun c hc => by
            have h1 : (c.1, c.2.2) ∈ Al.turn (·.2) C1 := List.mem_map.2 ⟨c, hc, rfl⟩
            rw [HC1.out, List.mem_singleton] at h1
            rw [show c.2.2 = [99] from congrArg Prod.snd h1]; decide
          have hc := code_any H.out.k kA hfl
          rw [hfs, hfm] at hc
          simp only [Option.getD_some] at hc
          replace hc := Lib.hid hc
          have HF2 := Lib.hid (show Al.find (Al.del kA C1) kA = none from by rw [Al.find_del H.out.k.rise, if_pos rfl])
          have HFL := Lib.hid hfl
          clear hfm hfs hfl
          obtain ⟨a0, a1, a2, a3, a4, a5, a6, a7⟩ := lies_addr H.out.a
          simp only [kA] at a0 a1 a2 a3 a4 a5 a6 a7
          go_wp2_with fail
          refine hc.out.mono ?_
          rintro ex U25 ⟨v7, rfl, ht, hb⟩
          obtain ⟨s7, c7, rfl⟩ := ht.form
          have HV := Lib.hid (ht.mono (own' := fun i => W.heap.size + 2 ≤ i) (fun k _ hk => H.out.ho k hk))
          replace H := Lib.hid (H.out.later hb)
          clear hc ht hb
          clear a0 a1 a2 a3 a4 a5 a6 a7
          obtain ⟨a0, a1, a2, a3, a4, a5, a6, a7⟩ := lies_addr H.out.a
          simp only [kA] at a0 a1 a2 a3 a4 a5 a6 a7
          go_wp2_with fail
          refine (setcode_del H.out.k kA none 0).mono ?_
          rintro ex U26 ⟨rfl, hk, hf⟩
          replace HV := Lib.hid (H.out.k.bts_map HV.out hf)
          replace H := Lib.hid (H.out.owned hk (hf.mono (fun k _ e => e ▸ H.out.k.obm)))
          clear hk hf
          clear a0 a1 a2 a3 a4 a5 a6 a7
          have hc := code_any H.out.k kA (fun c hc => HFL.out c (Al.mem_del.1 hc).1)
          rw [HF2.out] at hc
          simp only [Option.isSome_none, Option.map_none, Option.getD_none] at hc
          replace hc := Lib.hid hc
          obtain ⟨a0, a1, a2, a3, a4, a5, a6, a7⟩ := lies_addr H.out.a
          simp only [kA] at a0 a1 a2 a3 a4 a5 a6 a7
          go_wp2_with fail
          refine hc.out.mono ?_
          rintro ex U27 ⟨v9, rfl, ht, hb⟩
          obtain ⟨s9, c9, rfl⟩ := ht.form
          have HY := Lib.hid (HV.out.byt.later hb)
          replace H := Lib.hid (H.out.later hb)
          clear hc ht hb HV HF2 HFL HC1
          clear a0 a1 a2 a3 a4 a5 a6 a7
          obtain ⟨a0, a1, a2, a3, a4, a5, a6, a7⟩ := lies_addr H.out.a
          simp only [kA] at a0 a1 a2 a3 a4 a5 a6 a7
          go_wp2_with fail
          refine (code_nil _ kA).mono ?_
          rintro ex U28 ⟨rfl, hb⟩
          replace HY := Lib.hid (HY.out.later hb)
          replace H := Lib.hid (H.out.later hb)
          clear hb
          clear a0 a1 a2 a3 a4 a5 a6 a7
          have kx := HY.out.conv
          simp only [List.length_cons, List.length_nil, Nat.zero_add] at kx
          have hq : (bst [99]).toList = [99] := by rw [ByteArray.toList_eq]; rfl
          obtain ⟨a0, a1, a2, a3, a4, a5, a6, a7⟩ := lies_addr H.out.a
          simp only [kA] at a0 a1 a2 a3 a4 a5 a6 a7
          go_wp2_with fail
          refine (emit_nil _ kA _).mono ?_
          rintro ex U29 ⟨rfl, hb⟩
          clear kx
          replace HY := Lib.hid (HY.out.later hb)
          replace H := Lib.hid (H.out.later hb)
          clear hb
          clear a0 a1 a2 a3 a4 a5 a6 a7
          go_wp2_with fail
          refine (cut_nil _ _).mono ?_
          rintro ex U30 ⟨rfl, rfl⟩
          obtain ⟨a0, a1, a2, a3, a4, a5, a6, a7⟩ := lies_addr H.out.a
          simp only [kA] at a0 a1 a2 a3 a4 a5 a6 a7
          go_wp2_with fail
          refine (setcode_nil _ kA _).mono ?_
          rintro ex U31 ⟨rfl, hb⟩
          replace HY := Lib.hid (HY.out.later hb)
          replace H := Lib.hid (H.out.later hb)
          clear hb
          clear a0 a1 a2 a3 a4 a5 a6 a7
          go_wp2_with fail
          refine (len_nil _).mono ?_
          rintro ex U32 ⟨rfl, rfl⟩
          go_wp2_with fail
          refine (events_nil _).mono ?_
          rintro ex U33 ⟨rfl, rfl⟩
          go_wp2_with fail
          refine (coded_nil _).mono ?_
          rintro ex U34 ⟨rfl, rfl⟩
          go_wp2_with fail
          refine (copy_nil _).mono ?_
          rintro ex U35 ⟨rfl, rfl⟩
          go_wp2_with fail
          go_ret
          exact ⟨rfl, H.out.below⟩
      · as_aux_lemma =>
          refine if_go rfl ?_
          go_simp
          have hb : Below U14.heap.size U14 (U14.alloc (.cells #[.int .u8 120] 5)) := (Below.refl _ _).alloc (Nat.le_refl _) _
          have hl1 : Lies (U14.alloc (.cells #[.int .u8 120] 5)) U14.heap.size 5 #[.int .u8 120] := Lies.new _ _ _
          have hgb : W.heap.size + 2 ≤ U14.heap.size := H.out.lo _ (H.out.ho _ (Nat.le_refl _))
          have hglt : U14.heap.size < (U14.alloc (.cells #[.int .u8 120] 5)).heap.size := by simp only [World.size_alloc]; omega
          replace H := Lib.hid (H.out.lit (.cells #[.int .u8 120] 5))
          refine hKK.out _ _ ⟨H.out.a, H.out.b⟩ ?_
          clear hKK KK hb
          generalize U14.alloc (.cells #[.int .u8 120] 5) = U37 at H hl1 hglt ⊢
          generalize U14.heap.size = g36 at H hl1 hgb hglt ⊢
          have HG := Lib.hid (show Lies U37 g36 5 #[.int .u8 (((120 : UInt8)).toNat : Int)] from hl1)
          clear hl1
          (try simp only [Act.put, List.setIfInBounds_toArray, List.set_cons_zero, List.set_cons_succ])
          refine RP.t_fork rfl rfl (fun KK hKK => ?_) (fun KK hKK => ?_)
          · as_aux_lemma =>
              go_simp
              have hc := events_any H.out.k (by rw [← said_len, HS5.out]; decide) (said_short HS5.out (by decide)) 0
              refine hc.mono ?_
              rintro ex U38 ⟨vt, E6, rfl, hs, ht, hb⟩
              have HSE6 := Lib.hid (show said E6 = [(kA, [120])] from by rw [hs, if_neg (by decide), said_drop, HS5.out]; rfl)
              have HLNE6 := Lib.hid (show E6.length = 1 from by rw [← said_len, HSE6.out]; rfl)
              obtain ⟨st, ct, rfl, _⟩ := ht.row.form
              have HT := Lib.hid (ht.mono (own' := fun i => i ≠ g36) (fun k _ hk => by have := hglt; omega))
              replace H := Lib.hid (H.out.later hb)
              replace HG := Lib.hid (HG.out.below hb HG.out.lt)
              replace hglt := Nat.lt_of_lt_of_le hglt hb.size
              clear hc hs ht hb
              refine hKK.out _ _ ⟨H.out.a, H.out.b⟩ ?_
              clear hKK KK
              (try simp only [Act.put, List.setIfInBounds_toArray, List.set_cons_zero, List.set_cons_succ])
              repeat (first | (refine RP.t_take (v := ?_) rfl rfl (fun w' hw' => ?_) ?_; rotate_left; (focus ((obtain ⟨hAf, hBf⟩ := hw'; obtain ⟨a0, a1, a2, a3, a4, a5, a6, a7⟩ := lies_addr hAf; obtain ⟨b0, b1, b2, b3, b4, b5, b6, b7⟩ := lies_addr hBf; simp only [kA, kB] at a0 a1 a2 a3 a4 a5 a6 a7 b0 b1 b2 b3 b4 b5 b6 b7); go_simp; (try go_bits); (try (with_reducible rfl)))); (try simp only [Act.put, List.setIfInBounds_toArray, List.set_cons_zero, List.set_cons_succ])) | (refine RP.t_skip rfl rfl ?_; (try simp only [Act.put, List.setIfInBounds_toArray, List.set_cons_zero, List.set_cons_succ])))
              refine t_run1 rfl rfl (fun KK hKK => ?_)
              refine wp_mark HG.out _ 1 1 rfl rfl (fun U39 hf hx => ?_)
              replace H := Lib.hid (H.out.marked hf hgb)
              replace HT := Lib.hid (HT.out.kept hf (fun k hk e => hk e))
              have HX := Lib.hid (show Byt U39 (.slice (some ⟨g36, 0, none⟩) 1 1) [120] from hx)
              refine hKK.out _ _ ⟨H.out.a, H.out.b⟩ ?_
              clear hKK KK hf hx HG hgb hglt
              (try simp only [Act.put, List.setIfInBounds_toArray, List.set_cons_zero, List.set_cons_succ])
              refine RP.t_take (v := .agg (Ev.cs ⟨kA, .slice (some ⟨g36, 0, none⟩) 1 1, [120]⟩).toArray) rfl rfl (fun w' _ => exec_build kA (some ⟨g36, 0, none⟩) 1 1 [120] _ _ rfl rfl rfl w') ?_
              (try simp only [Act.put, List.setIfInBounds_toArray, List.set_cons_zero, List.set_cons_succ])
              refine t_run1 rfl rfl (fun KK hKK => ?_)
              refine wp_bslice kA (some ⟨g36, 0, none⟩) 1 1 [120] _ rfl rfl ?_
              have hl9 : Shows (U39.alloc (.cells (Ev.cs ⟨kA, .slice (some ⟨g36, 0, none⟩) 1 1, [120]⟩).toArray 66)) (.slice (some ⟨U39.heap.size, 0, none⟩) 1 1) [⟨kA, .slice (some ⟨g36, 0, none⟩) 1 1, [120]⟩] := shows_one U39 _ HX.out
              have hb : Below U39.heap.size U39 (U39.alloc (.cells (Ev.cs ⟨kA, .slice (some ⟨g36, 0, none⟩) 1 1, [120]⟩).toArray 66)) := (Below.refl _ _).alloc (Nat.le_refl _) _
              have HL := Lib.hid hl9
              clear hl9
              replace H := Lib.hid (H.out.later hb)
              replace HT := Lib.hid (HT.out.later hb)
              replace HX := Lib.hid (HX.out.later hb)
              refine hKK.out _ _ ⟨H.out.a, H.out.b⟩ ?_
              clear hKK KK hb
              generalize U39.alloc (.cells (Ev.cs ⟨kA, .slice (some ⟨g36, 0, none⟩) 1 1, [120]⟩).toArray 66) = U40 at H HL HT HX ⊢
              generalize U39.heap.size = d40 at HL ⊢
              (try simp only [Act.put, List.setIfInBounds_toArray, List.set_cons_zero, List.set_cons_succ])
              refine RP.t_run rfl (fun KK hKK => ?_)
              go_simp
              have hc := same_any HT.out.shows HL.out (by rw [HLNE6.out]; decide)
              rw [HSE6.out, decide_eq_true (show ([(kA, [120])] : List (A8 × List UInt8)) = said [⟨kA, .slice (some ⟨g36, 0, none⟩) 1 1, [120]⟩] from rfl)] at hc
              refine hc.mono ?_
              rintro ex U41 ⟨rfl, hb⟩
              replace H := Lib.hid (H.out.later hb)
              clear hc hb HT HL HX
              refine hKK.out _ _ ⟨H.out.a, H.out.b⟩ ?_
              clear hKK KK
              (try simp only [Act.put, List.setIfInBounds_toArray, List.set_cons_zero, List.set_cons_succ])
              repeat (first | (refine RP.t_take (v := ?_) rfl rfl (fun w' hw' => ?_) ?_; rotate_left; (focus ((obtain ⟨hAf, hBf⟩ := hw'; obtain ⟨a0, a1, a2, a3, a4, a5, a6, a7⟩ := lies_addr hAf; obtain ⟨b0, b1, b2, b3, b4, b5, b6, b7⟩ := lies_addr hBf; simp only [kA, kB] at a0 a1 a2 a3 a4 a5 a6 a7 b0 b1 b2 b3 b4 b5 b6 b7); go_simp; (try go_bits); (try (with_reducible rfl)))); (try simp only [Act.put, List.setIfInBounds_toArray, List.set_cons_zero, List.set_cons_succ])) | (refine RP.t_skip rfl rfl ?_; (try simp only [Act.put, List.setIfInBounds_toArray, List.set_cons_zero, List.set_cons_succ])))
              refine RP.t_run rfl (fun KK hKK => ?_)
              go_simp
              have hb : Below U41.heap.size U41 (U41.alloc (.cells #[.int .u8 99] 5)) := (Below.refl _ _).alloc (Nat.le_refl _) _
              have hl1 : Lies (U41.alloc (.cells #[.int .u8 99] 5)) U41.heap.size 5 #[.int .u8 99] := Lies.new _ _ _
              have hgb : W.heap.size + 2 ≤ U41.heap.size := H.out.lo _ (H.out.ho _ (Nat.le_refl _))
              have hglt : U41.heap.size < (U41.alloc (.cells #[.int .u8 99] 5)).heap.size := by simp only [World.size_alloc]; omega
              replace H := Lib.hid (H.out.lit (.cells #[.int .u8 99] 5))
              refine hKK.out _ _ ⟨H.out.a, H.out.b⟩ ?_
              clear hKK KK hb
              generalize U41.alloc (.cells #[.int .u8 99] 5) = U43 at H hl1 hglt ⊢
              generalize U41.heap.size = g42 at H hl1 hgb hglt ⊢
              have HG := Lib.hid (show Lies U43 g42 5 #[.int .u8 (((99 : UInt8)).toNat : Int)] from hl1)
              clear hl1
              (try simp only [Act.put, List.setIfInBounds_toArray, List.set_cons_zero, List.set_cons_succ])
              refine t_run1 rfl rfl (fun KK hKK => ?_)
              refine wp_mark HG.out _ 1 1 rfl rfl (fun U44 hf hx => ?_)
              replace H := Lib.hid (H.out.marked hf hgb)
              have HX := Lib.hid (show Byt U44 (.slice (some ⟨g42, 0, none⟩) 1 1) [99] from hx)
              refine hKK.out _ _ ⟨H.out.a, H.out.b⟩ ?_
              clear hKK KK hf hx HG hgb hglt
              (try simp only [Act.put, List.setIfInBounds_toArray, List.set_cons_zero, List.set_cons_succ])
              refine RP.t_run rfl (fun KK hKK => ?_)
              go_simp
              have hc := setcode_own H.out.k H.out.ho kA HX.out (by decide)
              refine hc.mono ?_
              rintro ex U45 ⟨C1, rfl, hk, hs, hf⟩
              replace H := Lib.hid (H.out.owned hk hf)
              have HC1 := Lib.hid (show Al.turn (·.2) C1 = [(kA, [99])] from by rw [hs]; rfl)
              clear hc hk hs hf HX
              refine hKK.out _ _ ⟨H.out.a, H.out.b⟩ ?_
              clear hKK KK
              (try simp only [Act.put, List.setIfInBounds_toArray, List.set_cons_zero, List.set_cons_succ])
              repeat (first | (refine RP.t_take (v := ?_) rfl rfl (fun w' hw' => ?_) ?_; rotate_left; (focus ((obtain ⟨hAf, hBf⟩ := hw'; obtain ⟨a0, a1, a2, a3, a4, a5, a6, a7⟩ := lies_addr hAf; obtain ⟨b0, b1, b2, b3, b4, b5, b6, b7⟩ := lies_addr hBf; simp only [kA, kB] at a0 a1 a2 a3 a4 a5 a6 a7 b0 b1 b2 b3 b4 b5 b6 b7); go_simp; (try go_bits); (try (with_reducible rfl)))); (try simp only [Act.put, List.setIfInBounds_toArray, List.set_cons_zero, List.set_cons_succ])) | (refine RP.t_skip rfl rfl ?_; (try simp only [Act.put, List.setIfInBounds_toArray, List.set_cons_zero, List.set_cons_succ])))
              refine RP.t_done ?_
              have hfm : (Al.find C1 kA).map (·.2) = some [99] := by rw [← Al.turn_find, HC1.out]; rfl
              have hfs : (Al.find C1 kA).isSome = true := some_of_map hfm
              have hfl : ∀ c ∈ C1, c.2.2.length ≤ 1000000000 := fun c hc => by
                have h1 : (c.1, c.2.2) ∈ Al.turn (·.2) C1 := List.mem_map.2 ⟨c, hc, rfl⟩
                rw [HC1.out, List.mem_singleton] at h1
                rw [show c.2.2 = [99] from congrArg Prod.snd h1]; decide
              have hc := code_any H.out.k kA hfl
              rw [hfs, hfm] at hc
              simp only [Option.getD_some] at hc
              replace hc := Lib.hid hc
              have HF2 := Lib.hid (show Al.find (Al.del kA C1) kA = none from by rw [Al.find_del H.out.k.rise, if_pos rfl])
              have HFL := Lib.hid hfl
              clear hfm hfs hfl
              obtain ⟨a0, a1, a2, a3, a4, a5, a6, a7⟩ := lies_addr H.out.a
              simp only [kA] at a0 a1 a2 a3 a4 a5 a6 a7
              go_wp2_with fail
              refine hc.out.mono ?_
              rintro ex U46 ⟨v7, rfl, ht, hb⟩
              obtain ⟨s7, c7, rfl⟩ := ht.form
              have HV := Lib.hid (ht.mono (own' := fun i => W.heap.size + 2 ≤ i) (fun k _ hk => H.out.ho k hk))
              replace H := Lib.hid (H.out.later hb)
              clear hc ht hb
              clear a0 a1 a2 a3 a4 a5 a6 a7
              obtain ⟨a0, a1, a2, a3, a4, a5, a6, a7⟩ := lies_addr H.out.a
              simp only [kA] at a0 a1 a2 a3 a4 a5 a6 a7
              go_wp2_with fail
              refine (setcode_del H.out.k kA none 0).mono ?_
              rintro ex U47 ⟨rfl, hk, hf⟩
              replace HV := Lib.hid (H.out.k.bts_map HV.out hf)
              replace H := Lib.hid (H.out.owned hk (hf.mono (fun k _ e => e ▸ H.out.k.obm)))
              clear hk hf
              clear a0 a1 a2 a3 a4 a5 a6 a7
              have hc := code_any H.out.k kA (fun c hc => HFL.out c (Al.mem_del.1 hc).1)
              rw [HF2.out] at hc
              simp only [Option.isSome_none, Option.map_none, Option.getD_none] at hc
              replace hc := Lib.hid hc
              obtain ⟨a0, a1, a2, a3, a4, a5, a6, a7⟩ := lies_addr H.out.a
              simp only [kA] at a0 a1 a2 a3 a4 a5 a6 a7
              go_wp2_with fail
              refine hc.out.mono ?_
              rintro ex U48 ⟨v9, rfl, ht, hb⟩
              obtain ⟨s9, c9, rfl⟩ := ht.form
              have HY := Lib.hid (HV.out.byt.later hb)
              replace H := Lib.hid (H.out.later hb)
              clear hc ht hb HV HF2 HFL HC1
              clear a0 a1 a2 a3 a4 a5 a6 a7
              obtain ⟨a0, a1, a2, a3, a4, a5, a6, a7⟩ := lies_addr H.out.a
              simp only [kA] at a0 a1 a2 a3 a4 a5 a6 a7
              go_wp2_with fail
              refine (code_nil _ kA).mono ?_
              rintro ex U49 ⟨rfl, hb⟩
              replace HY := Lib.hid (HY.out.later hb)
              replace H := Lib.hid (H.out.later hb)
              clear hb
              clear a0 a1 a2 a3 a4 a5 a6 a7
              have kx := HY.out.conv
              simp only [List.length_cons, List.length_nil, Nat.zero_add] at kx
              have hq : (bst [99]).toList = [99] := by rw [ByteArray.toList_eq]; rfl
              obtain ⟨a0, a1, a2, a3, a4, a5, a6, a7⟩ := lies_addr H.out.a
              simp only [kA] at a0 a1 a2 a3 a4 a5 a6 a7
              go_wp2_with fail
              refine (emit_nil _ kA _).mono ?_
              rintro ex U50 ⟨rfl, hb⟩
              clear kx
              replace HY := Lib.hid (HY.out.later hb)
              replace H := Lib.hid (H.out.later hb)
              clear hb
              clear a0 a1 a2 a3 a4 a5 a6 a7
              go_wp2_with fail
              refine (cut_nil _ _).mono ?_
              rintro ex U51 ⟨rfl, rfl⟩
              obtain ⟨a0, a1, a2, a3, a4, a5, a6, a7⟩ := lies_addr H.out.a
              simp only [kA] at a0 a1 a2 a3 a4 a5 a6 a7
              go_wp2_with fail
              refine (setcode_nil _ kA _).mono ?_
              rintro ex U52 ⟨rfl, hb⟩
              replace HY := Lib.hid (HY.out.later hb)
              replace H := Lib.hid (H.out.later hb)
              clear hb
              clear a0 a1 a2 a3 a4 a5 a6 a7
              go_wp2_with fail
              refine (len_nil _).mono ?_
              rintro ex U53 ⟨rfl, rfl⟩
              go_wp2_with fail
              refine (events_nil _).mono ?_
              rintro ex U54 ⟨rfl, rfl⟩
              go_wp2_with fail
              refine (coded_nil _).mono ?_
              rintro ex U55 ⟨rfl, rfl⟩
              go_wp2_with fail
              refine (copy_nil _).mono ?_
              rintro ex U56 ⟨rfl, rfl⟩
              go_wp2_with fail
              go_ret
              exact ⟨rfl, H.out.below⟩
          · as_aux_lemma =>
              refine if_go rfl ?_
              refine wp_mark HG.out _ 1 1 rfl rfl (fun U57 hf hx => ?_)
              replace H := Lib.hid (H.out.marked hf hgb)
              have HX := Lib.hid (show Byt U57 (.slice (some ⟨g36, 0, none⟩) 1 1) [120] from hx)
              refine hKK.out _ _ ⟨H.out.a, H.out.b⟩ ?_
              clear hKK KK hf hx HG hgb hglt
              (try simp only [Act.put, List.setIfInBounds_toArray, List.set_cons_zero, List.set_cons_succ])
              refine RP.t_take (v := .agg (Ev.cs ⟨kA, .slice (some ⟨g36, 0, none⟩) 1 1, [120]⟩).toArray) rfl rfl (fun w' _ => exec_build kA (some ⟨g36, 0, none⟩) 1 1 [120] _ _ rfl rfl rfl w') ?_
              (try simp only [Act.put, List.setIfInBounds_toArray, List.set_cons_zero, List.set_cons_succ])
              refine RP.t_fork rfl rfl (fun KK hKK => ?_) (fun KK hKK => ?_)
              · as_aux_lemma =>
                  go_simp
                  have hc := events_any H.out.k (by rw [← said_len, HS5.out]; decide) (said_short HS5.out (by decide)) 0
                  refine hc.mono ?_
                  rintro ex U58 ⟨vt, E6, rfl, hs, ht, hb⟩
                  have HSE6 := Lib.hid (show said E6 = [(kA, [120])] from by rw [hs, if_neg (by decide), said_drop, HS5.out]; rfl)
                  have HLNE6 := Lib.hid (show E6.length = 1 from by rw [← said_len, HSE6.out]; rfl)
                  obtain ⟨st, ct, rfl, _⟩ := ht.row.form
                  have HT := Lib.hid (ht.mono (own' := fun _ => True) (fun k _ hk => trivial))
                  replace H := Lib.hid (H.out.later hb)
                  replace HX := Lib.hid (HX.out.later hb)
                  clear hc hs ht hb
                  refine hKK.out _ _ ⟨H.out.a, H.out.b⟩ ?_
                  clear hKK KK
                  (try simp only [Act.put, List.setIfInBounds_toArray, List.set_cons_zero, List.set_cons_succ])
                  repeat (first | (refine RP.t_take (v := ?_) rfl rfl (fun w' hw' => ?_) ?_; rotate_left; (focus ((obtain ⟨hAf, hBf⟩ := hw'; obtain ⟨a0, a1, a2, a3, a4, a5, a6, a7⟩ := lies_addr hAf; obtain ⟨b0, b1, b2, b3, b4, b5, b6, b7⟩ := lies_addr hBf; simp only [kA, kB] at a0 a1 a2 a3 a4 a5 a6 a7 b0 b1 b2 b3 b4 b5 b6 b7); go_simp; (try go_bits); (try (with_reducible rfl)))); (try simp only [Act.put, List.setIfInBounds_toArray, List.set_cons_zero, List.set_cons_succ])) | (refine RP.t_skip rfl rfl ?_; (try simp only [Act.put, List.setIfInBounds_toArray, List.set_cons_zero, List.set_cons_succ])))
                  refine t_run1 rfl rfl (fun KK hKK => ?_)
                  refine wp_bslice kA (some ⟨g36, 0, none⟩) 1 1 [120] _ rfl rfl ?_
                  have hl9 : Shows (U58.alloc (.cells (Ev.cs ⟨kA, .slice (some ⟨g36, 0, none⟩) 1 1, [120]⟩).toArray 66)) (.slice (some ⟨U58.heap.size, 0, none⟩) 1 1) [⟨kA, .slice (some ⟨g36, 0, none⟩) 1 1, [120]⟩] := shows_one U58 _ HX.out
                  have hb : Below U58.heap.size U58 (U58.alloc (.cells (Ev.cs ⟨kA, .slice (some ⟨g36, 0, none⟩) 1 1, [120]⟩).toArray 66)) := (Below.refl _ _).alloc (Nat.le_refl _) _
                  have HL := Lib.hid hl9
                  clear hl9
                  replace H := Lib.hid (H.out.later hb)
                  replace HT := Lib.hid (HT.out.later hb)
                  replace HX := Lib.hid (HX.out.later hb)
                  refine hKK.out _ _ ⟨H.out.a, H.out.b⟩ ?_
                  clear hKK KK hb
                  generalize U58.alloc (.cells (Ev.cs ⟨kA, .slice (some ⟨g36, 0, none⟩) 1 1, [120]⟩).toArray 66) = U59 at H HL HT HX ⊢
                  generalize U58.heap.size = d59 at HL ⊢
                  (try simp only [Act.put, List.setIfInBounds_toArray, List.set_cons_zero, List.set_cons_succ])
                  refine RP.t_run rfl (fun KK hKK => ?_)
                  go_simp
                  have hc := same_any HT.out.shows HL.out (by rw [HLNE6.out]; decide)
                  rw [HSE6.out, decide_eq_true (show ([(kA, [120])] : List (A8 × List UInt8)) = said [⟨kA, .slice (some ⟨g36, 0, none⟩) 1 1, [120]⟩] from rfl)] at hc
                  refine hc.mono ?_
                  rintro ex U60 ⟨rfl, hb⟩
                  replace H := Lib.hid (H.out.later hb)
                  clear hc hb HT HL HX
                  refine hKK.out _ _ ⟨H.out.a, H.out.b⟩ ?_
                  clear hKK KK
                  (try simp only [Act.put, List.setIfInBounds_toArray, List.set_cons_zero, List.set_cons_succ])
                  repeat (first | (refine RP.t_take (v := ?_) rfl rfl (fun w' hw' => ?_) ?_; rotate_left; (focus ((obtain ⟨hAf, hBf⟩ := hw'; obtain ⟨a0, a1, a2, a3, a4, a5, a6, a7⟩ := lies_addr hAf; obtain ⟨b0, b1, b2, b3, b4, b5, b6, b7⟩ := lies_addr hBf; simp only [kA, kB] at a0 a1 a2 a3 a4 a5 a6 a7 b0 b1 b2 b3 b4 b5 b6 b7); go_simp; (try go_bits); (try (with_reducible rfl)))); (try simp only [Act.put, List.setIfInBounds_toArray, List.set_cons_zero, List.set_cons_succ])) | (refine RP.t_skip rfl rfl ?_; (try simp only [Act.put, List.setIfInBounds_toArray, List.set_cons_zero, List.set_cons_succ])))
                  refine RP.t_run rfl (fun KK hKK => ?_)
                  go_simp
                  have hb : Below U60.heap.size U60 (U60.alloc (.cells #[.int .u8 99] 5)) := (Below.refl _ _).alloc (Nat.le_refl _) _
                  have hl1 : Lies (U60.alloc (.cells #[.int .u8 99] 5)) U60.heap.size 5 #[.int .u8 99] := Lies.new _ _ _
                  have hgb : W.heap.size + 2 ≤ U60.heap.size := H.out.lo _ (H.out.ho _ (Nat.le_refl _))
                  have hglt : U60.heap.size < (U60.alloc (.cells #[.int .u8 99] 5)).heap.size := by simp only [World.size_alloc]; omega
                  replace H := Lib.hid (H.out.lit (.cells #[.int .u8 99] 5))
                  refine hKK.out _ _ ⟨H.out.a, H.out.b⟩ ?_
                  clear hKK KK hb
                  generalize U60.alloc (.cells #[.int .u8 99] 5) = U62 at H hl1 hglt ⊢
                  generalize U60.heap.size = g61 at H hl1 hgb hglt ⊢
                  have HG := Lib.hid (show Lies U62 g61 5 #[.int .u8 (((99 : UInt8)).toNat : Int)] from hl1)
                  clear hl1
                  (try simp only [Act.put, List.setIfInBounds_toArray, List.set_cons_zero, List.set_cons_succ])
                  refine t_run1 rfl rfl (fun KK hKK => ?_)
                  refine wp_mark HG.out _ 1 1 rfl rfl (fun U63 hf hx => ?_)
                  replace H := Lib.hid (H.out.marked hf hgb)
                  have HX := Lib.hid (show Byt U63 (.slice (some ⟨g61, 0, none⟩) 1 1) [99] from hx)
                  refine hKK.out _ _ ⟨H.out.a, H.out.b⟩ ?_
                  clear hKK KK hf hx HG hgb hglt
                  (try simp only [Act.put, List.setIfInBounds_toArray, List.set_cons_zero, List.set_cons_succ])
                  refine RP.t_run rfl (fun KK hKK => ?_)
                  go_simp
                  have hc := setcode_own H.out.k H.out.ho kA HX.out (by decide)
                  refine hc.mono ?_
                  rintro ex U64 ⟨C1, rfl, hk, hs, hf⟩
                  replace H := Lib.hid (H.out.owned hk hf)
                  have HC1 := Lib.hid (show Al.turn (·.2) C1 = [(kA, [99])] from by rw [hs]; rfl)
                  clear hc hk hs hf HX
                  refine hKK.out _ _ ⟨H.out.a, H.out.b⟩ ?_
                  clear hKK KK
                  (try simp only [Act.put, List.setIfInBounds_toArray, List.set_cons_zero, List.set_cons_succ])
                  repeat (first | (refine RP.t_take (v := ?_) rfl rfl (fun w' hw' => ?_) ?_; rotate_left; (focus ((obtain ⟨hAf, hBf⟩ := hw'; obtain ⟨a0, a1, a2, a3, a4, a5, a6, a7⟩ := lies_addr hAf; obtain ⟨b0, b1, b2, b3, b4, b5, b6, b7⟩ := lies_addr hBf; simp only [kA, kB] at a0 a1 a2 a3 a4 a5 a6 a7 b0 b1 b2 b3 b4 b5 b6 b7); go_simp; (try go_bits); (try (with_reducible rfl)))); (try simp only [Act.put, List.setIfInBounds_toArray, List.set_cons_zero, List.set_cons_succ])) | (refine RP.t_skip rfl rfl ?_; (try simp only [Act.put, List.setIfInBounds_toArray, List.set_cons_zero, List.set_cons_succ])))
                  refine RP.t_done ?_
                  have hfm : (Al.find C1 kA).map (·.2) = some [99] := by rw [← Al.turn_find, HC1.out]; rfl
                  have hfs : (Al.find C1 kA).isSome = true := some_of_map hfm
                  have hfl : ∀ c ∈ C1, c.2.2.length ≤ 1000000000 := fun c hc => by
                    have h1 : (c.1, c.2.2) ∈ Al.turn (·.2) C1 := List.mem_map.2 ⟨c, hc, rfl⟩
                    rw [HC1.out, List.mem_singleton] at h1
                    rw [show c.2.2 = [99] from congrArg Prod.snd h1]; decide
                  have hc := code_any H.out.k kA hfl
                  rw [hfs, hfm] at hc
                  simp only [Option.getD_some] at hc
                  replace hc := Lib.hid hc
                  have HF2 := Lib.hid (show Al.find (Al.del kA C1) kA = none from by rw [Al.find_del H.out.k.rise, if_pos rfl])
                  have HFL := Lib.hid hfl
                  clear hfm hfs hfl
                  obtain ⟨a0, a1, a2, a3, a4, a5, a6, a7⟩ := lies_addr H.out.a
                  simp only [kA] at a0 a1 a2 a3 a4 a5 a6 a7
                  go_wp2_with fail
                  refine hc.out.mono ?_
                  rintro ex U65 ⟨v7, rfl, ht, hb⟩
                  obtain ⟨s7, c7, rfl⟩ := ht.form
                  have HV := Lib.hid (ht.mono (own' := fun i => W.heap.size + 2 ≤ i) (fun k _ hk => H.out.ho k hk))
                  replace H := Lib.hid (H.out.later hb)
                  clear hc ht hb
                  clear a0 a1 a2 a3 a4 a5 a6 a7
                  obtain ⟨a0, a1, a2, a3, a4, a5, a6, a7⟩ := lies_addr H.out.a
                  simp only [kA] at a0 a1 a2 a3 a4 a5 a6 a7
                  go_wp2_with fail
                  refine (setcode_del H.out.k kA none 0).mono ?_
                  rintro ex U66 ⟨rfl, hk, hf⟩
                  replace HV := Lib.hid (H.out.k.bts_map HV.out hf)
                  replace H := Lib.hid (H.out.owned hk (hf.mono (fun k _ e => e ▸ H.out.k.obm)))
                  clear hk hf
                  clear a0 a1 a2 a3 a4 a5 a6 a7
                  have hc := code_any H.out.k kA (fun c hc => HFL.out c (Al.mem_del.1 hc).1)
                  rw [HF2.out] at hc
                  simp only [Option.isSome_none, Option.map_none, Option.getD_none] at hc
                  replace hc := Lib.hid hc
                  obtain ⟨a0, a1, a2, a3, a4, a5, a6, a7⟩ := lies_addr H.out.a
                  simp only [kA] at a0 a1 a2 a3 a4 a5 a6 a7
                  go_wp2_with fail
                  refine hc.out.mono ?_
                  rintro ex U67 ⟨v9, rfl, ht, hb⟩
                  obtain ⟨s9, c9, rfl⟩ := ht.form
                  have HY := Lib.hid (HV.out.byt.later hb)
                  replace H := Lib.hid (H.out.later hb)
                  clear hc ht hb HV HF2 HFL HC1
                  clear a0 a1 a2 a3 a4 a5 a6 a7
                  obtain ⟨a0, a1, a2, a3, a4, a5, a6, a7⟩ := lies_addr H.out.a
                  simp only [kA] at a0 a1 a2 a3 a4 a5 a6 a7
                  go_wp2_with fail
                  refine (code_nil _ kA).mono ?_
                  rintro ex U68 ⟨rfl, hb⟩
                  replace HY := Lib.hid (HY.out.later hb)
                  replace H := Lib.hid (H.out.later hb)
                  clear hb
                  clear a0 a1 a2 a3 a4 a5 a6 a7
                  have kx := HY.out.conv
                  simp only [List.length_cons, List.length_nil, Nat.zero_add] at kx
                  have hq : (bst [99]).toList = [99] := by rw [ByteArray.toList_eq]; rfl
                  obtain ⟨a0, a1, a2, a3, a4, a5, a6, a7⟩ := lies_addr H.out.a
                  simp only [kA] at a0 a1 a2 a3 a4 a5 a6 a7
                  go_wp2_with fail
                  refine (emit_nil _ kA _).mono ?_
                  rintro ex U69 ⟨rfl, hb⟩
                  clear kx
                  replace HY := Lib.hid (HY.out.later hb)
                  replace H := Lib.hid (H.out.later hb)
                  clear hb
                  clear a0 a1 a2 a3 a4 a5 a6 a7
                  go_wp2_with fail
                  refine (cut_nil _ _).mono ?_
                  rintro ex U70 ⟨rfl, rfl⟩
                  obtain ⟨a0, a1, a2, a3, a4, a5, a6, a7⟩ := lies_addr H.out.a
                  simp only [kA] at a0 a1 a2 a3 a4 a5 a6 a7
                  go_wp2_with fail
                  refine (setcode_nil _ kA _).mono ?_
                  rintro ex U71 ⟨rfl, hb⟩
                  replace HY := Lib.hid (HY.out.later hb)
                  replace H := Lib.hid (H.out.later hb)
                  clear hb
                  clear a0 a1 a2 a3 a4 a5 a6 a7
                  go_wp2_with fail
                  refine (len_nil _).mono ?_
                  rintro ex U72 ⟨rfl, rfl⟩
                  go_wp2_with fail
                  refine (events_nil _).mono ?_
                  rintro ex U73 ⟨rfl, rfl⟩
                  go_wp2_with fail
                  refine (coded_nil _).mono ?_
                  rintro ex U74 ⟨rfl, rfl⟩
                  go_wp2_with fail
                  refine (copy_nil _).mono ?_
                  rintro ex U75 ⟨rfl, rfl⟩
                  go_wp2_with fail
                  go_ret
                  exact ⟨rfl, H.out.below⟩
              · as_aux_lemma =>
                  refine if_go rfl ?_
                  refine wp_bslice kA (some ⟨g36, 0, none⟩) 1 1 [120] _ rfl rfl ?_
                  have hl9 : Shows (U57.alloc (.cells (Ev.cs ⟨kA, .slice (some ⟨g36, 0, none⟩) 1 1, [120]⟩).toArray 66)) (.slice (some ⟨U57.heap.size, 0, none⟩) 1 1) [⟨kA, .slice (some ⟨g36, 0, none⟩) 1 1, [120]⟩] := shows_one U57 _ HX.out
                  have hb : Below U57.heap.size U57 (U57.alloc (.cells (Ev.cs ⟨kA, .slice (some ⟨g36, 0, none⟩) 1 1, [120]⟩).toArray 66)) := (Below.refl _ _).alloc (Nat.le_refl _) _
                  have HL := Lib.hid hl9
                  clear hl9
                  replace H := Lib.hid (H.out.later hb)
                  replace HX := Lib.hid (HX.out.later hb)
                  refine hKK.out _ _ ⟨H.out.a, H.out.b⟩ ?_
                  clear hKK KK hb
                  generalize U57.alloc (.cells (Ev.cs ⟨kA, .slice (some ⟨g36, 0, none⟩) 1 1, [120]⟩).toArray 66) = U76 at H HL HX ⊢
                  generalize U57.heap.size = d76 at HL ⊢
                  (try simp only [Act.put, List.setIfInBounds_toArray, List.set_cons_zero, List.set_cons_succ])
                  refine RP.t_run rfl (fun KK hKK => ?_)
                  go_simp
                  have hc := events_any H.out.k (by rw [← said_len, HS5.out]; decide) (said_short HS5.out (by decide)) 0
                  refine hc.mono ?_
                  rintro ex U77 ⟨vt, E6, rfl, hs, ht, hb⟩
                  have HSE6 := Lib.hid (show said E6 = [(kA, [120])] from by rw [hs, if_neg (by decide), said_drop, HS5.out]; rfl)
                  have HLNE6 := Lib.hid (show E6.length = 1 from by rw [← said_len, HSE6.out]; rfl)
                  obtain ⟨st, ct, rfl, _⟩ := ht.row.form
                  have HT := Lib.hid (ht.mono (own' := fun _ => True) (fun k _ hk => trivial))
                  replace H := Lib.hid (H.out.later hb)
                  replace HL := Lib.hid (HL.out.later hb)
                  replace HX := Lib.hid (HX.out.later hb)
                  clear hc hs ht hb
                  refine hKK.out _ _ ⟨H.out.a, H.out.b⟩ ?_
                  clear hKK KK
                  (try simp only [Act.put, List.setIfInBounds_toArray, List.set_cons_zero, List.set_cons_succ])
                  repeat (first | (refine RP.t_take (v := ?_) rfl rfl (fun w' hw' => ?_) ?_; rotate_left; (focus ((obtain ⟨hAf, hBf⟩ := hw'; obtain ⟨a0, a1, a2, a3, a4, a5, a6, a7⟩ := lies_addr hAf; obtain ⟨b0, b1, b2, b3, b4, b5, b6, b7⟩ := lies_addr hBf; simp only [kA, kB] at a0 a1 a2 a3 a4 a5 a6 a7 b0 b1 b2 b3 b4 b5 b6 b7); go_simp; (try go_bits); (try (with_reducible rfl)))); (try simp only [Act.put, List.setIfInBounds_toArray, List.set_cons_zero, List.set_cons_succ])) | (refine RP.t_skip rfl rfl ?_; (try simp only [Act.put, List.setIfInBounds_toArray, List.set_cons_zero, List.set_cons_succ])))
                  refine RP.t_run rfl (fun KK hKK => ?_)
                  go_simp
                  have hc := same_any HT.out.shows HL.out (by rw [HLNE6.out]; decide)
                  rw [HSE6.out, decide_eq_true (show ([(kA, [120])] : List (A8 × List UInt8)) = said [⟨kA, .slice (some ⟨g36, 0, none⟩) 1 1, [120]⟩] from rfl)] at hc
                  refine hc.mono ?_
                  rintro ex U78 ⟨rfl, hb⟩
                  replace H := Lib.hid (H.out.later hb)
                  clear hc hb HT HL HX
                  refine hKK.out _ _ ⟨H.out.a, H.out.b⟩ ?_
                  clear hKK KK
                  (try simp only [Act.put, List.setIfInBounds_toArray, List.set_cons_zero, List.set_cons_succ])
                  repeat (first | (refine RP.t_take (v := ?_) rfl rfl (fun w' hw' => ?_) ?_; rotate_left; (focus ((obtain ⟨hAf, hBf⟩ := hw'; obtain ⟨a0, a1, a2, a3, a4, a5, a6, a7⟩ := lies_addr hAf; obtain ⟨b0, b1, b2, b3, b4, b5, b6, b7⟩ := lies_addr hBf; simp only [kA, kB] at a0 a1 a2 a3 a4 a5 a6 a7 b0 b1 b2 b3 b4 b5 b6 b7); go_simp; (try go_bits); (try (with_reducible rfl)))); (try simp only [Act.put, List.setIfInBounds_toArray, List.set_cons_zero, List.set_cons_succ])) | (refine RP.t_skip rfl rfl ?_; (try simp only [Act.put, List.setIfInBounds_toArray, List.set_cons_zero, List.set_cons_succ])))
                  refine RP.t_run rfl (fun KK hKK => ?_)
                  go_simp
                  have hb : Below U78.heap.size U78 (U78.alloc (.cells #[.int .u8 99] 5)) := (Below.refl _ _).alloc (Nat.le_refl _) _
                  have hl1 : Lies (U78.alloc (.cells #[.int .u8 99] 5)) U78.heap.size 5 #[.int .u8 99] := Lies.new _ _ _
                  have hgb : W.heap.size + 2 ≤ U78.heap.size := H.out.lo _ (H.out.ho _ (Nat.le_refl _))
                  have hglt : U78.heap.size < (U78.alloc (.cells #[.int .u8 99] 5)).heap.size := by simp only [World.size_alloc]; omega
                  replace H := Lib.hid (H.out.lit (.cells #[.int .u8 99] 5))
                  refine hKK.out _ _ ⟨H.out.a, H.out.b⟩ ?_
                  clear hKK KK hb
                  generalize U78.alloc (.cells #[.int .u8 99] 5) = U80 at H hl1 hglt ⊢
                  generalize U78.heap.size = g79 at H hl1 hgb hglt ⊢
                  have HG := Lib.hid (show Lies U80 g79 5 #[.int .u8 (((99 : UInt8)).toNat : Int)] from hl1)
                  clear hl1
                  (try simp only [Act.put, List.setIfInBounds_toArray, List.set_cons_zero, List.set_cons_succ])
                  refine t_run1 rfl rfl (fun KK hKK => ?_)
                  refine wp_mark HG.out _ 1 1 rfl rfl (fun U81 hf hx => ?_)
                  replace H := Lib.hid (H.out.marked hf hgb)
                  have HX := Lib.hid (show Byt U81 (.slice (some ⟨g79, 0, none⟩) 1 1) [99] from hx)
                  refine hKK.out _ _ ⟨H.out.a, H.out.b⟩ ?_
                  clear hKK KK hf hx HG hgb hglt
                  (try simp only [Act.put, List.setIfInBounds_toArray, List.set_cons_zero, List.set_cons_succ])
                  refine RP.t_run rfl (fun KK hKK => ?_)
                  go_simp
                  have hc := setcode_own H.out.k H.out.ho kA HX.out (by decide)
                  refine hc.mono ?_
                  rintro ex U82 ⟨C1, rfl, hk, hs, hf⟩
                  replace H := Lib.hid (H.out.owned hk hf)
                  have HC1 := Lib.hid (show Al.turn (·.2) C1 = [(kA, [99])] from by rw [hs]; rfl)
                  clear hc hk hs hf HX
                  refine hKK.out _ _ ⟨H.out.a, H.out.b⟩ ?_
                  clear hKK KK
                  (try simp only [Act.put, List.setIfInBounds_toArray, List.set_cons_zero, List.set_cons_succ])
                  repeat (first | (refine RP.t_take (v := ?_) rfl rfl (fun w' hw' => ?_) ?_; rotate_left; (focus ((obtain ⟨hAf, hBf⟩ := hw'; obtain ⟨a0, a1, a2, a3, a4, a5, a6, a7⟩ := lies_addr hAf; obtain ⟨b0, b1, b2, b3, b4, b5, b6, b7⟩ := lies_addr hBf; simp only [kA, kB] at a0 a1 a2 a3 a4 a5 a6 a7 b0 b1 b2 b3 b4 b5 b6 b7); go_simp; (try go_bits); (try (with_reducible rfl)))); (try simp only [Act.put, List.setIfInBounds_toArray, List.set_cons_zero, List.set_cons_succ])) | (refine RP.t_skip rfl rfl ?_; (try simp only [Act.put, List.setIfInBounds_toArray, List.set_cons_zero, List.set_cons_succ])))
                  refine RP.t_done ?_
                  have hfm : (Al.find C1 kA).map (·.2) = some [99] := by rw [← Al.turn_find, HC1.out]; rfl
                  have hfs : (Al.find C1 kA).isSome = true := some_of_map hfm
                  have hfl : ∀ c ∈ C1, c.2.2.length ≤ 1000000000 := fun c hc => by
                    have h1 : (c.1, c.2.2) ∈ Al.turn (·.2) C1 := List.mem_map.2 ⟨c, hc, rfl⟩
                    rw [HC1.out, List.mem_singleton] at h1
                    rw [show c.2.2 = [99] from congrArg Prod.snd h1]; decide
                  have hc := code_any H.out.k kA hfl
                  rw [hfs, hfm] at hc
                  simp only [Option.getD_some] at hc
                  replace hc := Lib.hid hc
                  have HF2 := Lib.hid (show Al.find (Al.del kA C1) kA = none from by rw [Al.find_del H.out.k.rise, if_pos rfl])
                  have HFL := Lib.hid hfl
                  clear hfm hfs hfl
                  obtain ⟨a0, a1, a2, a3, a4, a5, a6, a7⟩ := lies_addr H.out.a
                  simp only [kA] at a0 a1 a2 a3 a4 a5 a6 a7
                  go_wp2_with fail
                  refine hc.out.mono ?_
                  rintro ex U83 ⟨v7, rfl, ht, hb⟩
                  obtain ⟨s7, c7, rfl⟩ := ht.form
                  have HV := Lib.hid (ht.mono (own' := fun i => W.heap.size + 2 ≤ i) (fun k _ hk => H.out.ho k hk))
                  replace H := Lib.hid (H.out.later hb)
                  clear hc ht hb
                  clear a0 a1 a2 a3 a4 a5 a6 a7
                  obtain ⟨a0, a1, a2, a3, a4, a5, a6, a7⟩ := lies_addr H.out.a
                  simp only [kA] at a0 a1 a2 a3 a4 a5 a6 a7
                  go_wp2_with fail
                  refine (setcode_del H.out.k kA none 0).mono ?_
                  rintro ex U84 ⟨rfl, hk, hf⟩
                  replace HV := Lib.hid (H.out.k.bts_map HV.out hf)
                  replace H := Lib.hid (H.out.owned hk (hf.mono (fun k _ e => e ▸ H.out.k.obm)))
                  clear hk hf
                  clear a0 a1 a2 a3 a4 a5 a6 a7
                  have hc := code_any H.out.k kA (fun c hc => HFL.out c (Al.mem_del.1 hc).1)
                  rw [HF2.out] at hc
                  simp only [Option.isSome_none, Option.map_none, Option.getD_none] at hc
                  replace hc := Lib.hid hc
                  obtain ⟨a0, a1, a2, a3, a4, a5, a6, a7⟩ := lies_addr H.out.a
                  simp only [kA] at a0 a1 a2 a3 a4 a5 a6 a7
                  go_wp2_with fail
                  refine hc.out.mono ?_
                  rintro ex U85 ⟨v9, rfl, ht, hb⟩
                  obtain ⟨s9, c9, rfl⟩ := ht.form
                  have HY := Lib.hid (HV.out.byt.later hb)
                  replace H := Lib.hid (H.out.later hb)
                  clear hc ht hb HV HF2 HFL HC1
                  clear a0 a1 a2 a3 a4 a5 a6 a7
                  obtain ⟨a0, a1, a2, a3, a4, a5, a6, a7⟩ := lies_addr H.out.a
                  simp only [kA] at a0 a1 a2 a3 a4 a5 a6 a7
                  go_wp2_with fail
                  refine (code_nil _ kA).mono ?_
                  rintro ex U86 ⟨rfl, hb⟩
                  replace HY := Lib.hid (HY.out.later hb)
                  replace H := Lib.hid (H.out.later hb)
                  clear hb
                  clear a0 a1 a2 a3 a4 a5 a6 a7
                  have kx := HY.out.conv
                  simp only [List.length_cons, List.length_nil, Nat.zero_add] at kx
                  have hq : (bst [99]).toList = [99] := by rw [ByteArray.toList_eq]; rfl
                  obtain ⟨a0, a1, a2, a3, a4, a5, a6, a7⟩ := lies_addr H.out.a
                  simp only [kA] at a0 a1 a2 a3 a4 a5 a6 a7
                  go_wp2_with fail
                  refine (emit_nil _ kA _).mono ?_
                  rintro ex U87 ⟨rfl, hb⟩
                  clear kx
                  replace HY := Lib.hid (HY.out.later hb)
                  replace H := Lib.hid (H.out.later hb)
                  clear hb
                  clear a0 a1 a2 a3 a4 a5 a6 a7
                  go_wp2_with fail
                  refine (cut_nil _ _).mono ?_
                  rintro ex U88 ⟨rfl, rfl⟩
                  obtain ⟨a0, a1, a2, a3, a4, a5, a6, a7⟩ := lies_addr H.out.a
                  simp only [kA] at a0 a1 a2 a3 a4 a5 a6 a7
                  go_wp2_with fail
                  refine (setcode_nil _ kA _).mono ?_
                  rintro ex U89 ⟨rfl, hb⟩
                  replace HY := Lib.hid (HY.out.later hb)
                  replace H := Lib.hid (H.out.later hb)
                  clear hb
                  clear a0 a1 a2 a3 a4 a5 a6 a7
                  go_wp2_with fail
                  refine (len_nil _).mono ?_
                  rintro ex U90 ⟨rfl, rfl⟩
                  go_wp2_with fail
                  refine (events_nil _).mono ?_
                  rintro ex U91 ⟨rfl, rfl⟩
                  go_wp2_with fail
                  refine (coded_nil _).mono ?_
                  rintro ex U92 ⟨rfl, rfl⟩
                  go_wp2_with fail
                  refine (copy_nil _).mono ?_
                  rintro ex U93 ⟨rfl, rfl⟩
                  go_wp2_with fail
                  go_ret
                  exact ⟨rfl, H.out.below⟩
  · as_aux_lemma =>
      refine if_go rfl ?_
      refine wp_bslice kB none 0 0 [] _ rfl rfl ?_
      have hl9 : Shows (U7.alloc (.cells (Ev.cs ⟨kB, .slice none 0 0, []⟩).toArray 66)) (.slice (some ⟨U7.heap.size, 0, none⟩) 1 1) [⟨kB, .slice none 0 0, []⟩] := shows_one U7 _ (byt_nil _ 0)
      have hb : Below U7.heap.size U7 (U7.alloc (.cells (Ev.cs ⟨kB, .slice none 0 0, []⟩).toArray 66)) := (Below.refl _ _).alloc (Nat.le_refl _) _
      have HL := Lib.hid hl9
      clear hl9
      replace H := Lib.hid (H.out.later hb)
      refine hKK.out _ _ ⟨H.out.a, H.out.b⟩ ?_
      clear hKK KK hb
      generalize U7.alloc (.cells (Ev.cs ⟨kB, .slice none 0 0, []⟩).toArray 66) = U94 at H HL ⊢
      generalize U7.heap.size = d94 at HL ⊢
      (try simp only [Act.put, List.setIfInBounds_toArray, List.set_cons_zero, List.set_cons_succ])
      refine RP.t_run rfl (fun KK hKK => ?_)
      go_simp
      have hc := events_any H.out.k (by rw [← said_len, HSE2.out]; decide) (said_short HSE2.out (by decide)) 1
      refine hc.mono ?_
      rintro ex U95 ⟨vt, E3, rfl, hs, ht, hb⟩
      have HSE3 := Lib.hid (show said E3 = [(kB, [])] from by rw [hs, if_neg (by decide), said_drop, HSE2.out]; rfl)
      have HLNE3 := Lib.hid (show E3.length = 1 from by rw [← said_len, HSE3.out]; rfl)
      obtain ⟨st, ct, rfl, _⟩ := ht.row.form
      have HT := Lib.hid (ht.mono (own' := fun _ => True) (fun k _ hk => trivial))
      replace H := Lib.hid (H.out.later hb)
      replace HL := Lib.hid (HL.out.later hb)
      clear hc hs ht hb
      refine hKK.out _ _ ⟨H.out.a, H.out.b⟩ ?_
      clear hKK KK
      (try simp only [Act.put, List.setIfInBounds_toArray, List.set_cons_zero, List.set_cons_succ])
      repeat (first | (refine RP.t_take (v := ?_) rfl rfl (fun w' hw' => ?_) ?_; rotate_left; (focus ((obtain ⟨hAf, hBf⟩ := hw'; obtain ⟨a0, a1, a2, a3, a4, a5, a6, a7⟩ := lies_addr hAf; obtain ⟨b0, b1, b2, b3, b4, b5, b6, b7⟩ := lies_addr hBf; simp only [kA, kB] at a0 a1 a2 a3 a4 a5 a6 a7 b0 b1 b2 b3 b4 b5 b6 b7); go_simp; (try go_bits); (try (with_reducible rfl)))); (try simp only [Act.put, List.setIfInBounds_toArray, List.set_cons_zero, List.set_cons_succ])) | (refine RP.t_skip rfl rfl ?_; (try simp only [Act.put, List.setIfInBounds_toArray, List.set_cons_zero, List.set_cons_succ])))
      refine RP.t_run rfl (fun KK hKK => ?_)
      go_simp
      have hc := same_any HT.out.shows HL.out (by rw [HLNE3.out]; decide)
      rw [HSE3.out, decide_eq_true (show ([(kB, [])] : List (A8 × List UInt8)) = said [⟨kB, .slice none 0 0, []⟩] from rfl)] at hc
      refine hc.mono ?_
      rintro ex U96 ⟨rfl, hb⟩
      replace H := Lib.hid (H.out.later hb)
      clear hc hb HT HL
      refine hKK.out _ _ ⟨H.out.a, H.out.b⟩ ?_
      clear hKK KK
      (try simp only [Act.put, List.setIfInBounds_toArray, List.set_cons_zero, List.set_cons_succ])
      repeat (first | (refine RP.t_take (v := ?_) rfl rfl (fun w' hw' => ?_) ?_; rotate_left; (focus ((obtain ⟨hAf, hBf⟩ := hw'; obtain ⟨a0, a1, a2, a3, a4, a5, a6, a7⟩ := lies_addr hAf; obtain ⟨b0, b1, b2, b3, b4, b5, b6, b7⟩ := lies_addr hBf; simp only [kA, kB] at a0 a1 a2 a3 a4 a5 a6 a7 b0 b1 b2 b3 b4 b5 b6 b7); go_simp; (try go_bits); (try (with_reducible rfl)))); (try simp only [Act.put, List.setIfInBounds_toArray, List.set_cons_zero, List.set_cons_succ])) | (refine RP.t_skip rfl rfl ?_; (try simp only [Act.put, List.setIfInBounds_toArray, List.set_cons_zero, List.set_cons_succ])))
      refine RP.t_run rfl (fun KK hKK => ?_)
      go_simp
      have hc := events_any H.out.k (by rw [← said_len, HSE2.out]; decide) (said_short HSE2.out (by decide)) 3
      refine hc.mono ?_
      rintro ex U97 ⟨vt, E4, rfl, hs, ht, hb⟩
      have HSE4 := Lib.hid (show said E4 = [] from by rw [hs, if_neg (by decide), said_drop, HSE2.out]; rfl)
      have HLNE4 := Lib.hid (show E4.length = 0 from by rw [← said_len, HSE4.out]; rfl)
      obtain ⟨st, ct, rfl, _⟩ := ht.row.form
      replace H := Lib.hid (H.out.later hb)
      clear hc hs ht hb
      rw [HLNE4.out]
      refine hKK.out _ _ ⟨H.out.a, H.out.b⟩ ?_
      clear hKK KK
      (try simp only [Act.put, List.setIfInBounds_toArray, List.set_cons_zero, List.set_cons_succ])
      repeat (first | (refine RP.t_take (v := ?_) rfl rfl (fun w' hw' => ?_) ?_; rotate_left; (focus ((obtain ⟨hAf, hBf⟩ := hw'; obtain ⟨a0, a1, a2, a3, a4, a5, a6, a7⟩ := lies_addr hAf; obtain ⟨b0, b1, b2, b3, b4, b5, b6, b7⟩ := lies_addr hBf; simp only [kA, kB] at a0 a1 a2 a3 a4 a5 a6 a7 b0 b1 b2 b3 b4 b5 b6 b7); go_simp; (try go_bits); (try (with_reducible rfl)))); (try simp only [Act.put, List.setIfInBounds_toArray, List.set_cons_zero, List.set_cons_succ])) | (refine RP.t_skip rfl rfl ?_; (try simp only [Act.put, List.setIfInBounds_toArray, List.set_cons_zero, List.set_cons_succ])))
      refine RP.t_done ?_
      go_wp2_with fail
      refine RP.region (RP.take 0 (RP.run 1 (RP.take 2 (RP.take 3 (RP.take 4 (RP.run 5 (RP.take 6 (RP.take 7 (RP.take 8 (RP.take 9 (RP.take 11 (RP.fork 10 12 (RP.run 12 (RP.run 13 (RP.take 14 (RP.run 15 (RP.run 16 (RP.take 17 (RP.take 18 (RP.take 19 (RP.take 20 (RP.take 21 (RP.run 22 (RP.run 23 (RP.run 24 (RP.take 25 (RP.take 26 RP.done))))))))))))))) (RP.fork 10 13 (RP.run 13 (RP.take 14 (RP.run 15 (RP.run 16 (RP.take 17 (RP.take 18 (RP.take 19 (RP.take 20 (RP.take 21 (RP.run 22 (RP.run 23 (RP.run 24 (RP.take 25 (RP.take 26 RP.done)))))))))))))) (RP.take 14 (RP.fork 10 15 (RP.run 15 (RP.run 16 (RP.take 17 (RP.take 18 (RP.take 19 (RP.take 20 (RP.take 21 (RP.run 22 (RP.run 23 (RP.run 24 (RP.take 25 (RP.take 26 RP.done)))))))))))) (RP.run 10 (RP.run 16 (RP.take 17 (RP.take 18 (RP.take 19 (RP.take 20 (RP.take 21 (RP.run 22 (RP.run 23 (RP.run 24 (RP.take 25 (RP.take 26 RP.done))))))))))))))))))))))))))) (fun w' => Lies w' W.heap.size 24 kA.cs.toArray ∧ Lies w' (W.heap.size + 1) 24 kB.cs.toArray) (by as_aux_lemma => kernel_rfl) (by as_aux_lemma => kernel_rfl) (fun _ _ d _ _ h => by cases d <;> exact h) ⟨H.out.a.drew, H.out.b.drew⟩ (fun hS => ?_)
      clear hS
      replace H := Lib.hid H.out.drew
      generalize U97.drew = U98 at H ⊢
      repeat (first | (refine RP.t_take (v := ?_) rfl rfl (fun w' hw' => ?_) ?_; rotate_left; (focus ((obtain ⟨hAf, hBf⟩ := hw'; obtain ⟨a0, a1, a2, a3, a4, a5, a6, a7⟩ := lies_addr hAf; obtain ⟨b0, b1, b2, b3, b4, b5, b6, b7⟩ := lies_addr hBf; simp only [kA, kB] at a0 a1 a2 a3 a4 a5 a6 a7 b0 b1 b2 b3 b4 b5 b6 b7); go_simp; (try go_bits); (try (with_reducible rfl)))); (try simp only [Act.put, List.setIfInBounds_toArray, List.set_cons_zero, List.set_cons_succ])) | (refine RP.t_skip rfl rfl ?_; (try simp only [Act.put, List.setIfInBounds_toArray, List.set_cons_zero, List.set_cons_succ])))
      refine RP.t_run rfl (fun KK hKK => ?_)
      go_simp
      have hc := cut_bad H.out.k 3 (Or.inr (by rw [← said_len, HSE2.out]; decide))
      refine hc.mono ?_
      rintro ex U99 ⟨rfl, rfl⟩
      clear hc
      refine hKK.out _ _ ⟨H.out.a, H.out.b⟩ ?_
      clear hKK KK
      (try simp only [Act.put, List.setIfInBounds_toArray, List.set_cons_zero, List.set_cons_succ])
      repeat (first | (refine RP.t_take (v := ?_) rfl rfl (fun w' hw' => ?_) ?_; rotate_left; (focus ((obtain ⟨hAf, hBf⟩ := hw'; obtain ⟨a0, a1, a2, a3, a4, a5, a6, a7⟩ := lies_addr hAf; obtain ⟨b0, b1, b2, b3, b4, b5, b6, b7⟩ := lies_addr hBf; simp only [kA, kB] at a0 a1 a2 a3 a4 a5 a6 a7 b0 b1 b2 b3 b4 b5 b6 b7); go_simp; (try go_bits); (try (with_reducible rfl)))); (try simp only [Act.put, List.setIfInBounds_toArray, List.set_cons_zero, List.set_cons_succ])) | (refine RP.t_skip rfl rfl ?_; (try simp only [Act.put, List.setIfInBounds_toArray, List.set_cons_zero, List.set_cons_succ])))
      refine RP.t_run rfl (fun KK hKK => ?_)
      go_simp
      have hc := cut_own H.out.k 1 (by rw [← said_len, HSE2.out]; decide)
      refine hc.mono ?_
      rintro ex U100 ⟨vn5, rfl, hk, hf⟩
      replace H := Lib.hid (H.out.owned hk hf)
      have HS5 := Lib.hid (show said (E2.take 1) = E1s from by rw [said_takes, HSE2.out]; rfl)
      clear hc hk hf
      generalize E2.take 1 = E5 at H HS5
      refine hKK.out _ _ ⟨H.out.a, H.out.b⟩ ?_
      clear hKK KK
      (try simp only [Act.put, List.setIfInBounds_toArray, List.set_cons_zero, List.set_cons_succ])
      repeat (first | (refine RP.t_take (v := ?_) rfl rfl (fun w' hw' => ?_) ?_; rotate_left; (focus ((obtain ⟨hAf, hBf⟩ := hw'; obtain ⟨a0, a1, a2, a3, a4, a5, a6, a7⟩ := lies_addr hAf; obtain ⟨b0, b1, b2, b3, b4, b5, b6, b7⟩ := lies_addr hBf; simp only [kA, kB] at a0 a1 a2 a3 a4 a5 a6 a7 b0 b1 b2 b3 b4 b5 b6 b7); go_simp; (try go_bits); (try (with_reducible rfl)))); (try simp only [Act.put, List.setIfInBounds_toArray, List.set_cons_zero, List.set_cons_succ])) | (refine RP.t_skip rfl rfl ?_; (try simp only [Act.put, List.setIfInBounds_toArray, List.set_cons_zero, List.set_cons_succ])))
      refine RP.t_fork rfl rfl (fun KK hKK => ?_) (fun KK hKK => ?_)
      · as_aux_lemma =>
          go_simp
          have hc := events_any H.out.k (by rw [← said_len, HS5.out]; decide) (said_short HS5.out (by decide)) 0
          refine hc.mono ?_
          rintro ex U101 ⟨vt, E6, rfl, hs, ht, hb⟩
          have HSE6 := Lib.hid (show said E6 = [(kA, [120])] from by rw [hs, if_neg (by decide), said_drop, HS5.out]; rfl)
          have HLNE6 := Lib.hid (show E6.length = 1 from by rw [← said_len, HSE6.out]; rfl)
          obtain ⟨st, ct, rfl, _⟩ := ht.row.form
          have HT := Lib.hid (ht.mono (own' := fun _ => True) (fun k _ hk => trivial))
          replace H := Lib.hid (H.out.later hb)
          clear hc hs ht hb
          refine hKK.out _ _ ⟨H.out.a, H.out.b⟩ ?_
          clear hKK KK
          (try simp only [Act.put, List.setIfInBounds_toArray, List.set_cons_zero, List.set_cons_succ])
          repeat (first | (refine RP.t_take (v := ?_) rfl rfl (fun w' hw' => ?_) ?_; rotate_left; (focus ((obtain ⟨hAf, hBf⟩ := hw'; obtain ⟨a0, a1, a2, a3, a4, a5, a6, a7⟩ := lies_addr hAf; obtain ⟨b0, b1, b2, b3, b4, b5, b6, b7⟩ := lies_addr hBf; simp only [kA, kB] at a0 a1 a2 a3 a4 a5 a6 a7 b0 b1 b2 b3 b4 b5 b6 b7); go_simp; (try go_bits); (try (with_reducible rfl)))); (try simp only [Act.put, List.setIfInBounds_toArray, List.set_cons_zero, List.set_cons_succ])) | (refine RP.t_skip rfl rfl ?_; (try simp only [Act.put, List.setIfInBounds_toArray, List.set_cons_zero, List.set_cons_succ])))
          refine RP.t_run rfl (fun KK hKK => ?_)
          go_simp
          have hb : Below U101.heap.size U101 (U101.alloc (.cells #[.int .u8 120] 5)) := (Below.refl _ _).alloc (Nat.le_refl _) _
          have hl1 : Lies (U101.alloc (.cells #[.int .u8 120] 5)) U101.heap.size 5 #[.int .u8 120] := Lies.new _ _ _
          have hgb : W.heap.size + 2 ≤ U101.heap.size := H.out.lo _ (H.out.ho _ (Nat.le_refl _))
          have hglt : U101.heap.size < (U101.alloc (.cells #[.int .u8 120] 5)).heap.size := by simp only [World.size_alloc]; omega
          replace H := Lib.hid (H.out.lit (.cells #[.int .u8 120] 5))
          replace HT := Lib.hid ((HT.out.mono (own' := fun i => i ≠ U101.heap.size) (fun k hk _ => by omega)).later hb)
          refine hKK.out _ _ ⟨H.out.a, H.out.b⟩ ?_
          clear hKK KK hb
          generalize U101.alloc (.cells #[.int .u8 120] 5) = U103 at H HT hl1 hglt ⊢
          generalize U101.heap.size = g102 at H HT hl1 hgb hglt ⊢
          have HG := Lib.hid (show Lies U103 g102 5 #[.int .u8 (((120 : UInt8)).toNat : Int)] from hl1)
          clear hl1
          (try simp only [Act.put, List.setIfInBounds_toArray, List.set_cons_zero, List.set_cons_succ])
          refine t_run1 rfl rfl (fun KK hKK => ?_)
          refine wp_mark HG.out _ 1 1 rfl rfl (fun U104 hf hx => ?_)
          replace H := Lib.hid (H.out.marked hf hgb)
          replace HT := Lib.hid (HT.out.kept hf (fun k hk e => hk e))
          have HX := Lib.hid (show Byt U104 (.slice (some ⟨g102, 0, none⟩) 1 1) [120] from hx)
          refine hKK.out _ _ ⟨H.out.a, H.out.b⟩ ?_
          clear hKK KK hf hx HG hgb hglt
          (try simp only [Act.put, List.setIfInBounds_toArray, List.set_cons_zero, List.set_cons_succ])
          refine RP.t_take (v := .agg (Ev.cs ⟨kA, .slice (some ⟨g102, 0, none⟩) 1 1, [120]⟩).toArray) rfl rfl (fun w' _ => exec_build kA (some ⟨g102, 0, none⟩) 1 1 [120] _ _ rfl rfl rfl w') ?_
          (try simp only [Act.put, List.setIfInBounds_toArray, List.set_cons_zero, List.set_cons_succ])
          refine t_run1 rfl rfl (fun KK hKK => ?_)
          refine wp_bslice kA (some ⟨g102, 0, none⟩) 1 1 [120] _ rfl rfl ?_
          have hl9 : Shows (U104.alloc (.cells (Ev.cs ⟨kA, .slice (some ⟨g102, 0, none⟩) 1 1, [120]⟩).toArray 66)) (.slice (some ⟨U104.heap.size, 0, none⟩) 1 1) [⟨kA, .slice (some ⟨g102, 0, none⟩) 1 1, [120]⟩] := shows_one U104 _ HX.out
          have hb : Below U104.heap.size U104 (U104.alloc (.cells (Ev.cs ⟨kA, .slice (some ⟨g102, 0, none⟩) 1 1, [120]⟩).toArray 66)) := (Below.refl _ _).alloc (Nat.le_refl _) _
          have HL := Lib.hid hl9
          clear hl9
          replace H := Lib.hid (H.out.later hb)
          replace HT := Lib.hid (HT.out.later hb)
          replace HX := Lib.hid (HX.out.later hb)
          refine hKK.out _ _ ⟨H.out.a, H.out.b⟩ ?_
          clear hKK KK hb
          generalize U104.alloc (.cells (Ev.cs ⟨kA, .slice (some ⟨g102, 0, none⟩) 1 1, [120]⟩).toArray 66) = U105 at H HL HT HX ⊢
          generalize U104.heap.size = d105 at HL ⊢
          (try simp only [Act.put, List.setIfInBounds_toArray, List.set_cons_zero, List.set_cons_succ])
          refine RP.t_run rfl (fun KK hKK => ?_)
          go_simp
          have hc := same_any HT.out.shows HL.out (by rw [HLNE6.out]; decide)
          rw [HSE6.out, decide_eq_true (show ([(kA, [120])] : List (A8 × List UInt8)) = said [⟨kA, .slice (some ⟨g102, 0, none⟩) 1 1, [120]⟩] from rfl)] at hc
          refine hc.mono ?_
          rintro ex U106 ⟨rfl, hb⟩
          replace H := Lib.hid (H.out.later hb)
          clear hc hb HT HL HX
          refine hKK.out _ _ ⟨H.out.a, H.out.b⟩ ?_
          clear hKK KK
          (try simp only [Act.put, List.setIfInBounds_toArray, List.set_cons_zero, List.set_cons_succ])
          repeat (first | (refine RP.t_take (v := ?_) rfl rfl (fun w' hw' => ?_) ?_; rotate_left; (focus ((obtain ⟨hAf, hBf⟩ := hw'; obtain ⟨a0, a1, a2, a3, a4, a5, a6, a7⟩ := lies_addr hAf; obtain ⟨b0, b1, b2, b3, b4, b5, b6, b7⟩ := lies_addr hBf; simp only [kA, kB] at a0 a1 a2 a3 a4 a5 a6 a7 b0 b1 b2 b3 b4 b5 b6 b7); go_simp; (try go_bits); (try (with_reducible rfl)))); (try simp only [Act.put, List.setIfInBounds_toArray, List.set_cons_zero, List.set_cons_succ])) | (refine RP.t_skip rfl rfl ?_; (try simp only [Act.put, List.setIfInBounds_toArray, List.set_cons_zero, List.set_cons_succ])))
          refine RP.t_run rfl (fun KK hKK => ?_)
          go_simp
          have hb : Below U106.heap.size U106 (U106.alloc (.cells #[.int .u8 99] 5)) := (Below.refl _ _).alloc (Nat.le_refl _) _
          have hl1 : Lies (U106.alloc (.cells #[.int .u8 99] 5)) U106.heap.size 5 #[.int .u8 99] := Lies.new _ _ _
          have hgb : W.heap.size + 2 ≤ U106.heap.size := H.out.lo _ (H.out.ho _ (Nat.le_refl _))
          have hglt : U106.heap.size < (U106.alloc (.cells #[.int .u8 99] 5)).heap.size := by simp only [World.size_alloc]; omega
          replace H := Lib.hid (H.out.lit (.cells #[.int .u8 99] 5))
          refine hKK.out _ _ ⟨H.out.a, H.out.b⟩ ?_
          clear hKK KK hb
          generalize U106.alloc (.cells #[.int .u8 99] 5) = U108 at H hl1 hglt ⊢
          generalize U106.heap.size = g107 at H hl1 hgb hglt ⊢
          have HG := Lib.hid (show Lies U108 g107 5 #[.int .u8 (((99 : UInt8)).toNat : Int)] from hl1)
          clear hl1
          (try simp only [Act.put, List.setIfInBounds_toArray, List.set_cons_zero, List.set_cons_succ])
          refine t_run1 rfl rfl (fun KK hKK => ?_)
          refine wp_mark HG.out _ 1 1 rfl rfl (fun U109 hf hx => ?_)
          replace H := Lib.hid (H.out.marked hf hgb)
          have HX := Lib.hid (show Byt U109 (.slice (some ⟨g107, 0, none⟩) 1 1) [99] from hx)
          refine hKK.out _ _ ⟨H.out.a, H.out.b⟩ ?_
          clear hKK KK hf hx HG hgb hglt
          (try simp only [Act.put, List.setIfInBounds_toArray, List.set_cons_zero, List.set_cons_succ])
          refine RP.t_run rfl (fun KK hKK => ?_)
          go_simp
          have hc := setcode_own H.out.k H.out.ho kA HX.out (by decide)
          refine hc.mono ?_
          rintro ex U110 ⟨C1, rfl, hk, hs, hf⟩
          replace H := Lib.hid (H.out.owned hk hf)
          have HC1 := Lib.hid (show Al.turn (·.2) C1 = [(kA, [99])] from by rw [hs]; rfl)
          clear hc hk hs hf HX
          refine hKK.out _ _ ⟨H.out.a, H.out.b⟩ ?_
          clear hKK KK
          (try simp only [Act.put, List.setIfInBounds_toArray, List.set_cons_zero, List.set_cons_succ])
          repeat (first | (refine RP.t_take (v := ?_) rfl rfl (fun w' hw' => ?_) ?_; rotate_left; (focus ((obtain ⟨hAf, hBf⟩ := hw'; obtain ⟨a0, a1, a2, a3, a4, a5, a6, a7⟩ := lies_addr hAf; obtain ⟨b0, b1, b2, b3, b4, b5, b6, b7⟩ := lies_addr hBf; simp only [kA, kB] at a0 a1 a2 a3 a4 a5 a6 a7 b0 b1 b2 b3 b4 b5 b6 b7); go_simp; (try go_bits); (try (with_reducible rfl)))); (try simp only [Act.put, List.setIfInBounds_toArray, List.set_cons_zero, List.set_cons_succ])) | (refine RP.t_skip rfl rfl ?_; (try simp only [Act.put, List.setIfInBounds_toArray, List.set_cons_zero, List.set_cons_succ])))
          refine RP.t_done ?_
          have hfm : (Al.find C1 kA).map (·.2) = some [99] := by rw [← Al.turn_find, HC1.out]; rfl
          have hfs : (Al.find C1 kA).isSome = true := some_of_map hfm
          have hfl : ∀ c ∈ C1, c.2.2.length ≤ 1000000000 := fun c hc => by
            have h1 : (c.1, c.2.2) ∈ Al.turn (·.2) C1 := List.mem_map.2 ⟨c, hc, rfl⟩
            rw [HC1.out, List.mem_singleton] at h1
            rw [show c.2.2 = [99] from congrArg Prod.snd h1]; decide
          have hc := code_any H.out.k kA hfl
          rw [hfs, hfm] at hc
          simp only [Option.getD_some] at hc
          replace hc := Lib.hid hc
          have HF2 := Lib.hid (show Al.find (Al.del kA C1) kA = none from by rw [Al.find_del H.out.k.rise, if_pos rfl])
          have HFL := Lib.hid hfl
          clear hfm hfs hfl
          obtain ⟨a0, a1, a2, a3, a4, a5, a6, a7⟩ := lies_addr H.out.a
          simp only [kA] at a0 a1 a2 a3 a4 a5 a6 a7
          go_wp2_with fail
          refine hc.out.mono ?_
          rintro ex U111 ⟨v7, rfl, ht, hb⟩
          obtain ⟨s7, c7, rfl⟩ := ht.form
          have HV := Lib.hid (ht.mono (own' := fun i => W.heap.size + 2 ≤ i) (fun k _ hk => H.out.ho k hk))
          replace H := Lib.hid (H.out.later hb)
          clear hc ht hb
          clear a0 a1 a2 a3 a4 a5 a6 a7
          obtain ⟨a0, a1, a2, a3, a4, a5, a6, a7⟩ := lies_addr H.out.a
          simp only [kA] at a0 a1 a2 a3 a4 a5 a6 a7
          go_wp2_with fail
          refine (setcode_del H.out.k kA none 0).mono ?_
          rintro ex U112 ⟨rfl, hk, hf⟩
          replace HV := Lib.hid (H.out.k.bts_map HV.out hf)
          replace H := Lib.hid (H.out.owned hk (hf.mono (fun k _ e => e ▸ H.out.k.obm)))
          clear hk hf
          clear a0 a1 a2 a3 a4 a5 a6 a7
          have hc := code_any H.out.k kA (fun c hc => HFL.out c (Al.mem_del.1 hc).1)
          rw [HF2.out] at hc
          simp only [Option.isSome_none, Option.map_none, Option.getD_none] at hc
          replace hc := Lib.hid hc
          obtain ⟨a0, a1, a2, a3, a4, a5, a6, a7⟩ := lies_addr H.out.a
          simp only [kA] at a0 a1 a2 a3 a4 a5 a6 a7
          go_wp2_with fail
          refine hc.out.mono ?_
          rintro ex U113 ⟨v9, rfl, ht, hb⟩
          obtain ⟨s9, c9, rfl⟩ := ht.form
          have HY := Lib.hid (HV.out.byt.later hb)
          replace H := Lib.hid (H.out.later hb)
          clear hc ht hb HV HF2 HFL HC1
          clear a0 a1 a2 a3 a4 a5 a6 a7
          obtain ⟨a0, a1, a2, a3, a4, a5, a6, a7⟩ := lies_addr H.out.a
          simp only [kA] at a0 a1 a2 a3 a4 a5 a6 a7
          go_wp2_with fail
          refine (code_nil _ kA).mono ?_
          rintro ex U114 ⟨rfl, hb⟩
          replace HY := Lib.hid (HY.out.later hb)
          replace H := Lib.hid (H.out.later hb)
          clear hb
          clear a0 a1 a2 a3 a4 a5 a6 a7
          have kx := HY.out.conv
          simp only [List.length_cons, List.length_nil, Nat.zero_add] at kx
          have hq : (bst [99]).toList = [99] := by rw [ByteArray.toList_eq]; rfl
          obtain ⟨a0, a1, a2, a3, a4, a5, a6, a7⟩ := lies_addr H.out.a
          simp only [kA] at a0 a1 a2 a3 a4 a5 a6 a7
          go_wp2_with fail
          refine (emit_nil _ kA _).mono ?_
          rintro ex U115 ⟨rfl, hb⟩
          clear kx
          replace HY := Lib.hid (HY.out.later hb)
          replace H := Lib.hid (H.out.later hb)
          clear hb
          clear a0 a1 a2 a3 a4 a5 a6 a7
          go_wp2_with fail
          refine (cut_nil _ _).mono ?_
          rintro ex U116 ⟨rfl, rfl⟩
          obtain ⟨a0, a1, a2, a3, a4, a5, a6, a7⟩ := lies_addr H.out.a
          simp only [kA] at a0 a1 a2 a3 a4 a5 a6 a7
          go_wp2_with fail
          refine (setcode_nil _ kA _).mono ?_
          rintro ex U117 ⟨rfl, hb⟩
          replace HY := Lib.hid (HY.out.later hb)
          replace H := Lib.hid (H.out.later hb)
          clear hb
          clear a0 a1 a2 a3 a4 a5 a6 a7
          go_wp2_with fail
          refine (len_nil _).mono ?_
          rintro ex U118 ⟨rfl, rfl⟩
          go_wp2_with fail
          refine (events_nil _).mono ?_
          rintro ex U119 ⟨rfl, rfl⟩
          go_wp2_with fail
          refine (coded_nil _).mono ?_
          rintro ex U120 ⟨rfl, rfl⟩
          go_wp2_with fail
          refine (copy_nil _).mono ?_
          rintro ex U121 ⟨rfl, rfl⟩
          go_wp2_with fail
          go_ret
          exact ⟨rfl, H.out.below⟩
      · as_aux_lemma =>
          refine if_go rfl ?_
          go_simp
          have hb : Below U100.heap.size U100 (U100.alloc (.cells #[.int .u8 120] 5)) := (Below.refl _ _).alloc (Nat.le_refl _) _
          have hl1 : Lies (U100.alloc (.cells #[.int .u8 120] 5)) U100.heap.size 5 #[.int .u8 120] := Lies.new _ _ _
          have hgb : W.heap.size + 2 ≤ U100.heap.size := H.out.lo _ (H.out.ho _ (Nat.le_refl _))
          have hglt : U100.heap.size < (U100.alloc (.cells #[.int .u8 120] 5)).heap.size := by simp only [World.size_alloc]; omega
          replace H := Lib.hid (H.out.lit (.cells #[.int .u8 120] 5))
          refine hKK.out _ _ ⟨H.out.a, H.out.b⟩ ?_
          clear hKK KK hb
          generalize U100.alloc (.cells #[.int .u8 120] 5) = U123 at H hl1 hglt ⊢
          generalize U100.heap.size = g122 at H hl1 hgb hglt ⊢
          have HG := Lib.hid (show Lies U123 g122 5 #[.int .u8 (((120 : UInt8)).toNat : Int)] from hl1)
          clear hl1
          (try simp only [Act.put, List.setIfInBounds_toArray, List.set_cons_zero, List.set_cons_succ])
          refine RP.t_fork rfl rfl (fun KK hKK => ?_) (fun KK hKK => ?_)
          · as_aux_lemma =>
              go_simp
              have hc := events_any H.out.k (by rw [← said_len, HS5.out]; decide) (said_short HS5.out (by decide)) 0
              refine hc.mono ?_
              rintro ex U124 ⟨vt, E6, rfl, hs, ht, hb⟩
              have HSE6 := Lib.hid (show said E6 = [(kA, [120])] from by rw [hs, if_neg (by decide), said_drop, HS5.out]; rfl)
              have HLNE6 := Lib.hid (show E6.length = 1 from by rw [← said_len, HSE6.out]; rfl)
              obtain ⟨st, ct, rfl, _⟩ := ht.row.form
              have HT := Lib.hid (ht.mono (own' := fun i => i ≠ g122) (fun k _ hk => by have := hglt; omega))
              replace H := Lib.hid (H.out.later hb)
              replace HG := Lib.hid (HG.out.below hb HG.out.lt)
              replace hglt := Nat.lt_of_lt_of_le hglt hb.size
              clear hc hs ht hb
              refine hKK.out _ _ ⟨H.out.a, H.out.b⟩ ?_
              clear hKK KK
              (try simp only [Act.put, List.setIfInBounds_toArray, List.set_cons_zero, List.set_cons_succ])
              repeat (first | (refine RP.t_take (v := ?_) rfl rfl (fun w' hw' => ?_) ?_; rotate_left; (focus ((obtain ⟨hAf, hBf⟩ := hw'; obtain ⟨a0, a1, a2, a3, a4, a5, a6, a7⟩ := lies_addr hAf; obtain ⟨b0, b1, b2, b3, b4, b5, b6, b7⟩ := lies_addr hBf; simp only [kA, kB] at a0 a1 a2 a3 a4 a5 a6 a7 b0 b1 b2 b3 b4 b5 b6 b7); go_simp; (try go_bits); (try (with_reducible rfl)))); (try simp only [Act.put, List.setIfInBounds_toArray, List.set_cons_zero, List.set_cons_succ])) | (refine RP.t_skip rfl rfl ?_; (try simp only [Act.put, List.setIfInBounds_toArray, List.set_cons_zero, List.set_cons_succ])))
              refine t_run1 rfl rfl (fun KK hKK => ?_)
              refine wp_mark HG.out _ 1 1 rfl rfl (fun U125 hf hx => ?_)
              replace H := Lib.hid (H.out.marked hf hgb)
              replace HT := Lib.hid (HT.out.kept hf (fun k hk e => hk e))
              have HX := Lib.hid (show Byt U125 (.slice (some ⟨g122, 0, none⟩) 1 1) [120] from hx)
              refine hKK.out _ _ ⟨H.out.a, H.out.b⟩ ?_
              clear hKK KK hf hx HG hgb hglt
              (try simp only [Act.put, List.setIfInBounds_toArray, List.set_cons_zero, List.set_cons_succ])
              refine RP.t_take (v := .agg (Ev.cs ⟨kA, .slice (some ⟨g122, 0, none⟩) 1 1, [120]⟩).toArray) rfl rfl (fun w' _ => exec_build kA (some ⟨g122, 0, none⟩) 1 1 [120] _ _ rfl rfl rfl w') ?_
              (try simp only [Act.put, List.setIfInBounds_toArray, List.set_cons_zero, List.set_cons_succ])
              refine t_run1 rfl rfl (fun KK hKK => ?_)
              refine wp_bslice kA (some ⟨g122, 0, none⟩) 1 1 [120] _ rfl rfl ?_
              have hl9 : Shows (U125.alloc (.cells (Ev.cs ⟨kA, .slice (some ⟨g122, 0, none⟩) 1 1, [120]⟩).toArray 66)) (.slice (some ⟨U125.heap.size, 0, none⟩) 1 1) [⟨kA, .slice (some ⟨g122, 0, none⟩) 1 1, [120]⟩] := shows_one U125 _ HX.out
              have hb : Below U125.heap.size U125 (U125.alloc (.cells (Ev.cs ⟨kA, .slice (some ⟨g122, 0, none⟩) 1 1, [120]⟩).toArray 66)) := (Below.refl _ _).alloc (Nat.le_refl _) _
              have HL := Lib.hid hl9
              clear hl9
              replace H := Lib.hid (H.out.later hb)
              replace HT := Lib.hid (HT.out.later hb)
              replace HX := Lib.hid (HX.out.later hb)
              refine hKK.out _ _ ⟨H.out.a, H.out.b⟩ ?_
              clear hKK KK hb
              generalize U125.alloc (.cells (Ev.cs ⟨kA, .slice (some ⟨g122, 0, none⟩) 1 1, [120]⟩).toArray 66) = U126 at H HL HT HX ⊢
              generalize U125.heap.size = d126 at HL ⊢
              (try simp only [Act.put, List.setIfInBounds_toArray, List.set_cons_zero, List.set_cons_succ])
              refine RP.t_run rfl (fun KK hKK => ?_)
              go_simp
              have hc := same_any HT.out.shows HL.out (by rw [HLNE6.out]; decide)
              rw [HSE6.out, decide_eq_true (show ([(kA, [120])] : List (A8 × List UInt8)) = said [⟨kA, .slice (some ⟨g122, 0, none⟩) 1 1, [120]⟩] from rfl)] at hc
              refine hc.mono ?_
              rintro ex U127 ⟨rfl, hb⟩
              replace H := Lib.hid (H.out.later hb)
              clear hc hb HT HL HX
              refine hKK.out _ _ ⟨H.out.a, H.out.b⟩ ?_
              clear hKK KK
              (try simp only [Act.put, List.setIfInBounds_toArray, List.set_cons_zero, List.set_cons_succ])
              repeat (first | (refine RP.t_take (v := ?_) rfl rfl (fun w' hw' => ?_) ?_; rotate_left; (focus ((obtain ⟨hAf, hBf⟩ := hw'; obtain ⟨a0, a1, a2, a3, a4, a5, a6, a7⟩ := lies_addr hAf; obtain ⟨b0, b1, b2, b3, b4, b5, b6, b7⟩ := lies_addr hBf; simp only [kA, kB] at a0 a1 a2 a3 a4 a5 a6 a7 b0 b1 b2 b3 b4 b5 b6 b7); go_simp; (try go_bits); (try (with_reducible rfl)))); (try simp only [Act.put, List.setIfInBounds_toArray, List.set_cons_zero, List.set_cons_succ])) | (refine RP.t_skip rfl rfl ?_; (try simp only [Act.put, List.setIfInBounds_toArray, List.set_cons_zero, List.set_cons_succ])))
              refine RP.t_run rfl (fun KK hKK => ?_)
              go_simp
              have hb : Below U127.heap.size U127 (U127.alloc (.cells #[.int .u8 99] 5)) := (Below.refl _ _).alloc (Nat.le_refl _) _
              have hl1 : Lies (U127.alloc (.cells #[.int .u8 99] 5)) U127.heap.size 5 #[.int .u8 99] := Lies.new _ _ _
              have hgb : W.heap.size + 2 ≤ U127.heap.size := H.out.lo _ (H.out.ho _ (Nat.le_refl _))
              have hglt : U127.heap.size < (U127.alloc (.cells #[.int .u8 99] 5)).heap.size := by simp only [World.size_alloc]; omega
              replace H := Lib.hid (H.out.lit (.cells #[.int .u8 99] 5))
              refine hKK.out _ _ ⟨H.out.a, H.out.b⟩ ?_
              clear hKK KK hb
              generalize U127.alloc (.cells #[.int .u8 99] 5) = U129 at H hl1 hglt ⊢
              generalize U127.heap.size = g128 at H hl1 hgb hglt ⊢
              have HG := Lib.hid (show Lies U129 g128 5 #[.int .u8 (((99 : UInt8)).toNat : Int)] from hl1)
              clear hl1
              (try simp only [Act.put, List.setIfInBounds_toArray, List.set_cons_zero, List.set_cons_succ])
              refine t_run1 rfl rfl (fun KK hKK => ?_)
              refine wp_mark HG.out _ 1 1 rfl rfl (fun U130 hf hx => ?_)
              replace H := Lib.hid (H.out.marked hf hgb)
              have HX := Lib.hid (show Byt U130 (.slice (some ⟨g128, 0, none⟩) 1 1) [99] from hx)
              refine hKK.out _ _ ⟨H.out.a, H.out.b⟩ ?_
              clear hKK KK hf hx HG hgb hglt
              (try simp only [Act.put, List.setIfInBounds_toArray, List.set_cons_zero, List.set_cons_succ])
              refine RP.t_run rfl (fun KK hKK => ?_)
              go_simp
              have hc := setcode_own H.out.k H.out.ho kA HX.out (by decide)
              refine hc.mono ?_
              rintro ex U131 ⟨C1, rfl, hk, hs, hf⟩
              replace H := Lib.hid (H.out.owned hk hf)
              have HC1 := Lib.hid (show Al.turn (·.2) C1 = [(kA, [99])] from by rw [hs]; rfl)
              clear hc hk hs hf HX
              refine hKK.out _ _ ⟨H.out.a, H.out.b⟩ ?_
              clear hKK KK
              (try simp only [Act.put, List.setIfInBounds_toArray, List.set_cons_zero, List.set_cons_succ])
              repeat (first | (refine RP.t_take (v := ?_) rfl rfl (fun w' hw' => ?_) ?_; rotate_left; (focus ((obtain ⟨hAf, hBf⟩ := hw'; obtain ⟨a0, a1, a2, a3, a4, a5, a6, a7⟩ := lies_addr hAf; obtain ⟨b0, b1, b2, b3, b4, b5, b6, b7⟩ := lies_addr hBf; simp only [kA, kB] at a0 a1 a2 a3 a4 a5 a6 a7 b0 b1 b2 b3 b4 b5 b6 b7); go_simp; (try go_bits); (try (with_reducible rfl)))); (try simp only [Act.put, List.setIfInBounds_toArray, List.set_cons_zero, List.set_cons_succ])) | (refine RP.t_skip rfl rfl ?_; (try simp only [Act.put, List.setIfInBounds_toArray, List.set_cons_zero, List.set_cons_succ])))
              refine RP.t_done ?_
              have hfm : (Al.find C1 kA).map (·.2) = some [99] := by rw [← Al.turn_find, HC1.out]; rfl
              have hfs : (Al.find C1 kA).isSome = true := some_of_map hfm
              have hfl : ∀ c ∈ C1, c.2.2.length ≤ 1000000000 := fun c hc => by
                have h1 : (c.1, c.2.2) ∈ Al.turn (·.2) C1 := List.mem_map.2 ⟨c, hc, rfl⟩
                rw [HC1.out, List.mem_singleton] at h1
                rw [show c.2.2 = [99] from congrArg Prod.snd h1]; decide
              have hc := code_any H.out.k kA hfl
              rw [hfs, hfm] at hc
              simp only [Option.getD_some] at hc
              replace hc := Lib.hid hc
              have HF2 := Lib.hid (show Al.find (Al.del kA C1) kA = none from by rw [Al.find_del H.out.k.rise, if_pos rfl])
              have HFL := Lib.hid hfl
              clear hfm hfs hfl
              obtain ⟨a0, a1, a2, a3, a4, a5, a6, a7⟩ := lies_addr H.out.a
              simp only [kA] at a0 a1 a2 a3 a4 a5 a6 a7
              go_wp2_with fail
              refine hc.out.mono ?_
              rintro ex U132 ⟨v7, rfl, ht, hb⟩
              obtain ⟨s7, c7, rfl⟩ := ht.form
              have HV := Lib.hid (ht.mono (own' := fun i => W.heap.size + 2 ≤ i) (fun k _ hk => H.out.ho k hk))
              replace H := Lib.hid (H.out.later hb)
              clear hc ht hb
              clear a0 a1 a2 a3 a4 a5 a6 a7
              obtain ⟨a0, a1, a2, a3, a4, a5, a6, a7⟩ := lies_addr H.out.a
              simp only [kA] at a0 a1 a2 a3 a4 a5 a6 a7
              go_wp2_with fail
              refine (setcode_del H.out.k kA none 0).mono ?_
              rintro ex U133 ⟨rfl, hk, hf⟩
              replace HV := Lib.hid (H.out.k.bts_map HV.out hf)
              replace H := Lib.hid (H.out.owned hk (hf.mono (fun k _ e => e ▸ H.out.k.obm)))
              clear hk hf
              clear a0 a1 a2 a3 a4 a5 a6 a7
              have hc := code_any H.out.k kA (fun c hc => HFL.out c (Al.mem_del.1 hc).1)
              rw [HF2.out] at hc
              simp only [Option.isSome_none, Option.map_none, Option.getD_none] at hc
              replace hc := Lib.hid hc
              obtain ⟨a0, a1, a2, a3, a4, a5, a6, a7⟩ := lies_addr H.out.a
              simp only [kA] at a0 a1 a2 a3 a4 a5 a6 a7
              go_wp2_with fail
              refine hc.out.mono ?_
              rintro ex U134 ⟨v9, rfl, ht, hb⟩
              obtain ⟨s9, c9, rfl⟩ := ht.form
              have HY := Lib.hid (HV.out.byt.later hb)
              replace H := Lib.hid (H.out.later hb)
              clear hc ht hb HV HF2 HFL HC1
              clear a0 a1 a2 a3 a4 a5 a6 a7
              obtain ⟨a0, a1, a2, a3, a4, a5, a6, a7⟩ := lies_addr H.out.a
              simp only [kA] at a0 a1 a2 a3 a4 a5 a6 a7
              go_wp2_with fail
              refine (code_nil _ kA).mono ?_
              rintro ex U135 ⟨rfl, hb⟩
              replace HY := Lib.hid (HY.out.later hb)
              replace H := Lib.hid (H.out.later hb)
              clear hb
              clear a0 a1 a2 a3 a4 a5 a6 a7
              have kx := HY.out.conv
              simp only [List.length_cons, List.length_nil, Nat.zero_add] at kx
              have hq : (bst [99]).toList = [99] := by rw [ByteArray.toList_eq]; rfl
              obtain ⟨a0, a1, a2, a3, a4, a5, a6, a7⟩ := lies_addr H.out.a
              simp only [kA] at a0 a1 a2 a3 a4 a5 a6 a7
              go_wp2_with fail
              refine (emit_nil _ kA _).mono ?_
              rintro ex U136 ⟨rfl, hb⟩
              clear kx
              replace HY := Lib.hid (HY.out.later hb)
              replace H := Lib.hid (H.out.later hb)
              clear hb
              clear a0 a1 a2 a3 a4 a5 a6 a7
              go_wp2_with fail
              refine (cut_nil _ _).mono ?_
              rintro ex U137 ⟨rfl, rfl⟩
              obtain ⟨a0, a1, a2, a3, a4, a5, a6, a7⟩ := lies_addr H.out.a
              simp only [kA] at a0 a1 a2 a3 a4 a5 a6 a7
              go_wp2_with fail
              refine (setcode_nil _ kA _).mono ?_
              rintro ex U138 ⟨rfl, hb⟩
              replace HY := Lib.hid (HY.out.later hb)
              replace H := Lib.hid (H.out.later hb)
              clear hb
              clear a0 a1 a2 a3 a4 a5 a6 a7
              go_wp2_with fail
              refine (len_nil _).mono ?_
              rintro ex U139 ⟨rfl, rfl⟩
              go_wp2_with fail
              refine (events_nil _).mono ?_
              rintro ex U140 ⟨rfl, rfl⟩
              go_wp2_with fail
              refine (coded_nil _).mono ?_
              rintro ex U141 ⟨rfl, rfl⟩
              go_wp2_with fail
              refine (copy_nil _).mono ?_
              rintro ex U142 ⟨rfl, rfl⟩
              go_wp2_with fail
              go_ret
              exact ⟨rfl, H.out.below⟩
          · as_aux_lemma =>
              refine if_go rfl ?_
              refine wp_mark HG.out _ 1 1 rfl rfl (fun U143 hf hx => ?_)
              replace H := Lib.hid (H.out.marked hf hgb)
              have HX := Lib.hid (show Byt U143 (.slice (some ⟨g122, 0, none⟩) 1 1) [120] from hx)
              refine hKK.out _ _ ⟨H.out.a, H.out.b⟩ ?_
              clear hKK KK hf hx HG hgb hglt
              (try simp only [Act.put, List.setIfInBounds_toArray, List.set_cons_zero, List.set_cons_succ])
              refine RP.t_take (v := .agg (Ev.cs ⟨kA, .slice (some ⟨g122, 0, none⟩) 1 1, [120]⟩).toArray) rfl rfl (fun w' _ => exec_build kA (some ⟨g122, 0, none⟩) 1 1 [120] _ _ rfl rfl rfl w') ?_
              (try simp only [Act.put, List.setIfInBounds_toArray, List.set_cons_zero, List.set_cons_succ])
              refine RP.t_fork rfl rfl (fun KK hKK => ?_) (fun KK hKK => ?_)
              · as_aux_lemma =>
                  go_simp
                  have hc := events_any H.out.k (by rw [← said_len, HS5.out]; decide) (said_short HS5.out (by decide)) 0
                  refine hc.mono ?_
                  rintro ex U144 ⟨vt, E6, rfl, hs, ht, hb⟩
                  have HSE6 := Lib.hid (show said E6 = [(kA, [120])] from by rw [hs, if_neg (by decide), said_drop, HS5.out]; rfl)
                  have HLNE6 := Lib.hid (show E6.length = 1 from by rw [← said_len, HSE6.out]; rfl)
                  obtain ⟨st, ct, rfl, _⟩ := ht.row.form
                  have HT := Lib.hid (ht.mono (own' := fun _ => True) (fun k _ hk => trivial))
                  replace H := Lib.hid (H.out.later hb)
                  replace HX := Lib.hid (HX.out.later hb)
                  clear hc hs ht hb
                  refine hKK.out _ _ ⟨H.out.a, H.out.b⟩ ?_
                  clear hKK KK
                  (try simp only [Act.put, List.setIfInBounds_toArray, List.set_cons_zero, List.set_cons_succ])
                  repeat (first | (refine RP.t_take (v := ?_) rfl rfl (fun w' hw' => ?_) ?_; rotate_left; (focus ((obtain ⟨hAf, hBf⟩ := hw'; obtain ⟨a0, a1, a2, a3, a4, a5, a6, a7⟩ := lies_addr hAf; obtain ⟨b0, b1, b2, b3, b4, b5, b6, b7⟩ := lies_addr hBf; simp only [kA, kB] at a0 a1 a2 a3 a4 a5 a6 a7 b0 b1 b2 b3 b4 b5 b6 b7); go_simp; (try go_bits); (try (with_reducible rfl)))); (try simp only [Act.put, List.setIfInBounds_toArray, List.set_cons_zero, List.set_cons_succ])) | (refine RP.t_skip rfl rfl ?_; (try simp only [Act.put, List.setIfInBounds_toArray, List.set_cons_zero, List.set_cons_succ])))
                  refine t_run1 rfl rfl (fun KK hKK => ?_)
                  refine wp_bslice kA (some ⟨g122, 0, none⟩) 1 1 [120] _ rfl rfl ?_
                  have hl9 : Shows (U144.alloc (.cells (Ev.cs ⟨kA, .slice (some ⟨g122, 0, none⟩) 1 1, [120]⟩).toArray 66)) (.slice (some ⟨U144.heap.size, 0, none⟩) 1 1) [⟨kA, .slice (some ⟨g122, 0, none⟩) 1 1, [120]⟩] := shows_one U144 _ HX.out
                  have hb : Below U144.heap.size U144 (U144.alloc (.cells (Ev.cs ⟨kA, .slice (some ⟨g122, 0, none⟩) 1 1, [120]⟩).toArray 66)) := (Below.refl _ _).alloc (Nat.le_refl _) _
                  have HL := Lib.hid hl9
                  clear hl9
                  replace H := Lib.hid (H.out.later hb)
                  replace HT := Lib.hid (HT.out.later hb)
                  replace HX := Lib.hid (HX.out.later hb)
                  refine hKK.out _ _ ⟨H.out.a, H.out.b⟩ ?_
                  clear hKK KK hb
                  generalize U144.alloc (.cells (Ev.cs ⟨kA, .slice (some ⟨g122, 0, none⟩) 1 1, [120]⟩).toArray 66) = U145 at H HL HT HX ⊢
                  generalize U144.heap.size = d145 at HL ⊢
                  (try simp only [Act.put, List.setIfInBounds_toArray, List.set_cons_zero, List.set_cons_succ])
                  refine RP.t_run rfl (fun KK hKK => ?_)
                  go_simp
                  have hc := same_any HT.out.shows HL.out (by rw [HLNE6.out]; decide)
                  rw [HSE6.out, decide_eq_true (show ([(kA, [120])] : List (A8 × List UInt8)) = said [⟨kA, .slice (some ⟨g122, 0, none⟩) 1 1, [120]⟩] from rfl)] at hc
                  refine hc.mono ?_
                  rintro ex U146 ⟨rfl, hb⟩
                  replace H := Lib.hid (H.out.later hb)
                  clear hc hb HT HL HX
                  refine hKK.out _ _ ⟨H.out.a, H.out.b⟩ ?_
                  clear hKK KK
                  (try simp only [Act.put, List.setIfInBounds_toArray, List.set_cons_zero, List.set_cons_succ])
                  repeat (first | (refine RP.t_take (v := ?_) rfl rfl (fun w' hw' => ?_) ?_; rotate_left; (focus ((obtain ⟨hAf, hBf⟩ := hw'; obtain ⟨a0, a1, a2, a3, a4, a5, a6, a7⟩ := lies_addr hAf; obtain ⟨b0, b1, b2, b3, b4, b5, b6, b7⟩ := lies_addr hBf; simp only [kA, kB] at a0 a1 a2 a3 a4 a5 a6 a7 b0 b1 b2 b3 b4 b5 b6 b7); go_simp; (try go_bits); (try (with_reducible rfl)))); (try simp only [Act.put, List.setIfInBounds_toArray, List.set_cons_zero, List.set_cons_succ])) | (refine RP.t_skip rfl rfl ?_; (try simp only [Act.put, List.setIfInBounds_toArray, List.set_cons_zero, List.set_cons_succ])))
                  refine RP.t_run rfl (fun KK hKK => ?_)
                  go_simp
                  have hb : Below U146.heap.size U146 (U146.alloc (.cells #[.int .u8 99] 5)) := (Below.refl _ _).alloc (Nat.le_refl _) _
                  have hl1 : Lies (U146.alloc (.cells #[.int .u8 99] 5)) U146.heap.size 5 #[.int .u8 99] := Lies.new _ _ _
                  have hgb : W.heap.size + 2 ≤ U146.heap.size := H.out.lo _ (H.out.ho _ (Nat.le_refl _))
                  have hglt : U146.heap.size < (U146.alloc (.cells #[.int .u8 99] 5)).heap.size := by simp only [World.size_alloc]; omega
                  replace H := Lib.hid (H.out.lit (.cells #[.int .u8 99] 5))
                  refine hKK.out _ _ ⟨H.out.a, H.out.b⟩ ?_
                  clear hKK KK hb
                  generalize U146.alloc (.cells #[.int .u8 99] 5) = U148 at H hl1 hglt ⊢
                  generalize U146.heap.size = g147 at H hl1 hgb hglt ⊢
                  have HG := Lib.hid (show Lies U148 g147 5 #[.int .u8 (((99 : UInt8)).toNat : Int)] from hl1)
                  clear hl1
                  (try simp only [Act.put, List.setIfInBounds_toArray, List.set_cons_zero, List.set_cons_succ])
                  refine t_run1 rfl rfl (fun KK hKK => ?_)
                  refine wp_mark HG.out _ 1 1 rfl rfl (fun U149 hf hx => ?_)
                  replace H := Lib.hid (H.out.marked hf hgb)
                  have HX := Lib.hid (show Byt U149 (.slice (some ⟨g147, 0, none⟩) 1 1) [99] from hx)
                  refine hKK.out _ _ ⟨H.out.a, H.out.b⟩ ?_
                  clear hKK KK hf hx HG hgb hglt
                  (try simp only [Act.put, List.setIfInBounds_toArray, List.set_cons_zero, List.set_cons_succ])
                  refine RP.t_run rfl (fun KK hKK => ?_)
                  go_simp
                  have hc := setcode_own H.out.k H.out.ho kA HX.out (by decide)
                  refine hc.mono ?_
                  rintro ex U150 ⟨C1, rfl, hk, hs, hf⟩
                  replace H := Lib.hid (H.out.owned hk hf)
                  have HC1 := Lib.hid (show Al.turn (·.2) C1 = [(kA, [99])] from by rw [hs]; rfl)
                  clear hc hk hs hf HX
                  refine hKK.out _ _ ⟨H.out.a, H.out.b⟩ ?_
                  clear hKK KK
                  (try simp only [Act.put, List.setIfInBounds_toArray, List.set_cons_zero, List.set_cons_succ])
                  repeat (first | (refine RP.t_take (v := ?_) rfl rfl (fun w' hw' => ?_) ?_; rotate_left; (focus ((obtain ⟨hAf, hBf⟩ := hw'; obtain ⟨a0, a1, a2, a3, a4, a5, a6, a7⟩ := lies_addr hAf; obtain ⟨b0, b1, b2, b3, b4, b5, b6, b7⟩ := lies_addr hBf; simp only [kA, kB] at a0 a1 a2 a3 a4 a5 a6 a7 b0 b1 b2 b3 b4 b5 b6 b7); go_simp; (try go_bits); (try (with_reducible rfl)))); (try simp only [Act.put, List.setIfInBounds_toArray, List.set_cons_zero, List.set_cons_succ])) | (refine RP.t_skip rfl rfl ?_; (try simp only [Act.put, List.setIfInBounds_toArray, List.set_cons_zero, List.set_cons_succ])))
                  refine RP.t_done ?_
                  have hfm : (Al.find C1 kA).map (·.2) = some [99] := by rw [← Al.turn_find, HC1.out]; rfl
                  have hfs : (Al.find C1 kA).isSome = true := some_of_map hfm
                  have hfl : ∀ c ∈ C1, c.2.2.length ≤ 1000000000 := fun c hc => by
                    have h1 : (c.1, c.2.2) ∈ Al.turn (·.2) C1 := List.mem_map.2 ⟨c, hc, rfl⟩
                    rw [HC1.out, List.mem_singleton] at h1
                    rw [show c.2.2 = [99] from congrArg Prod.snd h1]; decide
                  have hc := code_any H.out.k kA hfl
                  rw [hfs, hfm] at hc
                  simp only [Option.getD_some] at hc
                  replace hc := Lib.hid hc
                  have HF2 := Lib.hid (show Al.find (Al.del kA C1) kA = none from by rw [Al.find_del H.out.k.rise, if_pos rfl])
                  have HFL := Lib.hid hfl
                  clear hfm hfs hfl
                  obtain ⟨a0, a1, a2, a3, a4, a5, a6, a7⟩ := lies_addr H.out.a
                  simp only [kA] at a0 a1 a2 a3 a4 a5 a6 a7
                  go_wp2_with fail
                  refine hc.out.mono ?_
                  rintro ex U151 ⟨v7, rfl, ht, hb⟩
                  obtain ⟨s7, c7, rfl⟩ := ht.form
                  have HV := Lib.hid (ht.mono (own' := fun i => W.heap.size + 2 ≤ i) (fun k _ hk => H.out.ho k hk))
                  replace H := Lib.hid (H.out.later hb)
                  clear hc ht hb
                  clear a0 a1 a2 a3 a4 a5 a6 a7
                  obtain ⟨a0, a1, a2, a3, a4, a5, a6, a7⟩ := lies_addr H.out.a
                  simp only [kA] at a0 a1 a2 a3 a4 a5 a6 a7
                  go_wp2_with fail
                  refine (setcode_del H.out.k kA none 0).mono ?_
                  rintro ex U152 ⟨rfl, hk, hf⟩
                  replace HV := Lib.hid (H.out.k.bts_map HV.out hf)
                  replace H := Lib.hid (H.out.owned hk (hf.mono (fun k _ e => e ▸ H.out.k.obm)))
                  clear hk hf
                  clear a0 a1 a2 a3 a4 a5 a6 a7
                  have hc := code_any H.out.k kA (fun c hc => HFL.out c (Al.mem_del.1 hc).1)
                  rw [HF2.out] at hc
                  simp only [Option.isSome_none, Option.map_none, Option.getD_none] at hc
                  replace hc := Lib.hid hc
                  obtain ⟨a0, a1, a2, a3, a4, a5, a6, a7⟩ := lies_addr H.out.a
                  simp only [kA] at a0 a1 a2 a3 a4 a5 a6 a7
                  go_wp2_with fail
                  refine hc.out.mono ?_
                  rintro ex U153 ⟨v9, rfl, ht, hb⟩
                  obtain ⟨s9, c9, rfl⟩ := ht.form
                  have HY := Lib.hid (HV.out.byt.later hb)
                  replace H := Lib.hid (H.out.later hb)
                  clear hc ht hb HV HF2 HFL HC1
                  clear a0 a1 a2 a3 a4 a5 a6 a7
                  obtain ⟨a0, a1, a2, a3, a4, a5, a6, a7⟩ := lies_addr H.out.a
                  simp only [kA] at a0 a1 a2 a3 a4 a5 a6 a7
                  go_wp2_with fail
                  refine (code_nil _ kA).mono ?_
                  rintro ex U154 ⟨rfl, hb⟩
                  replace HY := Lib.hid (HY.out.later hb)
                  replace H := Lib.hid (H.out.later hb)
                  clear hb
                  clear a0 a1 a2 a3 a4 a5 a6 a7
                  have kx := HY.out.conv
                  simp only [List.length_cons, List.length_nil, Nat.zero_add] at kx
                  have hq : (bst [99]).toList = [99] := by rw [ByteArray.toList_eq]; rfl
                  obtain ⟨a0, a1, a2, a3, a4, a5, a6, a7⟩ := lies_addr H.out.a
                  simp only [kA] at a0 a1 a2 a3 a4 a5 a6 a7
                  go_wp2_with fail
                  refine (emit_nil _ kA _).mono ?_
                  rintro ex U155 ⟨rfl, hb⟩
                  clear kx
                  replace HY := Lib.hid (HY.out.later hb)
                  replace H := Lib.hid (H.out.later hb)
                  clear hb
                  clear a0 a1 a2 a3 a4 a5 a6 a7
                  go_wp2_with fail
                  refine (cut_nil _ _).mono ?_
                  rintro ex U156 ⟨rfl, rfl⟩
                  obtain ⟨a0, a1, a2, a3, a4, a5, a6, a7⟩ := lies_addr H.out.a
                  simp only [kA] at a0 a1 a2 a3 a4 a5 a6 a7
                  go_wp2_with fail
                  refine (setcode_nil _ kA _).mono ?_
                  rintro ex U157 ⟨rfl, hb⟩
                  replace HY := Lib.hid (HY.out.later hb)
                  replace H := Lib.hid (H.out.later hb)
                  clear hb
                  clear a0 a1 a2 a3 a4 a5 a6 a7
                  go_wp2_with fail
                  refine (len_nil _).mono ?_
                  rintro ex U158 ⟨rfl, rfl⟩
                  go_wp2_with fail
                  refine (events_nil _).mono ?_
                  rintro ex U159 ⟨rfl, rfl⟩
                  go_wp2_with fail
                  refine (coded_nil _).mono ?_
                  rintro ex U160 ⟨rfl, rfl⟩
                  go_wp2_with fail
                  refine (copy_nil _).mono ?_
                  rintro ex U161 ⟨rfl, rfl⟩
                  go_wp2_with fail
                  go_ret
                  exact ⟨rfl, H.out.below⟩
              · as_aux_lemma =>
                  refine if_go rfl ?_
                  refine wp_bslice kA (some ⟨g122, 0, none⟩) 1 1 [120] _ rfl rfl ?_
                  have hl9 : Shows (U143.alloc (.cells (Ev.cs ⟨kA, .slice (some ⟨g122, 0, none⟩) 1 1, [120]⟩).toArray 66)) (.slice (some ⟨U143.heap.size, 0, none⟩) 1 1) [⟨kA, .slice (some ⟨g122, 0, none⟩) 1 1, [120]⟩] := shows_one U143 _ HX.out
                  have hb : Below U143.heap.size U143 (U143.alloc (.cells (Ev.cs ⟨kA, .slice (some ⟨g122, 0, none⟩) 1 1, [120]⟩).toArray 66)) := (Below.refl _ _).alloc (Nat.le_refl _) _
                  have HL := Lib.hid hl9
                  clear hl9
                  replace H := Lib.hid (H.out.later hb)
                  replace HX := Lib.hid (HX.out.later hb)
                  refine hKK.out _ _ ⟨H.out.a, H.out.b⟩ ?_
                  clear hKK KK hb
                  generalize U143.alloc (.cells (Ev.cs ⟨kA, .slice (some ⟨g122, 0, none⟩) 1 1, [120]⟩).toArray 66) = U162 at H HL HX ⊢
                  generalize U143.heap.size = d162 at HL ⊢
                  (try simp only [Act.put, List.setIfInBounds_toArray, List.set_cons_zero, List.set_cons_succ])
                  refine RP.t_run rfl (fun KK hKK => ?_)
                  go_simp
                  have hc := events_any H.out.k (by rw [← said_len, HS5.out]; decide) (said_short HS5.out (by decide)) 0
                  refine hc.mono ?_
                  rintro ex U163 ⟨vt, E6, rfl, hs, ht, hb⟩
                  have HSE6 := Lib.hid (show said E6 = [(kA, [120])] from by rw [hs, if_neg (by decide), said_drop, HS5.out]; rfl)
                  have HLNE6 := Lib.hid (show E6.length = 1 from by rw [← said_len, HSE6.out]; rfl)
                  obtain ⟨st, ct, rfl, _⟩ := ht.row.form
                  have HT := Lib.hid (ht.mono (own' := fun _ => True) (fun k _ hk => trivial))
                  replace H := Lib.hid (H.out.later hb)
                  replace HL := Lib.hid (HL.out.later hb)
                  replace HX := Lib.hid (HX.out.later hb)
                  clear hc hs ht hb
                  refine hKK.out _ _ ⟨H.out.a, H.out.b⟩ ?_
                  clear hKK KK
                  (try simp only [Act.put, List.setIfInBounds_toArray, List.set_cons_zero, List.set_cons_succ])
                  repeat (first | (refine RP.t_take (v := ?_) rfl rfl (fun w' hw' => ?_) ?_; rotate_left; (focus ((obtain ⟨hAf, hBf⟩ := hw'; obtain ⟨a0, a1, a2, a3, a4, a5, a6, a7⟩ := lies_addr hAf; obtain ⟨b0, b1, b2, b3, b4, b5, b6, b7⟩ := lies_addr hBf; simp only [kA, kB] at a0 a1 a2 a3 a4 a5 a6 a7 b0 b1 b2 b3 b4 b5 b6 b7); go_simp; (try go_bits); (try (with_reducible rfl)))); (try simp only [Act.put, List.setIfInBounds_toArray, List.set_cons_zero, List.set_cons_succ])) | (refine RP.t_skip rfl rfl ?_; (try simp only [Act.put, List.setIfInBounds_toArray, List.set_cons_zero, List.set_cons_succ])))
                  refine RP.t_run rfl (fun KK hKK => ?_)
                  go_simp
                  have hc := same_any HT.out.shows HL.out (by rw [HLNE6.out]; decide)
                  rw [HSE6.out, decide_eq_true (show ([(kA, [120])] : List (A8 × List UInt8)) = said [⟨kA, .slice (some ⟨g122, 0, none⟩) 1 1, [120]⟩] from rfl)] at hc
                  refine hc.mono ?_
                  rintro ex U164 ⟨rfl, hb⟩
                  replace H := Lib.hid (H.out.later hb)
                  clear hc hb HT HL HX
                  refine hKK.out _ _ ⟨H.out.a, H.out.b⟩ ?_
                  clear hKK KK
                  (try simp only [Act.put, List.setIfInBounds_toArray, List.set_cons_zero, List.set_cons_succ])
                  repeat (first | (refine RP.t_take (v := ?_) rfl rfl (fun w' hw' => ?_) ?_; rotate_left; (focus ((obtain ⟨hAf, hBf⟩ := hw'; obtain ⟨a0, a1, a2, a3, a4, a5, a6, a7⟩ := lies_addr hAf; obtain ⟨b0, b1, b2, b3, b4, b5, b6, b7⟩ := lies_addr hBf; simp only [kA, kB] at a0 a1 a2 a3 a4 a5 a6 a7 b0 b1 b2 b3 b4 b5 b6 b7); go_simp; (try go_bits); (try (with_reducible rfl)))); (try simp only [Act.put, List.setIfInBounds_toArray, List.set_cons_zero, List.set_cons_succ])) | (refine RP.t_skip rfl rfl ?_; (try simp only [Act.put, List.setIfInBounds_toArray, List.set_cons_zero, List.set_cons_succ])))
                  refine RP.t_run rfl (fun KK hKK => ?_)
                  go_simp
                  have hb : Below U164.heap.size U164 (U164.alloc (.cells #[.int .u8 99] 5)) := (Below.refl _ _).alloc (Nat.le_refl _) _
                  have hl1 : Lies (U164.alloc (.cells #[.int .u8 99] 5)) U164.heap.size 5 #[.int .u8 99] := Lies.new _ _ _
                  have hgb : W.heap.size + 2 ≤ U164.heap.size := H.out.lo _ (H.out.ho _ (Nat.le_refl _))
                  have hglt : U164.heap.size < (U164.alloc (.cells #[.int .u8 99] 5)).heap.size := by simp only [World.size_alloc]; omega
                  replace H := Lib.hid (H.out.lit (.cells #[.int .u8 99] 5))
                  refine hKK.out _ _ ⟨H.out.a, H.out.b⟩ ?_
                  clear hKK KK hb
                  generalize U164.alloc (.cells #[.int .u8 99] 5) = U166 at H hl1 hglt ⊢
                  generalize U164.heap.size = g165 at H hl1 hgb hglt ⊢
                  have HG := Lib.hid (show Lies U166 g165 5 #[.int .u8 (((99 : UInt8)).toNat : Int)] from hl1)
                  clear hl1
                  (try simp only [Act.put, List.setIfInBounds_toArray, List.set_cons_zero, List.set_cons_succ])
                  refine t_run1 rfl rfl (fun KK hKK => ?_)
                  refine wp_mark HG.out _ 1 1 rfl rfl (fun U167 hf hx => ?_)
                  replace H := Lib.hid (H.out.marked hf hgb)
                  have HX := Lib.hid (show Byt U167 (.slice (some ⟨g165, 0, none⟩) 1 1) [99] from hx)
                  refine hKK.out _ _ ⟨H.out.a, H.out.b⟩ ?_
                  clear hKK KK hf hx HG hgb hglt
                  (try simp only [Act.put, List.setIfInBounds_toArray, List.set_cons_zero, List.set_cons_succ])
                  refine RP.t_run rfl (fun KK hKK => ?_)
                  go_simp
                  have hc := setcode_own H.out.k H.out.ho kA HX.out (by decide)
                  refine hc.mono ?_
                  rintro ex U168 ⟨C1, rfl, hk, hs, hf⟩
                  replace H := Lib.hid (H.out.owned hk hf)
                  have HC1 := Lib.hid (show Al.turn (·.2) C1 = [(kA, [99])] from by rw [hs]; rfl)
                  clear hc hk hs hf HX
                  refine hKK.out _ _ ⟨H.out.a, H.out.b⟩ ?_
                  clear hKK KK
                  (try simp only [Act.put, List.setIfInBounds_toArray, List.set_cons_zero, List.set_cons_succ])
                  repeat (first | (refine RP.t_take (v := ?_) rfl rfl (fun w' hw' => ?_) ?_; rotate_left; (focus ((obtain ⟨hAf, hBf⟩ := hw'; obtain ⟨a0, a1, a2, a3, a4, a5, a6, a7⟩ := lies_addr hAf; obtain ⟨b0, b1, b2, b3, b4, b5, b6, b7⟩ := lies_addr hBf; simp only [kA, kB] at a0 a1 a2 a3 a4 a5 a6 a7 b0 b1 b2 b3 b4 b5 b6 b7); go_simp; (try go_bits); (try (with_reducible rfl)))); (try simp only [Act.put, List.setIfInBounds_toArray, List.set_cons_zero, List.set_cons_succ])) | (refine RP.t_skip rfl rfl ?_; (try simp only [Act.put, List.setIfInBounds_toArray, List.set_cons_zero, List.set_cons_succ])))
                  refine RP.t_done ?_
                  have hfm : (Al.find C1 kA).map (·.2) = some [99] := by rw [← Al.turn_find, HC1.out]; rfl
                  have hfs : (Al.find C1 kA).isSome = true := some_of_map hfm
                  have hfl : ∀ c ∈ C1, c.2.2.length ≤ 1000000000 := fun c hc => by
                    have h1 : (c.1, c.2.2) ∈ Al.turn (·.2) C1 := List.mem_map.2 ⟨c, hc, rfl⟩
                    rw [HC1.out, List.mem_singleton] at h1
                    rw [show c.2.2 = [99] from congrArg Prod.snd h1]; decide
                  have hc := code_any H.out.k kA hfl
                  rw [hfs, hfm] at hc
                  simp only [Option.getD_some] at hc
                  replace hc := Lib.hid hc
                  have HF2 := Lib.hid (show Al.find (Al.del kA C1) kA = none from by rw [Al.find_del H.out.k.rise, if_pos rfl])
                  have HFL := Lib.hid hfl
                  clear hfm hfs hfl
                  obtain ⟨a0, a1, a2, a3, a4, a5, a6, a7⟩ := lies_addr H.out.a
                  simp only [kA] at a0 a1 a2 a3 a4 a5 a6 a7
                  go_wp2_with fail
                  refine hc.out.mono ?_
                  rintro ex U169 ⟨v7, rfl, ht, hb⟩
                  obtain ⟨s7, c7, rfl⟩ := ht.form
                  have HV := Lib.hid (ht.mono (own' := fun i => W.heap.size + 2 ≤ i) (fun k _ hk => H.out.ho k hk))
                  replace H := Lib.hid (H.out.later hb)
                  clear hc ht hb
                  clear a0 a1 a2 a3 a4 a5 a6 a7
                  obtain ⟨a0, a1, a2, a3, a4, a5, a6, a7⟩ := lies_addr H.out.a
                  simp only [kA] at a0 a1 a2 a3 a4 a5 a6 a7
                  go_wp2_with fail
                  refine (setcode_del H.out.k kA none 0).mono ?_
                  rintro ex U170 ⟨rfl, hk, hf⟩
                  replace HV := Lib.hid (H.out.k.bts_map HV.out hf)
                  replace H := Lib.hid (H.out.owned hk (hf.mono (fun k _ e => e ▸ H.out.k.obm)))
                  clear hk hf
                  clear a0 a1 a2 a3 a4 a5 a6 a7
                  have hc := code_any H.out.k kA (fun c hc => HFL.out c (Al.mem_del.1 hc).1)
                  rw [HF2.out] at hc
                  simp only [Option.isSome_none, Option.map_none, Option.getD_none] at hc
                  replace hc := Lib.hid hc
                  obtain ⟨a0, a1, a2, a3, a4, a5, a6, a7⟩ := lies_addr H.out.a
                  simp only [kA] at a0 a1 a2 a3 a4 a5 a6 a7
                  go_wp2_with fail
                  refine hc.out.mono ?_
                  rintro ex U171 ⟨v9, rfl, ht, hb⟩
                  obtain ⟨s9, c9, rfl⟩ := ht.form
                  have HY := Lib.hid (HV.out.byt.later hb)
                  replace H := Lib.hid (H.out.later hb)
                  clear hc ht hb HV HF2 HFL HC1
                  clear a0 a1 a2 a3 a4 a5 a6 a7
                  obtain ⟨a0, a1, a2, a3, a4, a5, a6, a7⟩ := lies_addr H.out.a
                  simp only [kA] at a0 a1 a2 a3 a4 a5 a6 a7
                  go_wp2_with fail
                  refine (code_nil _ kA).mono ?_
                  rintro ex U172 ⟨rfl, hb⟩
                  replace HY := Lib.hid (HY.out.later hb)
                  replace H := Lib.hid (H.out.later hb)
                  clear hb
                  clear a0 a1 a2 a3 a4 a5 a6 a7
                  have kx := HY.out.conv
                  simp only [List.length_cons, List.length_nil, Nat.zero_add] at kx
                  have hq : (bst [99]).toList = [99] := by rw [ByteArray.toList_eq]; rfl
                  obtain ⟨a0, a1, a2, a3, a4, a5, a6, a7⟩ := lies_addr H.out.a
                  simp only [kA] at a0 a1 a2 a3 a4 a5 a6 a7
                  go_wp2_with fail
                  refine (emit_nil _ kA _).mono ?_
                  rintro ex U173 ⟨rfl, hb⟩
                  clear kx
                  replace HY := Lib.hid (HY.out.later hb)
                  replace H := Lib.hid (H.out.later hb)
                  clear hb
                  clear a0 a1 a2 a3 a4 a5 a6 a7
                  go_wp2_with fail
                  refine (cut_nil _ _).mono ?_
                  rintro ex U174 ⟨rfl, rfl⟩
                  obtain ⟨a0, a1, a2, a3, a4, a5, a6, a7⟩ := lies_addr H.out.a
                  simp only [kA] at a0 a1 a2 a3 a4 a5 a6 a7
                  go_wp2_with fail
                  refine (setcode_nil _ kA _).mono ?_
                  rintro ex U175 ⟨rfl, hb⟩
                  replace HY := Lib.hid (HY.out.later hb)
                  replace H := Lib.hid (H.out.later hb)
                  clear hb
                  clear a0 a1 a2 a3 a4 a5 a6 a7
                  go_wp2_with fail
                  refine (len_nil _).mono ?_
                  rintro ex U176 ⟨rfl, rfl⟩
                  go_wp2_with fail
                  refine (events_nil _).mono ?_
                  rintro ex U177 ⟨rfl, rfl⟩
                  go_wp2_with fail
                  refine (coded_nil _).mono ?_
                  rintro ex U178 ⟨rfl, rfl⟩
                  go_wp2_with fail
                  refine (copy_nil _).mono ?_
                  rintro ex U179 ⟨rfl, rfl⟩
                  go_wp2_with fail
                  go_ret
                  exact ⟨rfl, H.out.below⟩
end Go.Proofs.Yteeghdkejnhjnaa.Bo
