/- The document's store: the walk of its Put. -/
import Derived.Test.YteeghdkejnhjnaaKvI
import Derived.Test.YteeghdkejnhjnaaAcL
import Derived.Test.YteeghdkejnhjnaaKvR
namespace Go.Proofs.Yteeghdkejnhjnaa.Kv
open Go Go.RowKit Go.Shelf Kt Ad Bo

/-- An entry ahead of a key. -/
def Ahead (x : En) (a : A8) (k : Bs) : Prop := x.a.num < a.num ∨ x.a = a ∧ Lt x.k k
instance (x : En) (a : A8) (k : Bs) : Decidable (Ahead x a k) := inferInstanceAs (Decidable (_ ∨ _))
def dat (L : List En) (a : A8) (k : Bs) : Nat := (L.takeWhile fun x => decide (Ahead x a k)).length
def dins (L : List En) (x : En) : List En := L.take (dat L x.a x.k) ++ x :: L.drop (dat L x.a x.k)

theorem wp_exec {o : Oper} {a : Act} {w w' : World} {v : Value} {K : Act → World → Prop} {Q : Exit → Act → World → Prop} (h : (execOp a.eval o).run Try.prog w = .ok (.value v) w') (hk : K (a.put o.dst v) w') : Oper.wp Try.prog o a w K Q := by
  unfold Oper.wp
  rw [h]
  exact hk
theorem wp_store_sl {o : Oper} {a : Act} {w : World} {K : Act → World → Prop} {Q : Exit → Act → World → Prop} {br : Nat} {C : Value} (hl : Lies w br 75 #[C]) {s : Option Addr} {n c : Nat} (p q : Operand) (ho : o.op = .store 73 p q) (hp : a.eval p = .pointer (some ⟨br, 0, none⟩)) (hq : a.eval q = .slice s n c)
    (hk : K (a.put o.dst undef) (w.setCell ⟨br, 0, none⟩ (.slice s n c))) : Oper.wp Try.prog o a w K Q := by
  have c0 := hl.cell 0
  have f0 := hl.frozen 0
  simp only [List.getElem?_toArray, List.getElem?_cons_zero] at c0
  unfold Oper.wp execOp
  simp only [ho, hp, hq]
  go_simp
  exact hk
theorem lies_range {w : World} {g : Nat} {t : TypeId} {cs : List Value} (h : Lies w g t cs.toArray) : w.rangeAt g 0 cs := fun j c hj => by
  rw [Nat.zero_add, h.cell j]
  simpa using hj
theorem flat_mem {M N : List En} (h : M ⊆ N) {u : Value} (hu : u ∈ M.flatMap En.cs) : u ∈ N.flatMap En.cs := by
  obtain ⟨x, hx, hu⟩ := List.mem_flatMap.1 hu
  exact List.mem_flatMap.2 ⟨x, h hx, hu⟩
theorem src_drop2 {w : World} {own : Nat → Prop} {g c : Nat} {M : List En} (h : WRow w own 122 10 (.slice (some ⟨g, 0, none⟩) M.length c) M.length (M.flatMap En.cs)) {j : Nat} (hj : j ≤ M.length) : Src w (if c = j then some ⟨g, 0, none⟩ else some ⟨g, j * 10, none⟩) (M.drop j) := by
  by_cases e : c = j
  · obtain ⟨s, cap, e1, e2, _⟩ := h.form
    injection e1 with _ _ e1
    exact fun hne => absurd (List.drop_eq_nil_of_le (by omega)) hne
  · rw [if_neg e]
    exact src_drop h hj
theorem dat_at {M : List En} {a : A8} {k : Bs} {j : Nat} (hj : j ≤ M.length) (hno : ∀ q y, q < j → M[q]? = some y → Ahead y a k) (hc : false = (M[j]?.map fun x => decide (Ahead x a k)).getD false) : dat M a k = j := by
  unfold dat
  induction M generalizing j with
  | nil => have : j = 0 := by simpa using hj
           simp [this]
  | cons x M ih =>
    cases j with
    | zero =>
      have h0 : decide (Ahead x a k) = false := by simpa using hc.symm
      rw [List.takeWhile_cons_of_neg (by rw [h0]; decide)]
      rfl
    | succ j =>
      have h0 : Ahead x a k := hno 0 x (by omega) rfl
      rw [List.takeWhile_cons_of_pos (by exact decide_eq_true h0), List.length_cons]
      rw [ih (by simpa using hj) (fun q y hq hy => hno (q + 1) y (by omega) (by simpa using hy)) (by simpa using hc)]
theorem build_en (x : A8) (s s' : Option Addr) (n n' c c' : Nat) (b b' : Bs) (w : World) : (Instr.build 122 #[(0, x.v), (1, .slice s n c), (2, .slice s' n' c')]).run Try.prog w = .ok (.agg (En.cs ⟨x, .slice s n c, b, .slice s' n' c', b'⟩).toArray) w := by kernel_rfl
theorem wp_build_en {o : Oper} {a : Act} {w : World} {K : Act → World → Prop} {Q : Exit → Act → World → Prop} (x : A8) (s s' : Option Addr) (n n' c c' : Nat) (b b' : Bs) (p0 p1 p2 : Operand) (ho : o.op = .build 122 #[(0, p0), (1, p1), (2, p2)]) (h0 : a.eval p0 = x.v) (h1 : a.eval p1 = .slice s n c) (h2 : a.eval p2 = .slice s' n' c')
    (hk : K (a.put o.dst (.agg (En.cs ⟨x, .slice s n c, b, .slice s' n' c', b'⟩).toArray)) w) : Oper.wp Try.prog o a w K Q := by
  have hb := build_en x s s' n n' c c' b b' w
  unfold Oper.wp execOp
  simp only [ho, List.map_toArray, List.map_cons, List.map_nil, h0, h1, h2, hb, Sem.run_bind, Sem.run_pure, Result.andThen_ok]
  exact hk
theorem wp_append_bytes2 {o : Oper} {a : Act} {w : World} {K : Act → World → Prop} {Q : Exit → Act → World → Prop} {base g : Nat} (hg : OwB w base (.slice (some ⟨g, 0, none⟩) 0 0) []) (hbase : base ≤ w.heap.size) {v : Value} {b : List UInt8} (h : Byt w v b) (hn : b.length ≤ 1000000000) (s x : Operand)
    (ho : o.op = .call { callee := .builtin .append, args := #[s, x], argTypes := #[25, 25] }) (hs : a.eval s = .slice (some ⟨g, 0, none⟩) 0 0) (hx : a.eval x = v)
    (hK : ∀ v' w', OwB w' base v' b → w.grownBy w' (some g) → (v'.ownBlock = some g ∨ v'.ownBlock = some w.heap.size) → K (a.put o.dst v') w') : Oper.wp Try.prog o a w K Q := by
  obtain ⟨v', w', hrun, r1, r2, r3⟩ := run_append_bytes2 hg hbase h hn o.type
  unfold Oper.wp
  simp [execOp, ho, resolve, invoke, builtin, hs, hx, hrun, Result.andThen]
  exact hK v' w' r1 r2 r3
theorem byt_del {W W' : World} {x : Value} {b : Bs} {br n c : Nat} {s : Option Addr} (h : Byt W x b) (hl : Lies W br 75 #[.slice s n c]) (hf : Fr W W' (fun i => i = br)) : Byt W' x b := by
  obtain ⟨s', cap, rfl, h⟩ := h
  refine ⟨s', cap, rfl, fun hne => ?_⟩
  obtain ⟨g, off, rfl, h1, h2⟩ := h hne
  have hg : g ≠ br := fun e => by
    subst e
    obtain ⟨y, hy⟩ : ∃ y, b[0]? = some y := ⟨_, List.getElem?_eq_getElem (List.length_pos_iff.2 hne)⟩
    have h3 := h2 0 y hy
    rw [hl.cell] at h3
    rcases Nat.eq_zero_or_pos (off + 0) with h4 | h4
    · rw [h4] at h3; simp [u8v] at h3
    · rw [Array.getElem?_eq_none (by simp; omega)] at h3; cases h3
  refine ⟨g, off, rfl, Nat.lt_of_lt_of_le h1 hf.size, fun j u hj => ?_⟩
  rw [← h2 j u hj]
  have := hf.block g h1 hg
  simp only [World.cell?, this]
theorem lies_sets {t : TypeId} {g : Nat} : ∀ (vs : List Value) (o : Nat) (w : World) (C : Array Value), Lies w g t C → ∃ C', C'.size = C.size ∧ Lies (w.setCells g o vs) g t C' ∧ Fr w (w.setCells g o vs) (fun i => i = g)
  | [], o, w, C, h => ⟨C, rfl, h, Fr.refl _ _⟩
  | x :: vs, o, w, C, h => by
    obtain ⟨C', h1, h2, h3⟩ := lies_sets vs (o + 1) (w.setCell ⟨g, o, none⟩ x) _ (h.set o x)
    exact ⟨C', by simpa using h1, h2, (Fr.setCell _ _ _).trans h3⟩
theorem lies_store {w : World} {t : TypeId} {g : Nat} {C : Array Value} (h : Lies w g t C) (vs : List Value) (hs : C.size = vs.length) : w.there g 0 vs.length ∧ Lies (w.setCells g 0 vs) g t vs.toArray ∧ Fr w (w.setCells g 0 vs) (fun i => i = g) := by
  have ht : w.there g 0 vs.length := fun j hj => by
    rw [Nat.zero_add]
    exact ⟨by rw [h.cell j, Array.getElem?_eq_getElem (by omega)]; rfl, h.frozen j⟩
  obtain ⟨C', h1, h2, h3⟩ := lies_sets vs 0 w C h
  refine ⟨ht, ?_, h3⟩
  have hr := World.rangeAt_setCells_same w g 0 vs ht
  have : C' = vs.toArray := by
    refine Array.ext (by simp; omega) (fun i hi hi' => ?_)
    have hv : vs[i]? = some (vs[i]'(by simpa using hi')) := List.getElem?_eq_getElem _
    have := hr i _ hv
    rw [Nat.zero_add, h2.cell i, Array.getElem?_eq_getElem hi] at this
    injection this
  rw [← this]
  exact h2

set_option maxRecDepth 100000 in
set_option maxHeartbeats 8000000 in
theorem dput_any {W : World} {own : Nat → Prop} {br : Nat} {vl : Value} {L : List En} (h : Dk W own br vl L) (ho : ∀ i, W.heap.size ≤ i → own i) (hN : L.length ≤ 1000000) (hKL : ∀ x ∈ L, x.k.length ≤ 1000000000) (a : A8) {vk vv : Value} {k v : Bs} (hk : Byt W vk k) (hv : Byt W vv v) (hs : k.length ≤ 64 ∧ v.length ≤ 1024) :
    Calls Try.prog 37 #[.pointer (some ⟨br, 0, none⟩), a.v, vk, vv] W fun e w' => ∃ vn x, x.a = a ∧ x.k = k ∧ x.v = v ∧ e = .returned (.int .i64 0) ∧ Dk w' own br vn (dins (ddel L a k) x) ∧ Fr W w' own := by
  obtain ⟨sk0, ck0, rfl⟩ : ∃ s c, vk = .slice s k.length c := by obtain ⟨s, c, e, _⟩ := hk; exact ⟨s, c, e⟩
  obtain ⟨sv0, cv0, rfl⟩ : ∃ s c, vv = .slice s v.length c := by obtain ⟨s, c, e, _⟩ := hv; exact ⟨s, c, e⟩
  obtain ⟨hkl, hvl⟩ := hs
  obtain ⟨W1, hW1⟩ : ∃ W1, W1 = W.alloc (.cells a.cs.toArray 24) := ⟨_, rfl⟩
  have HA1 := Lib.hid (show Lies W1 W.heap.size 24 a.cs.toArray from hW1 ▸ Lies.new W _ _)
  have hB1 : Below W.heap.size W W1 := hW1 ▸ (Below.refl _ _).alloc (Nat.le_refl _) _
  have HB1 := Lib.hid hB1
  have hlt1 : W.heap.size < W1.heap.size := by rw [hW1]; simp
  have H1 := Lib.hid ((h.mono (own' := fun i => own i ∧ i ≠ W.heap.size) (fun i hi ho' => ⟨ho', fun e => by omega⟩)).later hB1)
  have HO := Lib.hid ho
  have HO1 := Lib.hid (show ∀ i, W1.heap.size ≤ i → own i ∧ i ≠ W.heap.size from fun i hi => ⟨ho i (by omega), by omega⟩)
  have HK := Lib.hid (hk.later hB1)
  have HV := Lib.hid (hv.later hB1)
  have hbr := h.cell.lt
  have HOB := Lib.hid h.obr
  clear h hk hv ho hB1
  simp only [A8.v]
  go_enter Try.func37, Try.ntmps37
  go_upto_region 1 with fail
  rw [show W.alloc (.cells #[.int .u8 a.x0.toNat, .int .u8 a.x1.toNat, .int .u8 a.x2.toNat, .int .u8 a.x3.toNat, .int .u8 a.x4.toNat, .int .u8 a.x5.toNat, .int .u8 a.x6.toNat, .int .u8 a.x7.toNat] 24) = W1 from hW1.symm]
  clear hW1
  obtain ⟨a0, a1, a2, a3, a4, a5, a6, a7⟩ := lies_addr HA1.out
  go_wp2_with fail
  clear a0 a1 a2 a3 a4 a5 a6 a7
  have HC := Lib.hid (ddel_any H1.out HO1.out hN a HK.out)
  refine HC.out.mono ?_
  rintro e V ⟨vn, rfl, hD, hF⟩
  have HD := Lib.hid hD
  have HF := Lib.hid hF
  have HA := Lib.hid (lies_fr HA1.out hF (by omega))
  clear hD hF HC
  go_wp2_with fail
  have HMZ := Lib.hid (Mk.zero V a (.slice sk0 k.length ck0) (.slice sv0 v.length cv0) k v undef undef undef undef undef undef undef undef undef (Below.refl V.heap.size V).drew)
  have hbc := H1.out.cell
  obtain ⟨s9, c9, e9, _⟩ := H1.out.row.form
  rw [e9] at hbc
  have HKV := Lib.hid (byt_del HK.out hbc HF.out)
  have HVV := Lib.hid (byt_del HV.out hbc HF.out)
  refine region_inv (fun f act w => ∃ t23 t24 t25 t26 t27 t28 t29 t30 t9, act = { tmps := #[(.pointer (some ⟨br, 0, none⟩)), a.v, (.slice sk0 k.length ck0), (.slice sv0 v.length cv0), undef, (.pointer (some ⟨W.heap.size, 0, none⟩)), undef, undef, (.int .i64 0), t9, undef, (.slice sk0 k.length ck0), (.int .i64 (k.length : Int)), (.bool (decide (64 < (k.length : Int)))), (.bool (decide (64 < (k.length : Int)))), (.slice sv0 v.length cv0), (.int .i64 (v.length : Int)), (.bool (decide (1024 < (v.length : Int)))), (.bool (decide (64 < (k.length : Int)) || decide (1024 < (v.length : Int)))), (.pointer (some ⟨br, 0, none⟩)), a.v, (.slice sk0 k.length ck0), (.bool (decide ((ddel L a k).length < L.length))), t23, t24, t25, t26, t27, t28, t29, t30, undef, undef, undef, undef, undef, undef, undef, undef, undef, undef, undef, undef, undef, undef, undef, undef, undef, undef, undef, undef, undef, undef, undef, undef, undef, undef, undef, undef, undef, undef, undef, undef, undef, undef, undef, undef, undef, undef, undef, undef, undef, undef, undef, undef, undef, undef, undef, undef, undef, undef, undef, undef, undef, undef, undef, undef, undef, undef, undef, undef, undef, undef, undef, undef, undef, undef], defers := [] } ∧ Mk V a (.slice sk0 k.length ck0) (.slice sv0 v.length cv0) k v f t23 t24 t25 t26 t27 t28 t29 t30 t9 w) rfl (by kernel_rfl) ⟨undef, undef, undef, undef, undef, undef, undef, undef, undef, rfl, HMZ.out⟩ (fun f act w i o hi hf hall hI KK hKK => ?_) (fun f act w hall hI => ?_)
  · obtain ⟨t23, t24, t25, t26, t27, t28, t29, t30, t9, rfl, hM⟩ := hI
    clear HMZ
    rcases i with _ | _ | _ | _ | _ | _ | _ | _ | _ | _ | i
    all_goals (simp only [List.getElem?_cons_zero, List.getElem?_cons_succ, List.getElem?_nil, Option.some.injEq, reduceCtorEq] at hi)
    all_goals (try subst hi)
    all_goals (try simp [Region.binds] at hall)
    · obtain ⟨a0, a1, a2, a3, a4, a5, a6, a7⟩ := lies_addr (HA.out.below hM.below HA.out.lt)
      rw [if_pos (c := Region.wanted _ _ = true) rfl]
      go_simp
      exact hKK _ _ ⟨_, t24, t25, t26, t27, t28, t29, t30, t9, rfl, hM.s0⟩
    · rw [if_pos (c := Region.wanted _ _ = true) rfl]
      go_simp
      exact hKK _ _ ⟨t23, _, t25, t26, t27, t28, t29, t30, t9, rfl, hM.s1 hf⟩
    · rw [if_pos (c := Region.wanted _ _ = true) rfl]
      go_simp
      exact hKK _ _ ⟨t23, t24, _, t26, t27, t28, t29, t30, t9, rfl, hM.s2⟩
    · obtain ⟨g, e1, ho⟩ := hM.r24 hall.1 hf
      have e2 := hM.e25 hall.2
      rw [if_pos (c := Region.wanted _ _ = true) rfl]
      refine wp_append_bytes2 (e1 ▸ ho) hM.below.size ((HKV.out).later hM.below) (by omega) (.tmp 24) (.tmp 25) rfl e1 e2 (fun v' w' r1 r2 r3 => ?_)
      exact hKK _ _ ⟨t23, t24, t25, _, t27, t28, t29, t30, t9, rfl, hM.s3 hf hall.1 e1 ho r1 r2 r3⟩
    · rw [if_pos (c := Region.wanted _ _ = true) rfl]
      go_simp
      exact hKK _ _ ⟨t23, t24, t25, t26, _, t28, t29, t30, t9, rfl, hM.s4 hf⟩
    · rw [if_pos (c := Region.wanted _ _ = true) rfl]
      go_simp
      exact hKK _ _ ⟨t23, t24, t25, t26, t27, _, t29, t30, t9, rfl, hM.s5⟩
    · obtain ⟨g, e1, ho⟩ := hM.r27 hall.1 hf
      have e2 := hM.e28 hall.2.1
      rw [if_pos (c := Region.wanted _ _ = true) rfl]
      refine wp_append_bytes2 (e1 ▸ ho) hM.below.size ((HVV.out).later hM.below) (by omega) (.tmp 27) (.tmp 28) rfl e1 e2 (fun v' w' r1 r2 r3 => ?_)
      exact hKK _ _ ⟨t23, t24, t25, t26, t27, t28, _, t30, t9, rfl, hM.s6 hf hall.1 e1 ho r1 r2 r3⟩
    · obtain ⟨h0, h3, h6⟩ := hall
      obtain ⟨s1, c1, e1⟩ := own_form2 (hM.r26 h3)
      obtain ⟨s2, c2, e2⟩ := own_form2 (hM.r29 h6)
      have e0 := hM.e23 h0
      rw [if_pos (c := Region.wanted _ _ = true) rfl]
      refine wp_build_en a s1 s2 _ _ c1 c2 k v (.tmp 23) (.tmp 26) (.tmp 29) rfl e0 e1 e2 ?_
      rw [← e1, ← e2]
      exact hKK _ _ ⟨t23, t24, t25, t26, t27, t28, t29, _, t9, rfl, hM.s7 h0 h3 h6⟩
    · rw [if_pos (c := Region.wanted _ _ = true) rfl]
      go_simp
      exact hKK _ _ ⟨t23, t24, t25, t26, t27, t28, t29, t30, _, rfl, hM.s8 hf rfl⟩
    · have h7 : f 7 = true := hall.2.1
      have h8 : f 8 = true := hall.1
      obtain ⟨g, C, e1, hgV, hl, hs, _⟩ := hM.r9 h8
      obtain ⟨ht, hl2, hf2⟩ := lies_store hl (En.cs ⟨a, t26, k, t29, v⟩) hs
      obtain ⟨s1, c1, e5⟩ := own_form2 (hM.r26 (hM.o7 h7).2.1)
      obtain ⟨s2, c2, e6⟩ := own_form2 (hM.r29 (hM.o7 h7).2.2)
      rw [if_pos (c := Region.wanted _ _ = true) rfl]
      refine wp_store_mid 122 (.tmp 9) (.tmp 30) rfl g 0 _ e1 (hM.e30 h7) ht sizeEn (all_oneCell_toArray (by rw [e5, e6]; exact ones_en _ _ _ _ _ _ _ _ _)) ?_
      exact hKK _ _ ⟨t23, t24, t25, t26, t27, t28, t29, t30, t9, rfl, hM.s9 h7 h8 e1 hgV hl hf2 hl2⟩
  · obtain ⟨t23, t24, t25, t26, t27, t28, t29, t30, t9, rfl, hM⟩ := hI
    have hall' : ∀ i, i < 10 → f i = true := fun i hi => hall i (by simpa using hi)
    obtain ⟨g9, C9, e9', hg9, hl9, _, hC9⟩ := hM.r9 (hall' 8 (by omega))
    obtain rfl := hC9 (hall' 9 (by omega))
    have b1 := hM.r26 (hall' 3 (by omega))
    have b2 := hM.r29 (hall' 6 (by omega))
    obtain ⟨s1, c1, e1⟩ := own_form2 b1
    obtain ⟨s2, c2, e2⟩ := own_form2 b2
    subst e1 e2 e9'
    have hB := hM.below
    clear hM hall hall' hC9 HMZ HKV HVV
    have hV1 : W1.heap.size ≤ V.heap.size := HF.out.size
    have hB1 : Bts w (fun i => own i ∧ i ≠ W.heap.size) (.slice s1 k.length c1) k := ⟨ownsRow_base b1 (Nat.zero_le _), fun g e => HO1.out g (Nat.le_trans hV1 (World.ownsRow.lt b1 g e).1)⟩
    have hB2 : Bts w (fun i => own i ∧ i ≠ W.heap.size) (.slice s2 v.length c2) v := ⟨ownsRow_base b2 (Nat.zero_le _), fun g e => HO1.out g (Nat.le_trans hV1 (World.ownsRow.lt b2 g e).1)⟩
    have HD2 := Lib.hid (HD.out.later hB)
    have HA2 := Lib.hid (HA.out.below hB HA.out.lt)
    have HK2 := Lib.hid ((byt_del HK.out hbc HF.out).later hB)
    have HF2 := Lib.hid (show Fr W w own from ((Fr.of_below HB1.out own).trans (HF.out.mono (fun i _ e => e ▸ HOB.out))).trans (Fr.of_below hB own))
    have HX1 := Lib.hid hB1
    have HX2 := Lib.hid hB2
    have HL9 := Lib.hid hl9
    have hg9w : W1.heap.size ≤ g9 := Nat.le_trans hV1 hg9
    have hwl : W1.heap.size ≤ w.heap.size := Nat.le_trans hV1 hB.size
    have hM0 : (ddel L a k).length ≤ 1000000 := by unfold ddel; exact Nat.le_trans (List.length_filter_le _ _) hN
    clear hB1 hB2 hB hl9 b1 b2 HD HA HK HV HF H1 HA1 HB1 hbc e9 hg9
    have HML := Lib.hid (show ∀ x ∈ ddel L a k, x.k.length ≤ 1000000000 from fun x hx => hKL x (List.mem_filter.1 hx).1)
    clear hKL
    generalize hMe : ddel L a k = M at *
    have HME := Lib.hid hMe
    clear hMe
    obtain ⟨sl, cl, rfl, hle, hsl⟩ := HD2.out.row.form
    have HSL := Lib.hid hsl
    clear hsl
    go_wp2_with fail
    go_loopw [10] (fun i wr => ∃ j : Nat, j ≤ M.length ∧ i = .int .i64 j ∧ (∀ q y, q < j → M[q]? = some y → Ahead y a k) ∧ Below w.heap.size w wr)
      (fun i _ => M.length - (intOf i).toNat)
    case atStart => exact ⟨0, by omega, rfl, fun _ _ h => absurd h (by omega), Below.refl _ _⟩
    case round =>
      obtain ⟨j, hj, rfl, hno, hB⟩ := hrel
      have HNO := Lib.hid hno
      have HB := Lib.hid hB
      have HD3 := Lib.hid (HD2.out.later hB)
      have HA3 := Lib.hid (HA2.out.below hB HA2.out.lt)
      have HK3 := Lib.hid (HK2.out.later hB)
      clear hno hB
      obtain ⟨c, hc⟩ : ∃ c : Bool, c = (M[j]?.map fun x => decide (Ahead x a k)).getD false := ⟨_, rfl⟩
      have HCC := Lib.hid hc
      have HJ := Lib.hid hj
      clear hc hj
      go_wp2_with fail
      refine Code.wp_mono (fun e act V (h : (fun e act V => e = .normal ∧ ∃ w31 w32 w33 w34 w35 w36 w37 w38 w39 w40 w41 w42 w43 w44 w45 w46 w47 w48 w49 w50 w51 w52 w53 w54 w55 w56 w57 w58 w59 w60 w61 w62 w63 w64 w65 w66 w67 w68 w69 w70 w71 w72 w74 w75 : Value, act = { tmps := #[(.pointer (some ⟨br, 0, none⟩)), a.v, (.slice sk0 k.length ck0), (.slice sv0 v.length cv0), undef, (.pointer (some ⟨W.heap.size, 0, none⟩)), undef, undef, (.int .i64 0), (.pointer (some ⟨g9, 0, none⟩)), (.int .i64 j), (.slice sk0 k.length ck0), (.int .i64 (k.length : Int)), (.bool (decide (64 < (k.length : Int)))), (.bool (decide (64 < (k.length : Int)))), (.slice sv0 v.length cv0), (.int .i64 (v.length : Int)), (.bool (decide (1024 < (v.length : Int)))), (.bool (decide (64 < (k.length : Int)) || decide (1024 < (v.length : Int)))), (.pointer (some ⟨br, 0, none⟩)), a.v, (.slice sk0 k.length ck0), (.bool (decide (M.length < L.length))), t23, t24, t25, (.slice s1 k.length c1), t27, t28, (.slice s2 v.length c2), t30, w31, w32, w33, w34, w35, w36, w37, w38, w39, w40, w41, w42, w43, w44, w45, w46, w47, w48, w49, w50, w51, w52, w53, w54, w55, w56, w57, w58, w59, w60, w61, w62, w63, w64, w65, w66, w67, w68, w69, w70, w71, w72, (.bool c), w74, w75, undef, undef, undef, undef, undef, undef, undef, undef, undef, undef, undef, undef, undef, undef, undef, undef, undef, undef, undef, undef, undef], defers := [] } ∧ (Dk V (fun i => own i ∧ i ≠ W.heap.size) br (.slice sl M.length cl) M ∧ Lies V W.heap.size 24 a.cs.toArray ∧ Below wr.heap.size wr V) : Exit → Act → World → Prop) e act V) => ?_) (RP.region (Q := (fun e act V => e = .normal ∧ ∃ w31 w32 w33 w34 w35 w36 w37 w38 w39 w40 w41 w42 w43 w44 w45 w46 w47 w48 w49 w50 w51 w52 w53 w54 w55 w56 w57 w58 w59 w60 w61 w62 w63 w64 w65 w66 w67 w68 w69 w70 w71 w72 w74 w75 : Value, act = { tmps := #[(.pointer (some ⟨br, 0, none⟩)), a.v, (.slice sk0 k.length ck0), (.slice sv0 v.length cv0), undef, (.pointer (some ⟨W.heap.size, 0, none⟩)), undef, undef, (.int .i64 0), (.pointer (some ⟨g9, 0, none⟩)), (.int .i64 j), (.slice sk0 k.length ck0), (.int .i64 (k.length : Int)), (.bool (decide (64 < (k.length : Int)))), (.bool (decide (64 < (k.length : Int)))), (.slice sv0 v.length cv0), (.int .i64 (v.length : Int)), (.bool (decide (1024 < (v.length : Int)))), (.bool (decide (64 < (k.length : Int)) || decide (1024 < (v.length : Int)))), (.pointer (some ⟨br, 0, none⟩)), a.v, (.slice sk0 k.length ck0), (.bool (decide (M.length < L.length))), t23, t24, t25, (.slice s1 k.length c1), t27, t28, (.slice s2 v.length c2), t30, w31, w32, w33, w34, w35, w36, w37, w38, w39, w40, w41, w42, w43, w44, w45, w46, w47, w48, w49, w50, w51, w52, w53, w54, w55, w56, w57, w58, w59, w60, w61, w62, w63, w64, w65, w66, w67, w68, w69, w70, w71, w72, (.bool c), w74, w75, undef, undef, undef, undef, undef, undef, undef, undef, undef, undef, undef, undef, undef, undef, undef, undef, undef, undef, undef, undef, undef], defers := [] } ∧ (Dk V (fun i => own i ∧ i ≠ W.heap.size) br (.slice sl M.length cl) M ∧ Lies V W.heap.size 24 a.cs.toArray ∧ Below wr.heap.size wr V) : Exit → Act → World → Prop)) (RP.take 0 (RP.take 1 (RP.take 2 (RP.take 3 (RP.take 4 (RP.take 5 (RP.take 6 (RP.take 7 (RP.take 8 (RP.take 9 (RP.take 10 (RP.take 11 (RP.take 12 (RP.take 13 (RP.take 14 (RP.take 15 (RP.take 16 (RP.run 17 (RP.take 18 (RP.take 19 (RP.take 20 (RP.take 21 (RP.take 22 (RP.take 23 (RP.take 24 (RP.take 25 (RP.take 26 (RP.take 27 (RP.take 28 (RP.take 29 (RP.take 30 (RP.take 31 (RP.take 32 (RP.take 33 (RP.take 34 (RP.take 35 (RP.take 36 (RP.take 37 (RP.take 38 (RP.run 39 (RP.take 40 (RP.take 41 (RP.take 42 RP.done))))))))))))))))))))))))))))))))))))))))))) (fun V => Dk V (fun i => own i ∧ i ≠ W.heap.size) br (.slice sl M.length cl) M ∧ Lies V W.heap.size 24 a.cs.toArray ∧ Below wr.heap.size wr V) (by as_aux_lemma => kernel_rfl) (by as_aux_lemma => kernel_rfl) (fun _ _ _ _ _ h => by cases h.1) ⟨HD3.out.drew, HA3.out.drew, (Below.refl _ _).drew⟩ (fun hS => ?_))
      · obtain ⟨rfl, w31, w32, w33, w34, w35, w36, w37, w38, w39, w40, w41, w42, w43, w44, w45, w46, w47, w48, w49, w50, w51, w52, w53, w54, w55, w56, w57, w58, w59, w60, w61, w62, w63, w64, w65, w66, w67, w68, w69, w70, w71, w72, w74, w75, rfl, hS⟩ := h
        have HB4 := Lib.hid (HB.out.trans (hS.2.2.mono HB.out.size))
        have HS4 := Lib.hid hS
        clear hS
        cases c with
        | true =>
          as_aux_lemma =>
            have hjx : ∃ x, M[j]? = some x ∧ Ahead x a k := by
              have h0 := HCC.out
              cases hx : M[j]? with
              | none => rw [hx] at h0; cases h0
              | some x => rw [hx] at h0; exact ⟨x, rfl, of_decide_eq_true h0.symm⟩
            obtain ⟨x, hx, hax⟩ := hjx
            have hjl : j < M.length := (List.getElem?_eq_some_iff.1 hx).1
            have HNO2 := Lib.hid (show ∀ q y, q < j + 1 → M[q]? = some y → Ahead y a k from fun q y hq hy => by
              rcases Nat.lt_or_ge q j with h1 | h1
              · exact HNO.out q y h1 hy
              · obtain rfl : q = j := by omega
                rw [hx] at hy; injection hy with hy; exact hy ▸ hax)
            clear hx hax HNO HCC
            go_wp2_with fail
            go_roundw
            case rel => exact ⟨j + 1, by omega, by go_num, HNO2.out, HB4.out⟩
            case measure => simp [intOf]; omega
        | false =>
          have HAT := Lib.hid (show dat M a k = j from dat_at HJ.out HNO.out HCC.out)
          clear HNO HCC
          go_wp2_with fail
          have hBV := HB4.out
          have HL8 := Lib.hid (HL9.out.below hBV HL9.out.lt)
          clear hBV
          obtain ⟨hg1, hg2, hg3⟩ := HS4.out
          rcases hg1.row.2 with ⟨e, h0⟩ | ⟨g, cap, cur, e, _⟩
          · injection e with e4 e5 e6
            subst e4 e6
            have HS5 := HS4
            clear hg1 hg2 hg3
            have hj := HJ.out
            refine region_inv (fun f act w' => ∃ tv : Nat → Value, act = { tmps := #[(.pointer (some ⟨br, 0, none⟩)), a.v, (.slice sk0 k.length ck0), (.slice sv0 v.length cv0), undef, (.pointer (some ⟨W.heap.size, 0, none⟩)), undef, undef, (.int .i64 0), (.pointer (some ⟨g9, 0, none⟩)), (.int .i64 j), (.slice sk0 k.length ck0), (.int .i64 (k.length : Int)), (.bool (decide (64 < (k.length : Int)))), (.bool (decide (64 < (k.length : Int)))), (.slice sv0 v.length cv0), (.int .i64 (v.length : Int)), (.bool (decide (1024 < (v.length : Int)))), (.bool (decide (64 < (k.length : Int)) || decide (1024 < (v.length : Int)))), (.pointer (some ⟨br, 0, none⟩)), a.v, (.slice sk0 k.length ck0), (.bool (decide (M.length < L.length))), t23, t24, t25, (.slice s1 k.length c1), t27, t28, (.slice s2 v.length c2), t30, w31, w32, w33, w34, w35, w36, w37, w38, w39, w40, w41, w42, w43, w44, w45, w46, w47, w48, w49, w50, w51, w52, w53, w54, w55, w56, w57, w58, w59, w60, w61, w62, w63, w64, w65, w66, w67, w68, w69, w70, w71, w72, (.bool false), w74, w75, (tv 0), (tv 1), (tv 2), (tv 3), (tv 4), (tv 5), (tv 6), (tv 7), (tv 8), (tv 9), (tv 10), (tv 11), (tv 12), (tv 13), (tv 14), (tv 15), (tv 16), (tv 17), (tv 18), (tv 19), (tv 20)], defers := [] } ∧ Pk V (fun i => match i with | 0 => some (.pointer (some ⟨br, 0, none⟩)) | 2 => some (.pointer (some ⟨br, 0, none⟩)) | 3 => some (.pointer (some ⟨br, 0, none⟩)) | 4 => some (.pointer (some ⟨br, 0, none⟩)) | 5 => some (.slice none M.length 0) | 6 => some (.int .i64 (j : Int)) | 7 => some (.slice none j 0) | 9 => some (.agg (⟨a, .slice s1 k.length c1, k, .slice s2 v.length c2, v⟩ : En).cs.toArray) | 12 => some (.pointer (some ⟨br, 0, none⟩)) | 13 => some (.pointer (some ⟨br, 0, none⟩)) | 14 => some (.pointer (some ⟨br, 0, none⟩)) | 15 => some (.slice none M.length 0) | 16 => some (.int .i64 (j : Int)) | 17 => some (.slice none 0 0) | 19 => some (.pointer (some ⟨br, 0, none⟩)) | 20 => some (.pointer (some ⟨br, 0, none⟩)) | _ => none) j M (⟨a, .slice s1 k.length c1, k, .slice s2 v.length c2, v⟩ : En) br f tv w') rfl (by kernel_rfl) ⟨fun _ => undef, rfl, Pk.zero _ _ _ _ _ _ _ (Below.refl V.heap.size V).drew⟩ (fun f act w' i o hi hf hall hI KK hKK => ?_) (fun f act w' hall hI => ?_)
            · obtain ⟨tv, rfl, hP⟩ := hI
              rcases i with _ | _ | _ | _ | _ | _ | _ | _ | _ | _ | _ | _ | _ | _ | _ | _ | _ | _ | _ | _ | _ | _ | i
              all_goals (simp only [List.getElem?_cons_zero, List.getElem?_cons_succ, List.getElem?_nil, Option.some.injEq, reduceCtorEq] at hi)
              all_goals (try subst hi)
              all_goals (try simp [Region.binds] at hall)
              all_goals (try rw [if_pos (c := Region.wanted _ _ = true) rfl])
              · refine wp_exec (v := (.pointer (some ⟨br, 0, none⟩))) (w' := w') ?_ (hKK _ _ ⟨upd tv 0 _, rfl, hP.simple rfl (by decide) (by decide) (by decide) (by decide) (by decide) (by decide)⟩)
                go_simp
                (try go_bits)
                (try (with_reducible rfl))
              · exact wp_bslice_en0 rfl (hKK _ _ ⟨upd tv 1 _, rfl, hP.c1 hf rfl⟩)
              · refine wp_exec (v := (.pointer (some ⟨br, 0, none⟩))) (w' := w') ?_ (hKK _ _ ⟨upd tv 2 _, rfl, hP.simple rfl (by decide) (by decide) (by decide) (by decide) (by decide) (by decide)⟩)
                go_simp
                (try go_bits)
                (try (with_reducible rfl))
              · have q2 : tv 2 = (.pointer (some ⟨br, 0, none⟩)) := hP.sim 2 _ (by simp_all) rfl
                refine wp_exec (v := (.pointer (some ⟨br, 0, none⟩))) (w' := w') ?_ (hKK _ _ ⟨upd tv 3 _, rfl, hP.simple rfl (by decide) (by decide) (by decide) (by decide) (by decide) (by decide)⟩)
                rw [q2]
                go_simp
                (try go_bits)
                (try (with_reducible rfl))
              · have q3 : tv 3 = (.pointer (some ⟨br, 0, none⟩)) := hP.sim 3 _ (by simp_all) rfl
                refine wp_exec (v := (.pointer (some ⟨br, 0, none⟩))) (w' := w') ?_ (hKK _ _ ⟨upd tv 4 _, rfl, hP.simple rfl (by decide) (by decide) (by decide) (by decide) (by decide) (by decide)⟩)
                rw [q3]
                go_simp
                (try go_bits)
                (try (with_reducible rfl))
              · have q4 : tv 4 = (.pointer (some ⟨br, 0, none⟩)) := hP.sim 4 _ (by simp_all) rfl
                have hBw : Below V.heap.size V w' := hP.low (off_of (fun e => hP.al e _ (by decide)) hf)
                have hc0 := (HS5.out.1.later hBw).cell.cell 0
                simp only [List.getElem?_toArray, List.getElem?_cons_zero] at hc0
                refine wp_exec (v := (.slice none M.length 0)) (w' := w') ?_ (hKK _ _ ⟨upd tv 5 _, rfl, hP.simple rfl (by decide) (by decide) (by decide) (by decide) (by decide) (by decide)⟩)
                rw [q4]
                go_simp
                (try go_bits)
                (try (with_reducible rfl))
              · refine wp_exec (v := (.int .i64 (j : Int))) (w' := w') ?_ (hKK _ _ ⟨upd tv 6 _, rfl, hP.simple rfl (by decide) (by decide) (by decide) (by decide) (by decide) (by decide)⟩)
                go_simp
                (try go_bits)
                (try (with_reducible rfl))
              · have q5 : tv 5 = (.slice none M.length 0) := hP.sim 5 _ (by simp_all) rfl
                have q6 : tv 6 = (.int .i64 (j : Int)) := hP.sim 6 _ (by simp_all) rfl
                refine wp_exec (v := (.slice none j 0)) (w' := w') ?_ (hKK _ _ ⟨upd tv 7 _, rfl, hP.simple rfl (by decide) (by decide) (by decide) (by decide) (by decide) (by decide)⟩)
                rw [q5, q6]
                go_simp
                (try go_bits)
                (try (with_reducible rfl))
                (try (intro hlt; exact absurd hlt (by omega)))
              · obtain ⟨g1, e1, r1, _⟩ := hP.r1 (by simp_all) hf
                have q7 : tv 7 = (.slice none j 0) := hP.sim 7 _ (by simp_all) rfl
                have hBw : Below V.heap.size V w' := hP.low (off_of (fun e => hP.al e _ (by decide)) hf)
                refine wp_append_ens r1 hBw.size (by omega) (M.take j) (m := j) (by first | (simp; done) | (simp; omega)) (by omega) (fun u hu => ones_row HS5.out.1.bts u (flat_mem (List.take_subset j M) hu)) (fun hne => absurd (List.eq_nil_of_length_eq_zero (by simp; omega)) hne) (.tmp 77) (.tmp 83) rfl rfl q7 (fun v' U hr hg => ?_)
                exact hKK _ _ ⟨upd tv 8 _, rfl, hP.c8 hf rfl (by simp_all) e1 (by simpa using hr) (by rw [e1] at hg; exact hg)⟩
              · have hBw : Below V.heap.size V w' := hP.low (off_of (fun e => hP.al e _ (by decide)) hf)
                refine wp_exec (exec_loadEn (⟨a, .slice s1 k.length c1, k, .slice s2 v.length c2, v⟩ : En) _ _ (lies_range ((HL8.out.below hBw HL8.out.lt))) _ rfl rfl) (hKK _ _ ⟨upd tv 9 _, rfl, hP.simple rfl (by decide) (by decide) (by decide) (by decide) (by decide) (by decide)⟩)
              · have q9 : tv 9 = (.agg (⟨a, .slice s1 k.length c1, k, .slice s2 v.length c2, v⟩ : En).cs.toArray) := hP.sim 9 _ (by simp_all) rfl
                exact wp_bslice_en a s1 s2 _ _ c1 c2 k v (.tmp 85) rfl q9 (hKK _ _ ⟨upd tv 10 _, rfl, hP.c10 hf rfl⟩)
              · obtain ⟨xb, e1, hlx⟩ := hP.r10 (by simp_all) hf
                have r8 := hP.r8 (by simp_all) hf
                have hBw : Below V.heap.size V w' := hP.low (off_of (fun e => hP.al e _ (by decide)) hf)
                refine wp_append_ens r8 hBw.size (by omega) [(⟨a, .slice s1 k.length c1, k, .slice s2 v.length c2, v⟩ : En)] (m := 1) rfl (by omega) (fun u hu => ones_en a s1 s2 _ _ c1 c2 k v u (by simpa using hu)) (src_new hlx) (.tmp 84) (.tmp 86) rfl rfl e1 (fun v' U hr hg => ?_)
                exact hKK _ _ ⟨upd tv 11 _, rfl, hP.c11 hf rfl (by simp_all) (by simp_all) hr hg⟩
              · refine wp_exec (v := (.pointer (some ⟨br, 0, none⟩))) (w' := w') ?_ (hKK _ _ ⟨upd tv 12 _, rfl, hP.simple rfl (by decide) (by decide) (by decide) (by decide) (by decide) (by decide)⟩)
                go_simp
                (try go_bits)
                (try (with_reducible rfl))
              · have q12 : tv 12 = (.pointer (some ⟨br, 0, none⟩)) := hP.sim 12 _ (by simp_all) rfl
                refine wp_exec (v := (.pointer (some ⟨br, 0, none⟩))) (w' := w') ?_ (hKK _ _ ⟨upd tv 13 _, rfl, hP.simple rfl (by decide) (by decide) (by decide) (by decide) (by decide) (by decide)⟩)
                rw [q12]
                go_simp
                (try go_bits)
                (try (with_reducible rfl))
              · have q13 : tv 13 = (.pointer (some ⟨br, 0, none⟩)) := hP.sim 13 _ (by simp_all) rfl
                refine wp_exec (v := (.pointer (some ⟨br, 0, none⟩))) (w' := w') ?_ (hKK _ _ ⟨upd tv 14 _, rfl, hP.simple rfl (by decide) (by decide) (by decide) (by decide) (by decide) (by decide)⟩)
                rw [q13]
                go_simp
                (try go_bits)
                (try (with_reducible rfl))
              · have q14 : tv 14 = (.pointer (some ⟨br, 0, none⟩)) := hP.sim 14 _ (by simp_all) rfl
                have hBw : Below V.heap.size V w' := hP.low (off_of (fun e => hP.al e _ (by decide)) hf)
                have hc0 := (HS5.out.1.later hBw).cell.cell 0
                simp only [List.getElem?_toArray, List.getElem?_cons_zero] at hc0
                refine wp_exec (v := (.slice none M.length 0)) (w' := w') ?_ (hKK _ _ ⟨upd tv 15 _, rfl, hP.simple rfl (by decide) (by decide) (by decide) (by decide) (by decide) (by decide)⟩)
                rw [q14]
                go_simp
                (try go_bits)
                (try (with_reducible rfl))
              · refine wp_exec (v := (.int .i64 (j : Int))) (w' := w') ?_ (hKK _ _ ⟨upd tv 16 _, rfl, hP.simple rfl (by decide) (by decide) (by decide) (by decide) (by decide) (by decide)⟩)
                go_simp
                (try go_bits)
                (try (with_reducible rfl))
              · have q15 : tv 15 = (.slice none M.length 0) := hP.sim 15 _ (by simp_all) rfl
                have q16 : tv 16 = (.int .i64 (j : Int)) := hP.sim 16 _ (by simp_all) rfl
                refine wp_exec (v := (.slice none 0 0)) (w' := w') ?_ (hKK _ _ ⟨upd tv 17 _, rfl, hP.simple rfl (by decide) (by decide) (by decide) (by decide) (by decide) (by decide)⟩)
                rw [q15, q16]
                go_simp
                (try go_bits)
                (try (with_reducible rfl))
                have hj0 : j = 0 := by omega
                (try rw [if_pos hj0])
                (try (intro hne; exact absurd hj0 hne))
              · have r11 := hP.r11 (by simp_all) hf
                have q17 : tv 17 = (.slice none 0 0) := hP.sim 17 _ (by simp_all) rfl
                have hBw : Below V.heap.size V w' := hP.low (off_of (fun e => hP.al e _ (by decide)) hf)
                refine wp_append_ens r11 hBw.size (by omega) (M.drop j) (m := 0) (by first | (simp; done) | (simp; omega)) (by omega) (fun u hu => ones_row HS5.out.1.bts u (flat_mem (List.drop_subset j M) hu)) (fun hne => absurd (List.eq_nil_of_length_eq_zero (by simp; omega)) hne) (.tmp 87) (.tmp 93) rfl rfl q17 (fun v' U hr hg => ?_)
                exact hKK _ _ ⟨upd tv 18 _, rfl, hP.c18 hf rfl (by simp_all) (by rw [show M.length - j = 0 by omega]; exact hr) hg⟩
              · have q0 : tv 0 = (.pointer (some ⟨br, 0, none⟩)) := hP.sim 0 _ (by simp_all) rfl
                refine wp_exec (v := (.pointer (some ⟨br, 0, none⟩))) (w' := w') ?_ (hKK _ _ ⟨upd tv 19 _, rfl, hP.simple rfl (by decide) (by decide) (by decide) (by decide) (by decide) (by decide)⟩)
                rw [q0]
                go_simp
                (try go_bits)
                (try (with_reducible rfl))
              · have q19 : tv 19 = (.pointer (some ⟨br, 0, none⟩)) := hP.sim 19 _ (by simp_all) rfl
                refine wp_exec (v := (.pointer (some ⟨br, 0, none⟩))) (w' := w') ?_ (hKK _ _ ⟨upd tv 20 _, rfl, hP.simple rfl (by decide) (by decide) (by decide) (by decide) (by decide) (by decide)⟩)
                rw [q19]
                go_simp
                (try go_bits)
                (try (with_reducible rfl))
              · have hA : ∀ i, i < 19 → f i = true := fun i hi => by
                  rcases i with _ | _ | _ | _ | _ | _ | _ | _ | _ | _ | _ | _ | _ | _ | _ | _ | _ | _ | _ | _ | _ | i <;> first | (simp_all; done) | (exfalso; omega)
                have q20 : tv 20 = (.pointer (some ⟨br, 0, none⟩)) := hP.sim 20 _ (by simp_all) rfl
                have hBw : Below V.heap.size V w' := hP.low hf
                obtain ⟨s, c, e18⟩ := own_form2 (hP.r18 (by simp_all) hf)
                refine wp_store_sl (HS5.out.1.later hBw).cell (.tmp 96) (.tmp 94) rfl q20 e18 ?_
                rw [← e18]
                exact hKK _ _ ⟨tv, rfl, hP.c21 hf rfl (by simp_all) hA⟩
            · obtain ⟨tv, rfl, hP⟩ := hI
              obtain ⟨U, vn', hBU, hrU, rfl⟩ := hP.fin (hall 21 (by simp))
              go_wp2_with fail
              go_ret
              have hq0 : dins M (⟨a, .slice s1 k.length c1, k, .slice s2 v.length c2, v⟩ : En) = M.take j ++ (⟨a, .slice s1 k.length c1, k, .slice s2 v.length c2, v⟩ : En) :: M.drop j := by unfold dins; rw [show dat M ((⟨a, .slice s1 k.length c1, k, .slice s2 v.length c2, v⟩ : En)).a ((⟨a, .slice s1 k.length c1, k, .slice s2 v.length c2, v⟩ : En)).k = j from HAT.out]
              have hWV : W.heap.size ≤ V.heap.size := by have := HB4.out.size; omega
              have hBwU : Below w.heap.size w U := HB4.out.trans (hBU.mono HB4.out.size)
              have hDU := (HS5.out.1.later hBU).mono (own' := own) (fun _ _ h => h.1)
              have k1 := (HX1.out.kept (m := fun _ => False) (Fr.of_below hBwU _) (fun _ _ h => h)).mono (own' := own) (fun _ _ h => h.1)
              have k2 := (HX2.out.kept (m := fun _ => False) (Fr.of_below hBwU _) (fun _ _ h => h)).mono (own' := own) (fun _ _ h => h.1)
              have hlen : (dins M (⟨a, .slice s1 k.length c1, k, .slice s2 v.length c2, v⟩ : En)).length = j + 1 + (M.length - j) := by rw [hq0]; simp; omega
              have hfl : (dins M (⟨a, .slice s1 k.length c1, k, .slice s2 v.length c2, v⟩ : En)).flatMap En.cs = ((M.take j).flatMap En.cs ++ [(⟨a, .slice s1 k.length c1, k, .slice s2 v.length c2, v⟩ : En)].flatMap En.cs) ++ (M.drop j).flatMap En.cs := by rw [hq0]; simp [List.flatMap_append]
              rw [← hlen, ← hfl] at hrU
              refine ⟨vn', (⟨a, .slice s1 k.length c1, k, .slice s2 v.length c2, v⟩ : En), rfl, rfl, rfl, rfl, ?_, ?_⟩
              · rw [HME.out]
                refine Dk.stored hDU (WRow.of_own hrU (fun q hq => HO.out q (by omega))) (fun y hy => ?_)
                rw [hq0] at hy
                rcases List.mem_append.1 hy with hy | hy
                · exact hDU.bts y (List.mem_of_mem_take hy)
                · rcases List.mem_cons.1 hy with rfl | hy
                  · exact ⟨k1, k2⟩
                  · exact hDU.bts y (List.mem_of_mem_drop hy)
              · exact (HF2.out.trans (Fr.of_below hBwU own)).trans ((Fr.setCell U _ _).mono (fun i _ e => e ▸ HOB.out))
          · injection e with e4 e5 e6
            subst e4 e6
            have HS5 := HS4
            clear hg1 hg2 hg3
            have hj := HJ.out
            refine region_inv (fun f act w' => ∃ tv : Nat → Value, act = { tmps := #[(.pointer (some ⟨br, 0, none⟩)), a.v, (.slice sk0 k.length ck0), (.slice sv0 v.length cv0), undef, (.pointer (some ⟨W.heap.size, 0, none⟩)), undef, undef, (.int .i64 0), (.pointer (some ⟨g9, 0, none⟩)), (.int .i64 j), (.slice sk0 k.length ck0), (.int .i64 (k.length : Int)), (.bool (decide (64 < (k.length : Int)))), (.bool (decide (64 < (k.length : Int)))), (.slice sv0 v.length cv0), (.int .i64 (v.length : Int)), (.bool (decide (1024 < (v.length : Int)))), (.bool (decide (64 < (k.length : Int)) || decide (1024 < (v.length : Int)))), (.pointer (some ⟨br, 0, none⟩)), a.v, (.slice sk0 k.length ck0), (.bool (decide (M.length < L.length))), t23, t24, t25, (.slice s1 k.length c1), t27, t28, (.slice s2 v.length c2), t30, w31, w32, w33, w34, w35, w36, w37, w38, w39, w40, w41, w42, w43, w44, w45, w46, w47, w48, w49, w50, w51, w52, w53, w54, w55, w56, w57, w58, w59, w60, w61, w62, w63, w64, w65, w66, w67, w68, w69, w70, w71, w72, (.bool false), w74, w75, (tv 0), (tv 1), (tv 2), (tv 3), (tv 4), (tv 5), (tv 6), (tv 7), (tv 8), (tv 9), (tv 10), (tv 11), (tv 12), (tv 13), (tv 14), (tv 15), (tv 16), (tv 17), (tv 18), (tv 19), (tv 20)], defers := [] } ∧ Pk V (fun i => match i with | 0 => some (.pointer (some ⟨br, 0, none⟩)) | 2 => some (.pointer (some ⟨br, 0, none⟩)) | 3 => some (.pointer (some ⟨br, 0, none⟩)) | 4 => some (.pointer (some ⟨br, 0, none⟩)) | 5 => some (.slice (some ⟨g, 0, none⟩) M.length cl) | 6 => some (.int .i64 (j : Int)) | 7 => some (.slice (some ⟨g, 0, none⟩) j cl) | 9 => some (.agg (⟨a, .slice s1 k.length c1, k, .slice s2 v.length c2, v⟩ : En).cs.toArray) | 12 => some (.pointer (some ⟨br, 0, none⟩)) | 13 => some (.pointer (some ⟨br, 0, none⟩)) | 14 => some (.pointer (some ⟨br, 0, none⟩)) | 15 => some (.slice (some ⟨g, 0, none⟩) M.length cl) | 16 => some (.int .i64 (j : Int)) | 17 => some (.slice (if cl = j then some ⟨g, 0, none⟩ else some ⟨g, j * 10, none⟩) (M.length - j) (cl - j)) | 19 => some (.pointer (some ⟨br, 0, none⟩)) | 20 => some (.pointer (some ⟨br, 0, none⟩)) | _ => none) j M (⟨a, .slice s1 k.length c1, k, .slice s2 v.length c2, v⟩ : En) br f tv w') rfl (by kernel_rfl) ⟨fun _ => undef, rfl, Pk.zero _ _ _ _ _ _ _ (Below.refl V.heap.size V).drew⟩ (fun f act w' i o hi hf hall hI KK hKK => ?_) (fun f act w' hall hI => ?_)
            · obtain ⟨tv, rfl, hP⟩ := hI
              rcases i with _ | _ | _ | _ | _ | _ | _ | _ | _ | _ | _ | _ | _ | _ | _ | _ | _ | _ | _ | _ | _ | _ | i
              all_goals (simp only [List.getElem?_cons_zero, List.getElem?_cons_succ, List.getElem?_nil, Option.some.injEq, reduceCtorEq] at hi)
              all_goals (try subst hi)
              all_goals (try simp [Region.binds] at hall)
              all_goals (try rw [if_pos (c := Region.wanted _ _ = true) rfl])
              · refine wp_exec (v := (.pointer (some ⟨br, 0, none⟩))) (w' := w') ?_ (hKK _ _ ⟨upd tv 0 _, rfl, hP.simple rfl (by decide) (by decide) (by decide) (by decide) (by decide) (by decide)⟩)
                go_simp
                (try go_bits)
                (try (with_reducible rfl))
              · exact wp_bslice_en0 rfl (hKK _ _ ⟨upd tv 1 _, rfl, hP.c1 hf rfl⟩)
              · refine wp_exec (v := (.pointer (some ⟨br, 0, none⟩))) (w' := w') ?_ (hKK _ _ ⟨upd tv 2 _, rfl, hP.simple rfl (by decide) (by decide) (by decide) (by decide) (by decide) (by decide)⟩)
                go_simp
                (try go_bits)
                (try (with_reducible rfl))
              · have q2 : tv 2 = (.pointer (some ⟨br, 0, none⟩)) := hP.sim 2 _ (by simp_all) rfl
                refine wp_exec (v := (.pointer (some ⟨br, 0, none⟩))) (w' := w') ?_ (hKK _ _ ⟨upd tv 3 _, rfl, hP.simple rfl (by decide) (by decide) (by decide) (by decide) (by decide) (by decide)⟩)
                rw [q2]
                go_simp
                (try go_bits)
                (try (with_reducible rfl))
              · have q3 : tv 3 = (.pointer (some ⟨br, 0, none⟩)) := hP.sim 3 _ (by simp_all) rfl
                refine wp_exec (v := (.pointer (some ⟨br, 0, none⟩))) (w' := w') ?_ (hKK _ _ ⟨upd tv 4 _, rfl, hP.simple rfl (by decide) (by decide) (by decide) (by decide) (by decide) (by decide)⟩)
                rw [q3]
                go_simp
                (try go_bits)
                (try (with_reducible rfl))
              · have q4 : tv 4 = (.pointer (some ⟨br, 0, none⟩)) := hP.sim 4 _ (by simp_all) rfl
                have hBw : Below V.heap.size V w' := hP.low (off_of (fun e => hP.al e _ (by decide)) hf)
                have hc0 := (HS5.out.1.later hBw).cell.cell 0
                simp only [List.getElem?_toArray, List.getElem?_cons_zero] at hc0
                refine wp_exec (v := (.slice (some ⟨g, 0, none⟩) M.length cl)) (w' := w') ?_ (hKK _ _ ⟨upd tv 5 _, rfl, hP.simple rfl (by decide) (by decide) (by decide) (by decide) (by decide) (by decide)⟩)
                rw [q4]
                go_simp
                (try go_bits)
                (try (with_reducible rfl))
              · refine wp_exec (v := (.int .i64 (j : Int))) (w' := w') ?_ (hKK _ _ ⟨upd tv 6 _, rfl, hP.simple rfl (by decide) (by decide) (by decide) (by decide) (by decide) (by decide)⟩)
                go_simp
                (try go_bits)
                (try (with_reducible rfl))
              · have q5 : tv 5 = (.slice (some ⟨g, 0, none⟩) M.length cl) := hP.sim 5 _ (by simp_all) rfl
                have q6 : tv 6 = (.int .i64 (j : Int)) := hP.sim 6 _ (by simp_all) rfl
                refine wp_exec (v := (.slice (some ⟨g, 0, none⟩) j cl)) (w' := w') ?_ (hKK _ _ ⟨upd tv 7 _, rfl, hP.simple rfl (by decide) (by decide) (by decide) (by decide) (by decide) (by decide)⟩)
                rw [q5, q6]
                go_simp
                (try go_bits)
                (try (with_reducible rfl))
                (try (intro hlt; exact absurd hlt (by omega)))
              · obtain ⟨g1, e1, r1, _⟩ := hP.r1 (by simp_all) hf
                have q7 : tv 7 = (.slice (some ⟨g, 0, none⟩) j cl) := hP.sim 7 _ (by simp_all) rfl
                have hBw : Below V.heap.size V w' := hP.low (off_of (fun e => hP.al e _ (by decide)) hf)
                refine wp_append_ens r1 hBw.size (by omega) (M.take j) (m := j) (by first | (simp; done) | (simp; omega)) (by omega) (fun u hu => ones_row HS5.out.1.bts u (flat_mem (List.take_subset j M) hu)) (src_take (HS5.out.1.later hBw).row j) (.tmp 77) (.tmp 83) rfl rfl q7 (fun v' U hr hg => ?_)
                exact hKK _ _ ⟨upd tv 8 _, rfl, hP.c8 hf rfl (by simp_all) e1 (by simpa using hr) (by rw [e1] at hg; exact hg)⟩
              · have hBw : Below V.heap.size V w' := hP.low (off_of (fun e => hP.al e _ (by decide)) hf)
                refine wp_exec (exec_loadEn (⟨a, .slice s1 k.length c1, k, .slice s2 v.length c2, v⟩ : En) _ _ (lies_range ((HL8.out.below hBw HL8.out.lt))) _ rfl rfl) (hKK _ _ ⟨upd tv 9 _, rfl, hP.simple rfl (by decide) (by decide) (by decide) (by decide) (by decide) (by decide)⟩)
              · have q9 : tv 9 = (.agg (⟨a, .slice s1 k.length c1, k, .slice s2 v.length c2, v⟩ : En).cs.toArray) := hP.sim 9 _ (by simp_all) rfl
                exact wp_bslice_en a s1 s2 _ _ c1 c2 k v (.tmp 85) rfl q9 (hKK _ _ ⟨upd tv 10 _, rfl, hP.c10 hf rfl⟩)
              · obtain ⟨xb, e1, hlx⟩ := hP.r10 (by simp_all) hf
                have r8 := hP.r8 (by simp_all) hf
                have hBw : Below V.heap.size V w' := hP.low (off_of (fun e => hP.al e _ (by decide)) hf)
                refine wp_append_ens r8 hBw.size (by omega) [(⟨a, .slice s1 k.length c1, k, .slice s2 v.length c2, v⟩ : En)] (m := 1) rfl (by omega) (fun u hu => ones_en a s1 s2 _ _ c1 c2 k v u (by simpa using hu)) (src_new hlx) (.tmp 84) (.tmp 86) rfl rfl e1 (fun v' U hr hg => ?_)
                exact hKK _ _ ⟨upd tv 11 _, rfl, hP.c11 hf rfl (by simp_all) (by simp_all) hr hg⟩
              · refine wp_exec (v := (.pointer (some ⟨br, 0, none⟩))) (w' := w') ?_ (hKK _ _ ⟨upd tv 12 _, rfl, hP.simple rfl (by decide) (by decide) (by decide) (by decide) (by decide) (by decide)⟩)
                go_simp
                (try go_bits)
                (try (with_reducible rfl))
              · have q12 : tv 12 = (.pointer (some ⟨br, 0, none⟩)) := hP.sim 12 _ (by simp_all) rfl
                refine wp_exec (v := (.pointer (some ⟨br, 0, none⟩))) (w' := w') ?_ (hKK _ _ ⟨upd tv 13 _, rfl, hP.simple rfl (by decide) (by decide) (by decide) (by decide) (by decide) (by decide)⟩)
                rw [q12]
                go_simp
                (try go_bits)
                (try (with_reducible rfl))
              · have q13 : tv 13 = (.pointer (some ⟨br, 0, none⟩)) := hP.sim 13 _ (by simp_all) rfl
                refine wp_exec (v := (.pointer (some ⟨br, 0, none⟩))) (w' := w') ?_ (hKK _ _ ⟨upd tv 14 _, rfl, hP.simple rfl (by decide) (by decide) (by decide) (by decide) (by decide) (by decide)⟩)
                rw [q13]
                go_simp
                (try go_bits)
                (try (with_reducible rfl))
              · have q14 : tv 14 = (.pointer (some ⟨br, 0, none⟩)) := hP.sim 14 _ (by simp_all) rfl
                have hBw : Below V.heap.size V w' := hP.low (off_of (fun e => hP.al e _ (by decide)) hf)
                have hc0 := (HS5.out.1.later hBw).cell.cell 0
                simp only [List.getElem?_toArray, List.getElem?_cons_zero] at hc0
                refine wp_exec (v := (.slice (some ⟨g, 0, none⟩) M.length cl)) (w' := w') ?_ (hKK _ _ ⟨upd tv 15 _, rfl, hP.simple rfl (by decide) (by decide) (by decide) (by decide) (by decide) (by decide)⟩)
                rw [q14]
                go_simp
                (try go_bits)
                (try (with_reducible rfl))
              · refine wp_exec (v := (.int .i64 (j : Int))) (w' := w') ?_ (hKK _ _ ⟨upd tv 16 _, rfl, hP.simple rfl (by decide) (by decide) (by decide) (by decide) (by decide) (by decide)⟩)
                go_simp
                (try go_bits)
                (try (with_reducible rfl))
              · have q15 : tv 15 = (.slice (some ⟨g, 0, none⟩) M.length cl) := hP.sim 15 _ (by simp_all) rfl
                have q16 : tv 16 = (.int .i64 (j : Int)) := hP.sim 16 _ (by simp_all) rfl
                refine wp_exec (v := (.slice (if cl = j then some ⟨g, 0, none⟩ else some ⟨g, j * 10, none⟩) (M.length - j) (cl - j))) (w' := w') ?_ (hKK _ _ ⟨upd tv 17 _, rfl, hP.simple rfl (by decide) (by decide) (by decide) (by decide) (by decide) (by decide)⟩)
                rw [q15, q16]
                go_simp
                (try go_bits)
                (try (with_reducible rfl))
              · have r11 := hP.r11 (by simp_all) hf
                have q17 : tv 17 = (.slice (if cl = j then some ⟨g, 0, none⟩ else some ⟨g, j * 10, none⟩) (M.length - j) (cl - j)) := hP.sim 17 _ (by simp_all) rfl
                have hBw : Below V.heap.size V w' := hP.low (off_of (fun e => hP.al e _ (by decide)) hf)
                refine wp_append_ens r11 hBw.size (by omega) (M.drop j) (m := (M.length - j)) (by first | (simp; done) | (simp; omega)) (by omega) (fun u hu => ones_row HS5.out.1.bts u (flat_mem (List.drop_subset j M) hu)) (src_drop2 (HS5.out.1.later hBw).row HJ.out) (.tmp 87) (.tmp 93) rfl rfl q17 (fun v' U hr hg => ?_)
                exact hKK _ _ ⟨upd tv 18 _, rfl, hP.c18 hf rfl (by simp_all) (hr) hg⟩
              · have q0 : tv 0 = (.pointer (some ⟨br, 0, none⟩)) := hP.sim 0 _ (by simp_all) rfl
                refine wp_exec (v := (.pointer (some ⟨br, 0, none⟩))) (w' := w') ?_ (hKK _ _ ⟨upd tv 19 _, rfl, hP.simple rfl (by decide) (by decide) (by decide) (by decide) (by decide) (by decide)⟩)
                rw [q0]
                go_simp
                (try go_bits)
                (try (with_reducible rfl))
              · have q19 : tv 19 = (.pointer (some ⟨br, 0, none⟩)) := hP.sim 19 _ (by simp_all) rfl
                refine wp_exec (v := (.pointer (some ⟨br, 0, none⟩))) (w' := w') ?_ (hKK _ _ ⟨upd tv 20 _, rfl, hP.simple rfl (by decide) (by decide) (by decide) (by decide) (by decide) (by decide)⟩)
                rw [q19]
                go_simp
                (try go_bits)
                (try (with_reducible rfl))
              · have hA : ∀ i, i < 19 → f i = true := fun i hi => by
                  rcases i with _ | _ | _ | _ | _ | _ | _ | _ | _ | _ | _ | _ | _ | _ | _ | _ | _ | _ | _ | _ | _ | i <;> first | (simp_all; done) | (exfalso; omega)
                have q20 : tv 20 = (.pointer (some ⟨br, 0, none⟩)) := hP.sim 20 _ (by simp_all) rfl
                have hBw : Below V.heap.size V w' := hP.low hf
                obtain ⟨s, c, e18⟩ := own_form2 (hP.r18 (by simp_all) hf)
                refine wp_store_sl (HS5.out.1.later hBw).cell (.tmp 96) (.tmp 94) rfl q20 e18 ?_
                rw [← e18]
                exact hKK _ _ ⟨tv, rfl, hP.c21 hf rfl (by simp_all) hA⟩
            · obtain ⟨tv, rfl, hP⟩ := hI
              obtain ⟨U, vn', hBU, hrU, rfl⟩ := hP.fin (hall 21 (by simp))
              go_wp2_with fail
              go_ret
              have hq0 : dins M (⟨a, .slice s1 k.length c1, k, .slice s2 v.length c2, v⟩ : En) = M.take j ++ (⟨a, .slice s1 k.length c1, k, .slice s2 v.length c2, v⟩ : En) :: M.drop j := by unfold dins; rw [show dat M ((⟨a, .slice s1 k.length c1, k, .slice s2 v.length c2, v⟩ : En)).a ((⟨a, .slice s1 k.length c1, k, .slice s2 v.length c2, v⟩ : En)).k = j from HAT.out]
              have hWV : W.heap.size ≤ V.heap.size := by have := HB4.out.size; omega
              have hBwU : Below w.heap.size w U := HB4.out.trans (hBU.mono HB4.out.size)
              have hDU := (HS5.out.1.later hBU).mono (own' := own) (fun _ _ h => h.1)
              have k1 := (HX1.out.kept (m := fun _ => False) (Fr.of_below hBwU _) (fun _ _ h => h)).mono (own' := own) (fun _ _ h => h.1)
              have k2 := (HX2.out.kept (m := fun _ => False) (Fr.of_below hBwU _) (fun _ _ h => h)).mono (own' := own) (fun _ _ h => h.1)
              have hlen : (dins M (⟨a, .slice s1 k.length c1, k, .slice s2 v.length c2, v⟩ : En)).length = j + 1 + (M.length - j) := by rw [hq0]; simp; omega
              have hfl : (dins M (⟨a, .slice s1 k.length c1, k, .slice s2 v.length c2, v⟩ : En)).flatMap En.cs = ((M.take j).flatMap En.cs ++ [(⟨a, .slice s1 k.length c1, k, .slice s2 v.length c2, v⟩ : En)].flatMap En.cs) ++ (M.drop j).flatMap En.cs := by rw [hq0]; simp [List.flatMap_append]
              rw [← hlen, ← hfl] at hrU
              refine ⟨vn', (⟨a, .slice s1 k.length c1, k, .slice s2 v.length c2, v⟩ : En), rfl, rfl, rfl, rfl, ?_, ?_⟩
              · rw [HME.out]
                refine Dk.stored hDU (WRow.of_own hrU (fun q hq => HO.out q (by omega))) (fun y hy => ?_)
                rw [hq0] at hy
                rcases List.mem_append.1 hy with hy | hy
                · exact hDU.bts y (List.mem_of_mem_take hy)
                · rcases List.mem_cons.1 hy with rfl | hy
                  · exact ⟨k1, k2⟩
                  · exact hDU.bts y (List.mem_of_mem_drop hy)
              · exact (HF2.out.trans (Fr.of_below hBwU own)).trans ((Fr.setCell U _ _).mono (fun i _ e => e ▸ HOB.out))
      · generalize wr.drew = V1 at hS ⊢
        by_cases hlt : j < M.length
        · obtain ⟨x, hx⟩ : ∃ x, M[j]? = some x := ⟨_, List.getElem?_eq_getElem hlt⟩
          obtain ⟨g, rfl, _⟩ := HSL.out (by omega)
          have hxm := List.mem_of_getElem? hx
          obtain ⟨xa, xkv, xk, xvv, xv⟩ := x
          have hcx : c = decide (Ahead ⟨xa, xkv, xk, xvv, xv⟩ a k) := by rw [HCC.out, hx]; rfl
          have hkl2 : xk.length ≤ 1000000000 := HML.out _ hxm
          obtain ⟨hb1, hb2⟩ := HD3.out.bts _ hxm
          obtain ⟨sx, cx, hvx⟩ := hb1.form
          obtain ⟨sy, cy, hvy⟩ := hb2.form
          simp only at hvx hvy
          subst hvx hvy
          have HX := Lib.hid hx
          have HXM := Lib.hid hxm
          have HLS := Lib.hid (fun w => less_any xa a w)
          clear hx hxm hb1 hb2 HCC
          by_cases h1 : xa.num < a.num
          · have HCV := Lib.hid (show c = true by rw [hcx]; exact decide_eq_true (Or.inl h1))
            rw [show decide (xa.num < a.num) = true from decide_eq_true h1] at HLS
            clear hcx h1
            obtain rfl : c = true := HCV.out
            clear HCV
            repeat (first | (refine RP.t_take (v := ?_) rfl rfl (fun w' hw' => ?_) ?_; rotate_left; (focus ((obtain ⟨hDf, hAf, hBf⟩ := hw'; obtain ⟨a0, a1, a2, a3, a4, a5, a6, a7⟩ := lies_addr hAf; have hc0 := hDf.cell.cell 0; simp only [List.getElem?_toArray, List.getElem?_cons_zero] at hc0; obtain ⟨c0, c1, c2, c3, c4, c5, c6, c7, c8, c9⟩ := en_cells hDf.row HX.out); go_simp; (try go_bits); (try (with_reducible rfl)))); (try simp only [Act.put, List.setIfInBounds_toArray, List.set_cons_zero, List.set_cons_succ])) | (refine RP.t_skip rfl rfl ?_; (try simp only [Act.put, List.setIfInBounds_toArray, List.set_cons_zero, List.set_cons_succ])))
            refine RP.t_run rfl (fun KK hKK => ?_)
            go_simp
            refine (HLS.out _).mono ?_
            rintro ex V2 ⟨rfl, hb⟩
            replace hS := And.intro (hS.1.later hb) (And.intro (hS.2.1.below hb hS.2.1.lt) (hS.2.2.trans (hb.mono hS.2.2.size)))
            refine hKK.out _ _ hS ?_
            clear hKK KK hb
            (try simp only [Act.put, List.setIfInBounds_toArray, List.set_cons_zero, List.set_cons_succ])
            repeat (first | (refine RP.t_take (v := ?_) rfl rfl (fun w' hw' => ?_) ?_; rotate_left; (focus ((obtain ⟨hDf, hAf, hBf⟩ := hw'; obtain ⟨a0, a1, a2, a3, a4, a5, a6, a7⟩ := lies_addr hAf; have hc0 := hDf.cell.cell 0; simp only [List.getElem?_toArray, List.getElem?_cons_zero] at hc0; obtain ⟨c0, c1, c2, c3, c4, c5, c6, c7, c8, c9⟩ := en_cells hDf.row HX.out); go_simp; (try go_bits); (try (with_reducible rfl)))); (try simp only [Act.put, List.setIfInBounds_toArray, List.set_cons_zero, List.set_cons_succ])) | (refine RP.t_skip rfl rfl ?_; (try simp only [Act.put, List.setIfInBounds_toArray, List.set_cons_zero, List.set_cons_succ])))
            refine RP.t_run rfl (fun KK hKK => ?_)
            go_simp
            refine hKK.out _ _ hS ?_
            clear hKK KK
            (try simp only [Act.put, List.setIfInBounds_toArray, List.set_cons_zero, List.set_cons_succ])
            repeat (first | (refine RP.t_take (v := ?_) rfl rfl (fun w' hw' => ?_) ?_; rotate_left; (focus ((obtain ⟨hDf, hAf, hBf⟩ := hw'; obtain ⟨a0, a1, a2, a3, a4, a5, a6, a7⟩ := lies_addr hAf; have hc0 := hDf.cell.cell 0; simp only [List.getElem?_toArray, List.getElem?_cons_zero] at hc0; obtain ⟨c0, c1, c2, c3, c4, c5, c6, c7, c8, c9⟩ := en_cells hDf.row HX.out); go_simp; (try go_bits); (try (with_reducible rfl)))); (try simp only [Act.put, List.setIfInBounds_toArray, List.set_cons_zero, List.set_cons_succ])) | (refine RP.t_skip rfl rfl ?_; (try simp only [Act.put, List.setIfInBounds_toArray, List.set_cons_zero, List.set_cons_succ])))
            refine RP.t_done ?_
            exact ⟨rfl, _, _, _, _, _, _, _, _, _, _, _, _, _, _, _, _, _, _, _, _, _, _, _, _, _, _, _, _, _, _, _, _, _, _, _, _, _, _, _, _, _, _, _, _, rfl, hS⟩
          · rw [show decide (xa.num < a.num) = false from decide_eq_false h1] at HLS
            by_cases h2 : xa = a
            · have HLK := Lib.hid (fun (V : World) (hV : Byt V (.slice sx xk.length cx) xk) (hk' : Byt V (.slice sk0 k.length ck0) k) => lesskey_any hV hk' hkl2 (by omega))
              by_cases h3 : Lt xk k
              · have HCV := Lib.hid (show c = true by rw [hcx]; exact decide_eq_true (Or.inr ⟨h2, h3⟩))
                rw [show decide (Lt xk k) = true from decide_eq_true h3] at HLK
                subst h2
                clear hcx h1 h3
                obtain rfl : c = true := HCV.out
                clear HCV
                repeat (first | (refine RP.t_take (v := ?_) rfl rfl (fun w' hw' => ?_) ?_; rotate_left; (focus ((obtain ⟨hDf, hAf, hBf⟩ := hw'; obtain ⟨a0, a1, a2, a3, a4, a5, a6, a7⟩ := lies_addr hAf; have hc0 := hDf.cell.cell 0; simp only [List.getElem?_toArray, List.getElem?_cons_zero] at hc0; obtain ⟨c0, c1, c2, c3, c4, c5, c6, c7, c8, c9⟩ := en_cells hDf.row HX.out); go_simp; (try go_bits); (try (with_reducible rfl)))); (try simp only [Act.put, List.setIfInBounds_toArray, List.set_cons_zero, List.set_cons_succ])) | (refine RP.t_skip rfl rfl ?_; (try simp only [Act.put, List.setIfInBounds_toArray, List.set_cons_zero, List.set_cons_succ])))
                refine RP.t_run rfl (fun KK hKK => ?_)
                go_simp
                refine (HLS.out _).mono ?_
                rintro ex V2 ⟨rfl, hb⟩
                replace hS := And.intro (hS.1.later hb) (And.intro (hS.2.1.below hb hS.2.1.lt) (hS.2.2.trans (hb.mono hS.2.2.size)))
                refine hKK.out _ _ hS ?_
                clear hKK KK hb
                (try simp only [Act.put, List.setIfInBounds_toArray, List.set_cons_zero, List.set_cons_succ])
                repeat (first | (refine RP.t_take (v := ?_) rfl rfl (fun w' hw' => ?_) ?_; rotate_left; (focus ((obtain ⟨hDf, hAf, hBf⟩ := hw'; obtain ⟨a0, a1, a2, a3, a4, a5, a6, a7⟩ := lies_addr hAf; have hc0 := hDf.cell.cell 0; simp only [List.getElem?_toArray, List.getElem?_cons_zero] at hc0; obtain ⟨c0, c1, c2, c3, c4, c5, c6, c7, c8, c9⟩ := en_cells hDf.row HX.out); go_simp; (try go_bits); (try (with_reducible rfl)))); (try simp only [Act.put, List.setIfInBounds_toArray, List.set_cons_zero, List.set_cons_succ])) | (refine RP.t_skip rfl rfl ?_; (try simp only [Act.put, List.setIfInBounds_toArray, List.set_cons_zero, List.set_cons_succ])))
                refine RP.t_run rfl (fun KK hKK => ?_)
                go_simp
                refine (HLK.out _ (hS.1.bts _ HXM.out).1.byt (HK3.out.later hS.2.2)).mono ?_
                rintro ex V2 ⟨rfl, hb⟩
                replace hS := And.intro (hS.1.later hb) (And.intro (hS.2.1.below hb hS.2.1.lt) (hS.2.2.trans (hb.mono hS.2.2.size)))
                refine hKK.out _ _ hS ?_
                clear hKK KK hb
                (try simp only [Act.put, List.setIfInBounds_toArray, List.set_cons_zero, List.set_cons_succ])
                repeat (first | (refine RP.t_take (v := ?_) rfl rfl (fun w' hw' => ?_) ?_; rotate_left; (focus ((obtain ⟨hDf, hAf, hBf⟩ := hw'; obtain ⟨a0, a1, a2, a3, a4, a5, a6, a7⟩ := lies_addr hAf; have hc0 := hDf.cell.cell 0; simp only [List.getElem?_toArray, List.getElem?_cons_zero] at hc0; obtain ⟨c0, c1, c2, c3, c4, c5, c6, c7, c8, c9⟩ := en_cells hDf.row HX.out); go_simp; (try go_bits); (try (with_reducible rfl)))); (try simp only [Act.put, List.setIfInBounds_toArray, List.set_cons_zero, List.set_cons_succ])) | (refine RP.t_skip rfl rfl ?_; (try simp only [Act.put, List.setIfInBounds_toArray, List.set_cons_zero, List.set_cons_succ])))
                refine RP.t_done ?_
                exact ⟨rfl, _, _, _, _, _, _, _, _, _, _, _, _, _, _, _, _, _, _, _, _, _, _, _, _, _, _, _, _, _, _, _, _, _, _, _, _, _, _, _, _, _, _, _, _, rfl, hS⟩
              · have HCV := Lib.hid (show c = false by rw [hcx]; exact decide_eq_false (fun e => e.elim h1 (fun e => h3 e.2)))
                rw [show decide (Lt xk k) = false from decide_eq_false h3] at HLK
                subst h2
                clear hcx h1 h3
                obtain rfl : c = false := HCV.out
                clear HCV
                repeat (first | (refine RP.t_take (v := ?_) rfl rfl (fun w' hw' => ?_) ?_; rotate_left; (focus ((obtain ⟨hDf, hAf, hBf⟩ := hw'; obtain ⟨a0, a1, a2, a3, a4, a5, a6, a7⟩ := lies_addr hAf; have hc0 := hDf.cell.cell 0; simp only [List.getElem?_toArray, List.getElem?_cons_zero] at hc0; obtain ⟨c0, c1, c2, c3, c4, c5, c6, c7, c8, c9⟩ := en_cells hDf.row HX.out); go_simp; (try go_bits); (try (with_reducible rfl)))); (try simp only [Act.put, List.setIfInBounds_toArray, List.set_cons_zero, List.set_cons_succ])) | (refine RP.t_skip rfl rfl ?_; (try simp only [Act.put, List.setIfInBounds_toArray, List.set_cons_zero, List.set_cons_succ])))
                refine RP.t_run rfl (fun KK hKK => ?_)
                go_simp
                refine (HLS.out _).mono ?_
                rintro ex V2 ⟨rfl, hb⟩
                replace hS := And.intro (hS.1.later hb) (And.intro (hS.2.1.below hb hS.2.1.lt) (hS.2.2.trans (hb.mono hS.2.2.size)))
                refine hKK.out _ _ hS ?_
                clear hKK KK hb
                (try simp only [Act.put, List.setIfInBounds_toArray, List.set_cons_zero, List.set_cons_succ])
                repeat (first | (refine RP.t_take (v := ?_) rfl rfl (fun w' hw' => ?_) ?_; rotate_left; (focus ((obtain ⟨hDf, hAf, hBf⟩ := hw'; obtain ⟨a0, a1, a2, a3, a4, a5, a6, a7⟩ := lies_addr hAf; have hc0 := hDf.cell.cell 0; simp only [List.getElem?_toArray, List.getElem?_cons_zero] at hc0; obtain ⟨c0, c1, c2, c3, c4, c5, c6, c7, c8, c9⟩ := en_cells hDf.row HX.out); go_simp; (try go_bits); (try (with_reducible rfl)))); (try simp only [Act.put, List.setIfInBounds_toArray, List.set_cons_zero, List.set_cons_succ])) | (refine RP.t_skip rfl rfl ?_; (try simp only [Act.put, List.setIfInBounds_toArray, List.set_cons_zero, List.set_cons_succ])))
                refine RP.t_run rfl (fun KK hKK => ?_)
                go_simp
                refine (HLK.out _ (hS.1.bts _ HXM.out).1.byt (HK3.out.later hS.2.2)).mono ?_
                rintro ex V2 ⟨rfl, hb⟩
                replace hS := And.intro (hS.1.later hb) (And.intro (hS.2.1.below hb hS.2.1.lt) (hS.2.2.trans (hb.mono hS.2.2.size)))
                refine hKK.out _ _ hS ?_
                clear hKK KK hb
                (try simp only [Act.put, List.setIfInBounds_toArray, List.set_cons_zero, List.set_cons_succ])
                repeat (first | (refine RP.t_take (v := ?_) rfl rfl (fun w' hw' => ?_) ?_; rotate_left; (focus ((obtain ⟨hDf, hAf, hBf⟩ := hw'; obtain ⟨a0, a1, a2, a3, a4, a5, a6, a7⟩ := lies_addr hAf; have hc0 := hDf.cell.cell 0; simp only [List.getElem?_toArray, List.getElem?_cons_zero] at hc0; obtain ⟨c0, c1, c2, c3, c4, c5, c6, c7, c8, c9⟩ := en_cells hDf.row HX.out); go_simp; (try go_bits); (try (with_reducible rfl)))); (try simp only [Act.put, List.setIfInBounds_toArray, List.set_cons_zero, List.set_cons_succ])) | (refine RP.t_skip rfl rfl ?_; (try simp only [Act.put, List.setIfInBounds_toArray, List.set_cons_zero, List.set_cons_succ])))
                refine RP.t_done ?_
                exact ⟨rfl, _, _, _, _, _, _, _, _, _, _, _, _, _, _, _, _, _, _, _, _, _, _, _, _, _, _, _, _, _, _, _, _, _, _, _, _, _, _, _, _, _, _, _, _, rfl, hS⟩
            · have HCV := Lib.hid (show c = false by rw [hcx]; exact decide_eq_false (fun e => e.elim h1 (fun e => h2 e.1)))
              clear hcx h1
              obtain rfl : c = false := HCV.out
              clear HCV
              repeat (first | (refine RP.t_take (v := ?_) rfl rfl (fun w' hw' => ?_) ?_; rotate_left; (focus ((obtain ⟨hDf, hAf, hBf⟩ := hw'; obtain ⟨a0, a1, a2, a3, a4, a5, a6, a7⟩ := lies_addr hAf; have hc0 := hDf.cell.cell 0; simp only [List.getElem?_toArray, List.getElem?_cons_zero] at hc0; obtain ⟨c0, c1, c2, c3, c4, c5, c6, c7, c8, c9⟩ := en_cells hDf.row HX.out); go_simp; (try go_bits); (try (with_reducible rfl)))); (try simp only [Act.put, List.setIfInBounds_toArray, List.set_cons_zero, List.set_cons_succ])) | (refine RP.t_skip rfl rfl ?_; (try simp only [Act.put, List.setIfInBounds_toArray, List.set_cons_zero, List.set_cons_succ])))
              refine RP.t_run rfl (fun KK hKK => ?_)
              go_simp
              refine (HLS.out _).mono ?_
              rintro ex V2 ⟨rfl, hb⟩
              replace hS := And.intro (hS.1.later hb) (And.intro (hS.2.1.below hb hS.2.1.lt) (hS.2.2.trans (hb.mono hS.2.2.size)))
              refine hKK.out _ _ hS ?_
              clear hKK KK hb
              (try simp only [Act.put, List.setIfInBounds_toArray, List.set_cons_zero, List.set_cons_succ])
              repeat (first | (refine RP.t_take (v := ?_) rfl rfl (fun w' hw' => ?_) ?_; rotate_left; (focus ((obtain ⟨hDf, hAf, hBf⟩ := hw'; obtain ⟨a0, a1, a2, a3, a4, a5, a6, a7⟩ := lies_addr hAf; have hc0 := hDf.cell.cell 0; simp only [List.getElem?_toArray, List.getElem?_cons_zero] at hc0; obtain ⟨c0, c1, c2, c3, c4, c5, c6, c7, c8, c9⟩ := en_cells hDf.row HX.out); go_simp; (try go_bits); (try (with_reducible rfl)))); (try simp only [Act.put, List.setIfInBounds_toArray, List.set_cons_zero, List.set_cons_succ])) | (refine RP.t_skip rfl rfl ?_; (try simp only [Act.put, List.setIfInBounds_toArray, List.set_cons_zero, List.set_cons_succ])))
              refine RP.t_run rfl (fun KK hKK => ?_)
              go_simp
              refine hKK.out _ _ hS ?_
              clear hKK KK
              (try simp only [Act.put, List.setIfInBounds_toArray, List.set_cons_zero, List.set_cons_succ])
              repeat (first | (refine RP.t_take (v := ?_) rfl rfl (fun w' hw' => ?_) ?_; rotate_left; (focus ((obtain ⟨hDf, hAf, hBf⟩ := hw'; obtain ⟨a0, a1, a2, a3, a4, a5, a6, a7⟩ := lies_addr hAf; have hc0 := hDf.cell.cell 0; simp only [List.getElem?_toArray, List.getElem?_cons_zero] at hc0; obtain ⟨c0, c1, c2, c3, c4, c5, c6, c7, c8, c9⟩ := en_cells hDf.row HX.out); go_simp; (try go_bits); (try (with_reducible rfl)))); (try simp only [Act.put, List.setIfInBounds_toArray, List.set_cons_zero, List.set_cons_succ])) | (refine RP.t_skip rfl rfl ?_; (try simp only [Act.put, List.setIfInBounds_toArray, List.set_cons_zero, List.set_cons_succ])))
              refine RP.t_done ?_
              exact ⟨rfl, _, _, _, _, _, _, _, _, _, _, _, _, _, _, _, _, _, _, _, _, _, _, _, _, _, _, _, _, _, _, _, _, _, _, _, _, _, _, _, _, _, _, _, _, rfl, hS⟩
        · have HCV := Lib.hid (show c = false by rw [HCC.out, List.getElem?_eq_none (by omega)]; rfl)
          clear HCC
          obtain rfl : c = false := HCV.out
          clear HCV
          repeat (first | (refine RP.t_take (v := ?_) rfl rfl (fun w' hw' => ?_) ?_; rotate_left; (focus ((obtain ⟨hDf, hAf, hBf⟩ := hw'; obtain ⟨a0, a1, a2, a3, a4, a5, a6, a7⟩ := lies_addr hAf; have hc0 := hDf.cell.cell 0; simp only [List.getElem?_toArray, List.getElem?_cons_zero] at hc0); go_simp; (try go_bits); (try (with_reducible rfl)))); (try simp only [Act.put, List.setIfInBounds_toArray, List.set_cons_zero, List.set_cons_succ])) | (refine RP.t_skip rfl rfl ?_; (try simp only [Act.put, List.setIfInBounds_toArray, List.set_cons_zero, List.set_cons_succ])))
          refine RP.t_run rfl (fun KK hKK => ?_)
          go_simp
          refine hKK.out _ _ hS ?_
          clear hKK KK
          (try simp only [Act.put, List.setIfInBounds_toArray, List.set_cons_zero, List.set_cons_succ])
          repeat (first | (refine RP.t_take (v := ?_) rfl rfl (fun w' hw' => ?_) ?_; rotate_left; (focus ((obtain ⟨hDf, hAf, hBf⟩ := hw'; obtain ⟨a0, a1, a2, a3, a4, a5, a6, a7⟩ := lies_addr hAf; have hc0 := hDf.cell.cell 0; simp only [List.getElem?_toArray, List.getElem?_cons_zero] at hc0); go_simp; (try go_bits); (try (with_reducible rfl)))); (try simp only [Act.put, List.setIfInBounds_toArray, List.set_cons_zero, List.set_cons_succ])) | (refine RP.t_skip rfl rfl ?_; (try simp only [Act.put, List.setIfInBounds_toArray, List.set_cons_zero, List.set_cons_succ])))
          refine RP.t_run rfl (fun KK hKK => ?_)
          go_simp
          refine hKK.out _ _ hS ?_
          clear hKK KK
          (try simp only [Act.put, List.setIfInBounds_toArray, List.set_cons_zero, List.set_cons_succ])
          repeat (first | (refine RP.t_take (v := ?_) rfl rfl (fun w' hw' => ?_) ?_; rotate_left; (focus ((obtain ⟨hDf, hAf, hBf⟩ := hw'; obtain ⟨a0, a1, a2, a3, a4, a5, a6, a7⟩ := lies_addr hAf; have hc0 := hDf.cell.cell 0; simp only [List.getElem?_toArray, List.getElem?_cons_zero] at hc0); go_simp; (try go_bits); (try (with_reducible rfl)))); (try simp only [Act.put, List.setIfInBounds_toArray, List.set_cons_zero, List.set_cons_succ])) | (refine RP.t_skip rfl rfl ?_; (try simp only [Act.put, List.setIfInBounds_toArray, List.set_cons_zero, List.set_cons_succ])))
          refine RP.t_done ?_
          exact ⟨rfl, _, _, _, _, _, _, _, _, _, _, _, _, _, _, _, _, _, _, _, _, _, _, _, _, _, _, _, _, _, _, _, _, _, _, _, _, _, _, _, _, _, _, _, _, rfl, hS⟩
end Go.Proofs.Yteeghdkejnhjnaa.Kv

/- The document's list of entries, plain: rising by address and key; what it has; its lists are the state's. -/
namespace Go.Proofs.Yteeghdkejnhjnaa.Kv
open Go Go.RowKit Kt Ad Bo

/-- The order of entries. -/
def AhK (a : A8) (k : Bs) (b : A8) (l : Bs) : Prop := a.num < b.num ∨ a = b ∧ Lt k l
theorem ahk_trans {a b c : A8} {k l m : Bs} (h1 : AhK a k b l) (h2 : AhK b l c m) : AhK a k c m := by
  rcases h1 with h1 | ⟨rfl, h1⟩
  · rcases h2 with h2 | ⟨rfl, _⟩
    · exact Or.inl (by omega)
    · exact Or.inl h1
  · rcases h2 with h2 | ⟨rfl, h2⟩
    · exact Or.inl h2
    · exact Or.inr ⟨rfl, lt_trans h1 h2⟩
theorem ahk_irr (a : A8) (k : Bs) : ¬ AhK a k a k := by
  rintro (h | ⟨_, h⟩)
  · omega
  · exact lt_irr _ h
theorem ahk_or (a b : A8) (k l : Bs) : AhK a k b l ∨ (a = b ∧ k = l) ∨ AhK b l a k := by
  rcases Nat.lt_trichotomy a.num b.num with h | h | h
  · exact Or.inl (Or.inl h)
  · obtain rfl := A8.ext_num h
    rcases lt_or k l with h | h | h
    · exact Or.inl (Or.inr ⟨rfl, h⟩)
    · exact Or.inr (Or.inl ⟨rfl, h⟩)
    · exact Or.inr (Or.inr (Or.inr ⟨rfl, h⟩))
  · exact Or.inr (Or.inr (Or.inl h))
instance (a b : A8) (k l : Bs) : Decidable (AhK a k b l) := inferInstanceAs (Decidable (_ ∨ _))
def EnLt (x y : En) : Prop := AhK x.a x.k y.a y.k
instance (x y : En) : Decidable (EnLt x y) := inferInstanceAs (Decidable (AhK _ _ _ _))
/-- Rising, each once. -/
def Sorted (L : List En) : Prop := L.Pairwise EnLt
theorem Sorted.nil : Sorted [] := List.Pairwise.nil
theorem Sorted.uniq {L : List En} (h : Sorted L) {x y : En} (hx : x ∈ L) (hy : y ∈ L) (ha : x.a = y.a) (hk : x.k = y.k) : x = y := by
  induction L with
  | nil => cases hx
  | cons z L ih =>
    unfold Sorted at h
    rw [List.pairwise_cons] at h
    have no : ∀ u ∈ L, u.a = z.a → u.k = z.k → False := fun u hu e1 e2 => by
      have := h.1 u hu
      unfold EnLt at this
      rw [e1, e2] at this
      exact ahk_irr _ _ this
    rcases List.mem_cons.1 hx with e1 | h1
    · rcases List.mem_cons.1 hy with e2 | h2
      · rw [e1, e2]
      · exact (no y h2 (by rw [← ha, e1]) (by rw [← hk, e1])).elim
    · rcases List.mem_cons.1 hy with e2 | h2
      · exact (no x h1 (by rw [ha, e2]) (by rw [hk, e2])).elim
      · exact ih h.2 h1 h2
/-- What a list has, as a state. -/
def dst (L : List En) : St := fun a k => (dfind L a k).map (·.v)
theorem dfind_mem {L : List En} {a : A8} {k : Bs} {x : En} (h : dfind L a k = some x) : x ∈ L ∧ x.a = a ∧ x.k = k := by
  unfold dfind at h
  exact ⟨List.mem_of_find?_eq_some h, by simpa using List.find?_some h⟩
theorem Sorted.find {L : List En} (h : Sorted L) {x : En} (hx : x ∈ L) : dfind L x.a x.k = some x := by
  cases e : dfind L x.a x.k with
  | none =>
    unfold dfind at e
    rw [List.find?_eq_none] at e
    exact absurd (decide_eq_true (⟨rfl, rfl⟩ : x.a = x.a ∧ x.k = x.k)) (e x hx)
  | some y =>
    obtain ⟨h1, h2, h3⟩ := dfind_mem e
    rw [h.uniq h1 hx h2 h3]
theorem dst_iff {L : List En} (h : Sorted L) (a : A8) (k v : Bs) : dst L a k = some v ↔ ∃ x ∈ L, x.a = a ∧ x.k = k ∧ x.v = v := by
  unfold dst
  constructor
  · intro e
    obtain ⟨x, hx, rfl⟩ := Option.map_eq_some_iff.1 e
    obtain ⟨h1, h2, h3⟩ := dfind_mem hx
    exact ⟨x, h1, h2, h3, rfl⟩
  · rintro ⟨x, hx, rfl, rfl, rfl⟩
    rw [h.find hx]
    rfl
theorem dst_ext {L : List En} (h : Sorted L) {g : St} (hg : ∀ a k v, g a k = some v ↔ ∃ x ∈ L, x.a = a ∧ x.k = k ∧ x.v = v) : dst L = g := by
  funext a k
  cases e : g a k with
  | some v => exact (dst_iff h a k v).2 ((hg a k v).1 e)
  | none =>
    cases e2 : dst L a k with
    | none => rfl
    | some v => rw [(hg a k v).2 ((dst_iff h a k v).1 e2)] at e; cases e
theorem dst_find (L : List En) (a : A8) (k : Bs) : ((dfind L a k).map (·.v)) = dst L a k := rfl
theorem dst_is (L : List En) (a : A8) (k : Bs) : (dfind L a k).isSome = (dst L a k).isSome := by
  unfold dst
  cases dfind L a k <;> rfl

/-! ### Del -/
theorem mem_ddel {L : List En} {a : A8} {k : Bs} {x : En} : x ∈ ddel L a k ↔ x ∈ L ∧ ¬ (x.a = a ∧ x.k = k) := by
  unfold ddel
  rw [List.mem_filter, Bool.not_eq_true', decide_eq_false_iff_not]
theorem Sorted.del {L : List En} (h : Sorted L) (a : A8) (k : Bs) : Sorted (ddel L a k) := List.Pairwise.sublist List.filter_sublist h
theorem dst_del {L : List En} (h : Sorted L) (a : A8) (k : Bs) : dst (ddel L a k) = (dst L).put a k none := by
  refine dst_ext (h.del a k) fun a' k' v => ?_
  unfold St.put
  by_cases hc : a' = a ∧ k' = k
  · rw [if_pos hc]
    obtain ⟨rfl, rfl⟩ := hc
    refine ⟨(fun e => by cases e), ?_⟩
    rintro ⟨x, hx, h1, h2, _⟩
    exact absurd ⟨h1, h2⟩ (mem_ddel.1 hx).2
  · rw [if_neg hc, dst_iff h]
    constructor
    · rintro ⟨x, hx, rfl, rfl, rfl⟩
      exact ⟨x, mem_ddel.2 ⟨hx, hc⟩, rfl, rfl, rfl⟩
    · rintro ⟨x, hx, h3⟩
      exact ⟨x, (mem_ddel.1 hx).1, h3⟩
theorem ddel_len (L : List En) (a : A8) (k : Bs) : decide ((ddel L a k).length < L.length) = (dst L a k).isSome := by
  rw [← dst_is]
  cases e : dfind L a k with
  | none =>
    unfold dfind at e
    rw [List.find?_eq_none] at e
    have : ddel L a k = L := by
      unfold ddel
      refine List.filter_eq_self.2 fun x hx => ?_
      rw [Bool.not_eq_true', decide_eq_false_iff_not]
      exact fun hh => absurd (decide_eq_true hh) (e x hx)
    rw [this]
    simp
  | some x =>
    obtain ⟨h1, h2⟩ := dfind_mem e
    have hlt : (ddel L a k).length < L.length := by
      rcases Nat.lt_or_ge (ddel L a k).length L.length with h | h
      · exact h
      · have he : ddel L a k = L := by
          unfold ddel at h ⊢
          exact List.filter_eq_self.2 (List.length_filter_eq_length_iff.1 (Nat.le_antisymm (List.length_filter_le _ _) h))
        rw [← he] at h1
        exact absurd h2 (mem_ddel.1 h1).2
    simp [hlt]
theorem ddel_le (L : List En) (a : A8) (k : Bs) : (ddel L a k).length ≤ L.length := List.length_filter_le _ _

/-! ### Put -/
theorem dins_eq (L : List En) (x : En) : dins L x = (L.takeWhile fun y => decide (Ahead y x.a x.k)) ++ x :: L.dropWhile fun y => decide (Ahead y x.a x.k) := by
  unfold dins dat
  have h := List.takeWhile_append_dropWhile (p := fun y => decide (Ahead y x.a x.k)) (l := L)
  congr 1
  · rw (config := { occs := .pos [2] }) [← h]
    rw [List.take_left']
    rfl
  · congr 1
    rw (config := { occs := .pos [2] }) [← h]
    rw [List.drop_left']
    rfl
theorem mem_dins {L : List En} {x y : En} : y ∈ dins L x ↔ y = x ∨ y ∈ L := by
  have h : y ∈ L ↔ (y ∈ L.takeWhile fun z => decide (Ahead z x.a x.k)) ∨ (y ∈ L.dropWhile fun z => decide (Ahead z x.a x.k)) := by rw [← List.mem_append, List.takeWhile_append_dropWhile]
  rw [dins_eq, h, List.mem_append, List.mem_cons]
  constructor
  · rintro (h | h | h)
    · exact Or.inr (Or.inl h)
    · exact Or.inl h
    · exact Or.inr (Or.inr h)
  · rintro (h | h | h)
    · exact Or.inr (Or.inl h)
    · exact Or.inl h
    · exact Or.inr (Or.inr h)
theorem drop_all {p : En → Bool} {x : En} (hp : ∀ y, p y = decide (EnLt y x)) : ∀ {L : List En}, Sorted L → (∀ y ∈ L, ¬ (y.a = x.a ∧ y.k = x.k)) → ∀ y ∈ L.dropWhile p, EnLt x y
  | [], _, _, y, hy => by cases hy
  | z :: L, hs, hno, y, hy => by
    unfold Sorted at hs
    rw [List.pairwise_cons] at hs
    by_cases hz : p z = true
    · rw [List.dropWhile_cons_of_pos hz] at hy
      exact drop_all hp hs.2 (fun u hu => hno u (List.mem_cons_of_mem _ hu)) y hy
    · rw [List.dropWhile_cons_of_neg hz] at hy
      have hxz : EnLt x z := by
        rcases ahk_or z.a x.a z.k x.k with h | h | h
        · exact absurd ((hp z).trans (decide_eq_true h)) hz
        · exact absurd h (hno z List.mem_cons_self)
        · exact h
      rcases List.mem_cons.1 hy with rfl | hy
      · exact hxz
      · exact ahk_trans hxz (hs.1 y hy)
theorem Sorted.ins {L : List En} (h : Sorted L) {x : En} (hno : ∀ y ∈ L, ¬ (y.a = x.a ∧ y.k = x.k)) : Sorted (dins L x) := by
  rw [dins_eq]
  have hdec : ∀ y : En, (decide (Ahead y x.a x.k)) = decide (EnLt y x) := fun y => decide_eq_decide.2 Iff.rfl
  have h0 := h
  rw [← List.takeWhile_append_dropWhile (p := fun y => decide (Ahead y x.a x.k)) (l := L)] at h0
  unfold Sorted at h0
  rw [List.pairwise_append] at h0
  have hx := drop_all (p := fun y => decide (Ahead y x.a x.k)) hdec h hno
  refine List.pairwise_append.2 ⟨h0.1, List.pairwise_cons.2 ⟨hx, h0.2.1⟩, fun y hy z hz => ?_⟩
  rcases List.mem_cons.1 hz with rfl | hz
  · have := List.all_takeWhile (p := fun y => decide (Ahead y z.a z.k)) (l := L)
    rw [List.all_eq_true] at this
    exact of_decide_eq_true (this y hy)
  · exact h0.2.2 y hy z hz
theorem dst_ins {L : List En} (h : Sorted L) (x : En) : Sorted (dins (ddel L x.a x.k) x) ∧ dst (dins (ddel L x.a x.k) x) = (dst L).put x.a x.k (some x.v) := by
  have hs := (h.del x.a x.k).ins (x := x) (fun y hy => (mem_ddel.1 hy).2)
  refine ⟨hs, dst_ext hs fun a' k' v => ?_⟩
  unfold St.put
  by_cases hc : a' = x.a ∧ k' = x.k
  · rw [if_pos hc]
    obtain ⟨rfl, rfl⟩ := hc
    constructor
    · intro e
      injection e with e
      exact ⟨x, mem_dins.2 (Or.inl rfl), rfl, rfl, e⟩
    · rintro ⟨y, hy, h1, h2, rfl⟩
      rcases mem_dins.1 hy with rfl | hy
      · rfl
      · exact absurd ⟨h1, h2⟩ (mem_ddel.1 hy).2
  · rw [if_neg hc, dst_iff h]
    constructor
    · rintro ⟨y, hy, rfl, rfl, rfl⟩
      exact ⟨y, mem_dins.2 (Or.inr (mem_ddel.2 ⟨hy, hc⟩)), rfl, rfl, rfl⟩
    · rintro ⟨y, hy, rfl, rfl, rfl⟩
      rcases mem_dins.1 hy with rfl | hy
      · exact absurd ⟨rfl, rfl⟩ hc
      · exact ⟨y, (mem_ddel.1 hy).1, rfl, rfl, rfl⟩
theorem dins_len (L : List En) (x : En) : (dins L x).length = L.length + 1 := by
  rw [dins_eq, List.length_append, List.length_cons]
  have := congrArg List.length (List.takeWhile_append_dropWhile (p := fun y => decide (Ahead y x.a x.k)) (l := L))
  rw [List.length_append] at this
  omega

/-! ### List -/
theorem dlist_tells {L : List En} (h : Sorted L) (a : A8) : Tells (dst L) a (saidP (dlist L a)) := by
  have hm : saidP (dlist L a) = (L.filter fun x => decide (x.a = a)).map fun x => (x.k, x.v) := by
    unfold saidP dlist
    rw [List.map_map]
    rfl
  rw [hm]
  constructor
  · refine List.pairwise_map.2 ?_
    have hf : (L.filter fun x => decide (x.a = a)).Pairwise EnLt := List.Pairwise.sublist List.filter_sublist h
    refine List.Pairwise.imp_of_mem ?_ hf
    intro x y hx hy hlt
    have e1 := of_decide_eq_true (List.mem_filter.1 hx).2
    have e2 := of_decide_eq_true (List.mem_filter.1 hy).2
    rcases hlt with hlt | ⟨_, hlt⟩
    · rw [e1, e2] at hlt; omega
    · exact hlt
  · intro k v
    rw [dst_iff h, List.mem_map]
    constructor
    · rintro ⟨x, hx, e⟩
      obtain ⟨h1, h2⟩ := List.mem_filter.1 hx
      injection e with e1 e2
      exact ⟨x, h1, of_decide_eq_true h2, e1, e2⟩
    · rintro ⟨x, hx, h1, rfl, rfl⟩
      exact ⟨x, List.mem_filter.2 ⟨hx, decide_eq_true h1⟩, rfl⟩

/-! ### All -/
theorem dall_inv {L : List En} (h : Sorted L) : ∀ j, j ≤ L.length → RiseA (dallN L j) ∧ (∀ a, a ∈ dallN L j ↔ ∃ x ∈ L.take j, x.a = a)
  | 0, _ => ⟨List.Pairwise.nil, fun a => by simp [dallN]⟩
  | j + 1, hj => by
    obtain ⟨h1, h2⟩ := dall_inv h j (by omega)
    have hjl : j < L.length := by omega
    rw [dallN_step]
    have htk : L.take (j + 1) = L.take j ++ [L[j]] := by rw [List.take_add_one, List.getElem?_eq_getElem hjl]; rfl
    have hpw := List.pairwise_iff_getElem.1 h
    have e1 : L[j]?.map (·.a) = some L[j].a := by rw [List.getElem?_eq_getElem hjl]; rfl
    by_cases hc : j = 0 ∨ L[j]?.map (·.a) ≠ L[j - 1]?.map (·.a)
    · rw [if_pos hc, e1]
      have hlt : ∀ b ∈ dallN L j, b.num < L[j].a.num := fun b hb => by
        obtain ⟨x, hx, rfl⟩ := (h2 b).1 hb
        obtain ⟨i, hi, rfl⟩ := List.getElem_of_mem hx
        rw [List.length_take] at hi
        rw [List.getElem_take]
        have hj0 : j ≠ 0 := by omega
        have hne : L[j].a ≠ (L[j - 1]'(by omega)).a := fun e => by
          rcases hc with hc | hc
          · exact hj0 hc
          · rw [e1, List.getElem?_eq_getElem (by omega : j - 1 < L.length)] at hc
            exact hc (by rw [e]; rfl)
        have h3 := hpw (j - 1) j (by omega) hjl (by omega)
        have h4 : (L[j - 1]'(by omega)).a.num < L[j].a.num := by
          rcases h3 with h3 | ⟨h3, _⟩
          · exact h3
          · exact absurd h3.symm hne
        by_cases hi1 : i = j - 1
        · subst hi1; exact h4
        · have h5 := hpw i (j - 1) (by omega) (by omega) (by omega)
          rcases h5 with h5 | ⟨h5, _⟩
          · omega
          · rw [h5]; exact h4
      refine ⟨List.pairwise_append.2 ⟨h1, List.pairwise_singleton _ _, fun b hb c hc' => ?_⟩, fun a => ?_⟩
      · obtain rfl := List.mem_singleton.1 hc'
        exact hlt b hb
      · rw [List.mem_append, h2, htk]
        constructor
        · rintro (⟨x, hx, rfl⟩ | hx)
          · exact ⟨x, List.mem_append_left _ hx, rfl⟩
          · exact ⟨L[j], List.mem_append_right _ List.mem_cons_self, (List.mem_singleton.1 hx).symm⟩
        · rintro ⟨x, hx, rfl⟩
          rcases List.mem_append.1 hx with hx | hx
          · exact Or.inl ⟨x, hx, rfl⟩
          · rw [List.mem_singleton.1 hx]
            exact Or.inr (List.mem_singleton.2 rfl)
    · rw [if_neg hc, List.append_nil]
      refine ⟨h1, fun a => ?_⟩
      rw [h2, htk]
      have hj0 : j ≠ 0 := fun e => hc (Or.inl e)
      have heq : L[j].a = (L[j - 1]'(by omega)).a := by
        have : L[j]?.map (·.a) = L[j - 1]?.map (·.a) := Classical.byContradiction fun e => hc (Or.inr e)
        rw [e1, List.getElem?_eq_getElem (by omega : j - 1 < L.length)] at this
        injection this
      constructor
      · rintro ⟨x, hx, rfl⟩
        exact ⟨x, List.mem_append_left _ hx, rfl⟩
      · rintro ⟨x, hx, rfl⟩
        rcases List.mem_append.1 hx with hx | hx
        · exact ⟨x, hx, rfl⟩
        · rw [List.mem_singleton.1 hx, heq]
          refine ⟨L[j - 1]'(by omega), ?_, rfl⟩
          refine List.mem_iff_getElem.2 ⟨j - 1, by rw [List.length_take]; omega, ?_⟩
          rw [List.getElem_take]
theorem dall_rise {L : List En} (h : Sorted L) : RiseA (dallN L L.length) ∧ (∀ a, a ∈ dallN L L.length ↔ ∃ k v, dst L a k = some v) := by
  obtain ⟨h1, h2⟩ := dall_inv h L.length (Nat.le_refl _)
  refine ⟨h1, fun a => ?_⟩
  rw [h2, List.take_length]
  constructor
  · rintro ⟨x, hx, rfl⟩
    exact ⟨x.k, x.v, (dst_iff h _ _ _).2 ⟨x, hx, rfl, rfl, rfl⟩⟩
  · rintro ⟨k, v, e⟩
    obtain ⟨x, hx, h1, _⟩ := (dst_iff h _ _ _).1 e
    exact ⟨x, hx, h1⟩
theorem rise_uniq {l m : List A8} (h : RiseA l) (h' : RiseA m) (hm : ∀ a, a ∈ l ↔ a ∈ m) : l = m := by
  have nd : ∀ {l : List A8}, RiseA l → l.Nodup := fun h => List.Pairwise.imp (fun {a b} hlt e => by rw [e] at hlt; omega) h
  exact eq_of_riseA h h' ((List.perm_ext_iff_of_nodup (nd h) (nd h')).2 hm)
end Go.Proofs.Yteeghdkejnhjnaa.Kv
