/- The law PoolOrder. -/
import Derived.Test.YtkdckcjnjljdmaaCYh
namespace Go.Proofs.Ytkdckcjnjljdmaa.Po
open Go Go.RowKit Go.Lib Kt Fm Ad Kv

theorem sizeGen : (Try.prog.info? 26).map (·.size) = some 9 := by kernel_rfl
/-- What stands when the loops begin. -/
structure Loops (w : World) (A : List Tx) (f : Nx) (wv vA vO : Value) (L O : List Tx) : Prop where
  nonce : Nonces w wv f
  lrow : Sl w 22 Tx.cs vA L
  orow : Sl w 22 Tx.cs vO O
  lok : ∀ t ∈ L, TxOk w t
  ook : ∀ t ∈ O, TxOk w t
  ok : ∀ t ∈ L, OkT t
  ord : Ord (L.map Tx.nv) f (O.map Tx.nv)
  llen : L.length ≤ 60
  olen : O.length ≤ 60
/-- The loops' state: what is next, what was told. -/
structure LS (w7 : World) (bN bT : Nat) (L O : List Tx) (k : Nat) (f : Nx) (NL TL : List (A8 × Value)) (wr : World) : Prop where
  nmap : IsMap A8.v wr bN NL
  nval : ∀ u ∈ L, valAt NL u.frm = some (.int .u64 (f u.frm))
  told : Told w7.heap.size wr bN bT TL
  ord : Ord (L.map Tx.nv) f ((O.drop k).map Tx.nv)
  below : Below w7.heap.size w7 wr
theorem LS.later {w7 : World} {bN bT : Nat} {L O : List Tx} {k : Nat} {f : Nx} {NL TL : List (A8 × Value)} {wr w' : World} (h : LS w7 bN bT L O k f NL TL wr) (hb : Below wr.heap.size wr w') : LS w7 bN bT L O k f NL TL w' := ⟨map_later h.nmap hb, h.nval, h.told.later hb, h.ord, bt h.below hb⟩
theorem look_u64 {w : World} {bN : Nat} {NL : List (A8 × Value)} {a : A8} {n : Nat} (h : IsMap A8.v w bN NL) (hv : valAt NL a = some (.int .u64 n)) : (Instr.lookup 41 (.map (some bN)) a.v false).run Try.prog w = .ok (.int .u64 n) w := by
  have := h.look encAddr Try.underlying41 false (zU64 w) a
  rw [hv] at this
  exact this
/-- The next one of an order. -/
theorem ord_head {A : List Tx} {f : Nx} {O : List Tx} {k : Nat} {t : Tx} (h : Ord A f ((O.drop k).map Tx.nv)) (ht : O[k]? = some t) : (t.nv ∈ A ∧ t.nonce = f t.frm) ∧ (∀ u : Tx, u.nv ∈ A → u.nonce = f u.frm → ¬ rank u t < 0) ∧ Ord A (f.set t.frm (t.nonce + 1)) ((O.drop (k + 1)).map Tx.nv) := by
  rw [Wd.drop_more ht, List.map_cons] at h
  obtain ⟨h1, h2, h3⟩ := h
  refine ⟨mem_avail.1 h1, fun u hu he => ?_, h3⟩
  have := h2 u.nv (mem_avail.2 ⟨hu, he⟩)
  rwa [rank_nv] at this
theorem eql_map (w : World) (x : Option Nat) : (binOp .eql 46 (.map x) (.map none)).run Try.prog w = .ok (.bool x.isNone) w := by cases x <;> kernel_rfl
/-- A sender's map is there. -/
structure TM (w7 : World) (bN bT : Nat) (L O : List Tx) (k : Nat) (f : Nx) (NL : List (A8 × Value)) (t : Tx) (Bt bi : Nat) (TL : List (A8 × Value)) (M : List (N64 × Value)) (w : World) : Prop where
  ls : LS w7 bN bT L O k f NL TL w
  at_ : valAt TL t.frm = some (.map (some bi))
  map : IsMap uk w bi M
  val : ∀ n x, valAt M n = some x → x = .agg #[]
  n1 : bi ≠ bT
  n2 : bi ≠ bN
  n3 : w7.heap.size ≤ bi
  box : Lies w Bt 32 t.cs.toArray
theorem look_map {w : World} {bT bi : Nat} {TL : List (A8 × Value)} {a : A8} (h : IsMap A8.v w bT TL) (hv : valAt TL a = some (.map (some bi))) : (Instr.lookup 43 (.map (some bT)) a.v false).run Try.prog w = .ok (.map (some bi)) w := by
  have := h.look encAddr Try.underlying43 false (zMap w) a
  rw [hv] at this
  exact this
theorem Told.first {base : Nat} {w : World} {bN bT : Nat} {TL : List (A8 × Value)} (h : Told base w bN bT TL) (a : A8) : ∃ (x : Option Nat), (Instr.lookup 43 (.map (some bT)) a.v false).run Try.prog w = .ok (.map x) w ∧ (x.isNone = true → valAt TL a = none) ∧ (x.isNone = false → ∃ bi, valAt TL a = some (.map (some bi))) := by
  have hl := h.map.look encAddr Try.underlying43 false (zMap w) a
  cases hv : valAt TL a with
  | none =>
    rw [hv] at hl
    exact ⟨none, hl, fun _ => rfl, fun e => (by cases e)⟩
  | some v =>
    obtain ⟨bi, L, rfl, _⟩ := h.val a v hv
    rw [hv] at hl
    exact ⟨some bi, hl, fun e => (by cases e), fun _ => ⟨bi, rfl⟩⟩
set_option maxRecDepth 100000 in
set_option maxHeartbeats 16000000 in
theorem law_order {W : World} {c : A8} {s : Option Go.Addr} {cap : Nat} {acc : List Wd.Acc} {m : Int} {v : Value} {L0 : List Tx} (hs : Sl W 12 Wd.Acc.cs (.slice s acc.length cap) acc) (hok : ∀ x ∈ acc, Wd.AccOk x) (hal : acc.length ≤ 2000000000000) (hv : Sl W 22 Tx.cs v L0) (hx : ∀ t ∈ L0, TxOk W t) (hll : L0.length ≤ 2000000000000) : Calls Try.prog 3 #[.agg (Wd.Gen.cs c s acc.length cap).toArray, .int .i64 m, v] W fun e w' => e = .returned (.bool true) ∧ Below W.heap.size W w' := by
  obtain ⟨sv, cv, rfl, hfv⟩ := hv.form
  have HS := Lib.hid hs
  have HOK := Lib.hid hok
  have HAL := Lib.hid hal
  have HV := Lib.hid hv
  have HFV := Lib.hid hfv
  have HXS := Lib.hid hx
  clear hs hok hal hv hfv hx
  go_enter Try.func3, Try.ntmps3
  go_upto_region 1 with (refine wl_box (Wd.Gen.cs c s acc.length cap) _ rfl rfl rfl (fun w1 hbw1 hlw1 => ?_); have HB1 := Lib.hid (hbw1); have HLB := Lib.hid hlw1; obtain ⟨B, hBw1⟩ : ∃ B, B = W.heap.size := ⟨_, rfl⟩; rw [← hBw1] at HLB ⊢; clear hBw1 hbw1 hlw1; (try simp only [Act.put, List.setIfInBounds_toArray, List.set_cons_zero, List.set_cons_succ]))
  go_wp2_with fail
  refine (known_any w1).mono ?_
  rintro en w2 ⟨rfl, hb2⟩
  have HB2 := Lib.hid (bt HB1.out hb2)
  have HX2 := Lib.hid (HLB.out.below hb2 HLB.out.lt)
  clear hb2 HB1 HLB
  go_wp2_with fail
  go_loopw [7, 33] (fun nv iv wr => ∃ (k : Nat) (nI : Int), k ≤ L0.length ∧ iv = .int .i64 k ∧ nv = .int .i64 nI ∧ Below w2.heap.size w2 wr) (fun _ iv _ => L0.length - (RowKit.intOf iv).toNat)
  case atStart => exact ⟨0, 0, Nat.zero_le _, rfl, rfl, Below.refl _ _⟩
  case round =>
    obtain ⟨k, nI, hk, rfl, rfl, hb⟩ := hrel
    have HB3 := Lib.hid (bt HB2.out hb)
    have HX3 := Lib.hid (HX2.out.below hb HX2.out.lt)
    have HB23 := Lib.hid hb
    clear hb
    obtain ⟨w3, hw3⟩ : ∃ w3, w3 = wr := ⟨_, rfl⟩
    rw [← hw3] at HB3 HX3 HB23 ⊢
    clear hw3
    by_cases hlt : k < L0.length
    · have hlt2 : (k : Int) < (L0.length : Int) := by omega
      obtain ⟨x, hx⟩ : ∃ x, L0[k]? = some x := ⟨_, List.getElem?_eq_getElem hlt⟩
      obtain ⟨g, off, rfl, _⟩ := HFV.out (by intro e; rw [e] at hlt; simp at hlt)
      have HX := Lib.hid hx
      have HXO := Lib.hid (HXS.out x (List.mem_of_getElem? hx))
      have OBx := Lib.hid (show (x.cs.toArray.all (·.oneCell')) = true from HXO.out.oneB)
      clear hx
      go_upto_region 7 with (first | (refine wpList_load_mid rfl 32 _ rfl g (off + k * 22) rfl x.cs _ (sl_range (HV.out.later HB3.out) HX.out) Try.underlying32 rfl sizeTx ?_; (try simp only [Act.put, List.setIfInBounds_toArray, List.set_cons_zero, List.set_cons_succ])) | (refine wl_put (Lies.new _ _ _) x.cs _ _ rfl rfl rfl rfl rfl sizeTx OBx.out (fun w4 hl hf => ?_); have hb : Below w3.heap.size w3 w4 := below_put ((Below.refl w3.heap.size w3).alloc (Nat.le_refl _) _) hf (Nat.le_refl _); have HB4 := Lib.hid (bt HB23.out hb); obtain ⟨Bx, hB⟩ : ∃ Bx, Bx = w3.heap.size := ⟨_, rfl⟩; rw [← hB] at hl ⊢; have HXBx := Lib.hid hl; clear hl hf hb hB; (try simp only [Act.put])))
      obtain ⟨sd, cd, hdv⟩ := HXO.out.form
      have zd : w4.cell? ⟨Bx, 21, none⟩ = some (.slice sd x.data.length cd) := by rw [← hdv]; exact HXBx.out.cell 21
      clear hdv
      go_wp2_with fail
      go_roundw
      case rel => exact ⟨k + 1, _, hlt, by go_num, rfl, HB4.out⟩
      case measure => simp [RowKit.intOf]; omega
    · have hlt2 : ¬ (k : Int) < (L0.length : Int) := by omega
      go_wp2_with (refine wpList_load_mid rfl 26 _ rfl B 0 rfl (Wd.Gen.cs c s acc.length cap) _ (lies_range HX3.out) Try.underlying26 rfl sizeGen ?_; (try simp only [Act.put, List.setIfInBounds_toArray, List.set_cons_zero, List.set_cons_succ]))
      refine (Wd.wnew_any (W := w3) (HS.out.later HB3.out) HOK.out HAL.out).mono ?_
      rintro en w4 hnew
      obtain ⟨er, wp, her, rfl, hb4, hok4⟩ : ∃ (er : Nat) (wp : Option Go.Addr), True ∧ en = .returned (.tuple #[.pointer wp, .int .i64 er]) ∧ RowKit.Hid (Below w3.heap.size w3 w4) ∧ RowKit.Hid (er = 0 → ∃ a f, wp = some a ∧ Nonces w4 (.pointer wp) f) := by
        rcases hnew with ⟨h, rfl, hb⟩ | ⟨h, wp, bl, bm, bk, bb, rfl, hw, _, _, _, hb⟩
        · exact ⟨_, none, trivial, rfl, Lib.hid hb, Lib.hid (fun e => absurd e h)⟩
        · exact ⟨0, _, trivial, rfl, Lib.hid hb, Lib.hid (fun _ => ⟨_, _, rfl, hw.nonces⟩)⟩
      clear hnew her
      have HB4 := Lib.hid (bt HB3.out hb4.out)
      by_cases h0 : er = 0
      rotate_left
      · have h1 : ((er : Int) != 0) = true := by simp; omega
        clear h0
        go_wp2_with fail
        go_ret
        exact ⟨rfl, HB4.out⟩
      obtain ⟨wa, f, rfl, hnf⟩ := hok4.out h0
      have HN := Lib.hid hnf
      subst h0
      clear hnf hok4 hb4
      by_cases hl60 : 60 < L0.length
      · have hl61 : (60 : Int) < (L0.length : Int) := by omega
        go_wp2_with fail
        go_ret
        exact ⟨rfl, HB4.out⟩
      have hl61 : ¬ (60 : Int) < (L0.length : Int) := by omega
      by_cases hn : (10000 : Int) < nI
      · go_wp2_with fail
        go_ret
        exact ⟨rfl, HB4.out⟩
      go_wp2_with fail
      refine (filled_any (m := m) HN.out (HV.out.later HB4.out) (fun t ht => (HXS.out t ht).later HB4.out) (by omega)).mono ?_
      rintro en w5 ⟨bp, vp, l, rfl, hps, hpl⟩
      have HPS := Lib.hid hps
      have hpl2 : l.length ≤ 60 := by omega
      clear hps hpl hl61 hn hl60 hlt2 hlt hk
      go_wp2_with fail
      refine (all_any HPS.out.pool (by omega)).mono ?_
      rintro en w6 ⟨vA, L, rfl, hLnv, hLr, hLo, hb6⟩
      have HPE := Lib.hid (HPS.out.later hb6)
      have HLR := Lib.hid (own_sl Tx.len hLr)
      have HLK := Lib.hid (show ∀ t ∈ L, TxOk w6 t from fun t ht => (hLo t ht).ok)
      have HLN := Lib.hid hLnv
      clear hLnv hLr hLo hb6
      go_wp2_with fail
      refine (order_any HPE.out.pool (HN.out.later HPE.out.below) (by omega)).mono ?_
      rintro en w7 ⟨vO, O, o, rfl, hOr, hOo, hOn, hord, hol, hb7⟩
      have HP7 := Lib.hid (HPE.out.later hb7)
      have HLP := Lib.hid (show Loops w7 (L.map Tx.nv) f (.pointer (some wa)) vA vO L O from ⟨HN.out.later HP7.out.below, HLR.out.later hb7, own_sl Tx.len hOr, fun t ht => (HLK.out t ht).later hb7, fun t ht => (hOo t ht).ok, fun t ht => by
        obtain ⟨y, hy, e⟩ := nv_mem HLN.out ht
        have h1 := HP7.out.pool.ok.ok y hy
        exact ⟨may_of e h1.may, by rw [show t.nonce = y.nonce from (congrArg Tx.nonce e).symm]; exact h1.n, by rw [show t.value = y.value from (congrArg Tx.value e).symm]; exact h1.v, by rw [show t.gas = y.gas from (congrArg Tx.gas e).symm]; exact h1.g, by rw [show t.price = y.price from (congrArg Tx.price e).symm]; exact h1.p⟩, by rw [HLN.out, ← hOn]; exact ord_nv hord, by have h := len_nv HLN.out; rw [List.length_map] at h; omega, by omega⟩)
      have HB7 := Lib.hid (show Below W.heap.size W w7 from bt HB4.out HP7.out.below)
      have HLM := Lib.hid (show L.length ≤ (max m 0).toNat from by have h := len_nv HLN.out; rw [List.length_map] at h; have h2 := HP7.out.pool.ok.len; omega)
      clear hOr hOo hOn hord hol hb7 HPE HLR HLK HLN HPS HN hpl2 HP7
      obtain ⟨sA, cA, hvA, hfA⟩ := HLP.out.lrow.form
      obtain ⟨sO, cO, hvO, hfO⟩ := HLP.out.orow.form
      subst hvA
      subst hvO
      have HFA := Lib.hid hfA
      have HFO := Lib.hid hfO
      clear hfA hfO
      have hmm := @run_makeMap Try.prog
      go_wp2_with fail
      have HB78 := Lib.hid (show Below w7.heap.size w7 (w7.alloc (.map #[] 0)) from (Below.refl _ _).alloc (Nat.le_refl _) _)
      have HM8 := Lib.hid (IsMap.new w7 A8.v)
      obtain ⟨w8, hw8⟩ : ∃ w8, w8 = w7.alloc (.map #[] 0) := ⟨_, rfl⟩
      obtain ⟨bN, hbN⟩ : ∃ bN, bN = w7.heap.size := ⟨_, rfl⟩
      rw [← hw8, ← hbN] at HM8
      rw [← hw8] at HB78
      rw [← hw8, ← hbN]
      have HbN := Lib.hid (show w7.heap.size ≤ bN from Nat.le_of_eq hbN.symm)
      clear hw8 hbN
      have hL60 : L.length ≤ 60 := HLP.out.llen
      have hO60 : O.length ≤ 60 := HLP.out.olen
      go_loopw [71] (fun iv wr => ∃ (k : Nat) (NL : List (A8 × Value)), k ≤ L.length ∧ iv = .int .i64 k ∧ IsMap A8.v wr bN NL ∧ (∀ u ∈ L.take k, valAt NL u.frm = some (.int .u64 (f u.frm))) ∧ Below w7.heap.size w7 wr) (fun iv _ => L.length - (RowKit.intOf iv).toNat)
      case atStart => exact ⟨0, [], Nat.zero_le _, rfl, HM8.out, fun u hu => (by cases hu), HB78.out⟩
      case round =>
        clear HB78 HM8 hmm
        obtain ⟨k, NL, hk, rfl, hm, hval, hb⟩ := hrel
        have HM := Lib.hid hm
        have HVL := Lib.hid hval
        have HB9 := Lib.hid hb
        clear hm hval hb
        obtain ⟨w9, hw9⟩ : ∃ w9, w9 = wr := ⟨_, rfl⟩
        rw [← hw9] at HM HB9 ⊢
        clear hw9
        by_cases hlt : k < L.length
        · have hlt2 : (k : Int) < (L.length : Int) := by omega
          obtain ⟨u, hu⟩ : ∃ u, L[k]? = some u := ⟨_, List.getElem?_eq_getElem hlt⟩
          obtain ⟨ga, oa, rfl, _⟩ := HFA.out (by intro e; rw [e] at hlt; simp at hlt)
          have HU := Lib.hid hu
          have OBu := Lib.hid (show (u.cs.toArray.all (·.oneCell')) = true from (HLP.out.lok u (List.mem_of_getElem? hu)).oneB)
          clear hu
          go_upto_region 18 with (first | (refine wpList_load_mid rfl 32 _ rfl ga (oa + k * 22) rfl u.cs _ (sl_range (HLP.out.lrow.later HB9.out) HU.out) Try.underlying32 rfl sizeTx ?_; (try simp only [Act.put, List.setIfInBounds_toArray, List.set_cons_zero, List.set_cons_succ])) | (refine wl_put (Lies.new _ _ _) u.cs _ _ rfl rfl rfl rfl rfl sizeTx OBu.out (fun w10 hl hf => ?_); have hb : Below w9.heap.size w9 w10 := below_put ((Below.refl w9.heap.size w9).alloc (Nat.le_refl _) _) hf (Nat.le_refl _); have HM10 := Lib.hid (map_later HM.out hb); have HB10 := Lib.hid (bt HB9.out hb); obtain ⟨Bu, hB⟩ : ∃ Bu, Bu = w9.heap.size := ⟨_, rfl⟩; rw [← hB] at hl ⊢; have HXBu := Lib.hid hl; clear hl hf hb hB; (try simp only [Act.put])))
          refine wp_region_t [(0, 1), (1, 1), (2, 1), (3, 1), (4, 1), (5, 1), (6, 0), (7, 0)] (fun w' => Lies w' Bu 32 u.cs.toArray) [] [] rfl (by kernel_rfl) (by kernel_rfl) (fun _ _ d _ _ h => by cases d <;> exact h) (HXBu.out.below (below_drew w10) HXBu.out.lt) (fun p hp => by cases hp) ?_
          have HM11 := Lib.hid (map_later HM10.out (below_drew w10))
          have HB11 := Lib.hid (bt HB10.out (below_drew w10))
          have HX11 := Lib.hid (HXBu.out.below (below_drew w10) HXBu.out.lt)
          generalize w10.drew = w11 at HM11 HB11 HX11 ⊢
          repeat (first | (refine ts_take (v := .agg u.frm.cs.toArray) rfl rfl (fun w' hw' => exec_load (frmE_range ((fun _ h => h) w' hw')) _ rfl rfl Try.underlying23 rfl sizeAd) ?_; (try simp only [Act.put, List.setIfInBounds_toArray, List.set_cons_zero, List.set_cons_succ])) | (refine ts_take (v := ?_) rfl rfl (fun w' hw' => ?_) ?_; rotate_left; (focus (skip; (try simp only [Act.put, List.setIfInBounds_toArray, List.set_cons_zero, List.set_cons_succ]); go_simp; (try go_bits); (try (with_reducible rfl)))); (try simp only [Act.put, List.setIfInBounds_toArray, List.set_cons_zero, List.set_cons_succ])))
          refine ts_run1 rfl rfl (fun K hK => ?_)
          go_simp
          refine (HLP.out.nonce.call _ HB11.out u.frm).mono ?_
          rintro en w12 ⟨rfl, hb12⟩
          have HM12 := Lib.hid (map_later HM11.out hb12)
          have HB12 := Lib.hid (bt HB11.out hb12)
          have HX12 := Lib.hid (HX11.out.below hb12 HX11.out.lt)
          clear hb12
          refine hK.out _ _ HX12.out (still_none _ _) ?_
          clear hK K
          (try simp only [Act.put, List.setIfInBounds_toArray, List.set_cons_zero, List.set_cons_succ])
          refine ts_run1 rfl rfl (fun K hK => ?_)
          refine wp_store encAddr Try.underlying41 HM12.out u.frm _ _ _ rfl rfl rfl (.int .u64 (f u.frm)) rfl (fun w13 hm13 hg13 _ => ?_)
          have HM13 := Lib.hid hm13
          have HB13 := Lib.hid (HB12.out.grown hg13 HB12.out.size (fun q hq => by cases hq; exact HbN.out))
          obtain ⟨es, ce, hmap, _⟩ := HM12.out.block
          have HX13 := Lib.hid (HX12.out.kept hg13 (fun e => HX12.out.not_map hmap (Option.some.inj e)))
          clear hm13 hg13 hmap
          refine hK.out _ _ HX13.out (still_none _ _) ?_
          clear hK K
          (try simp only [Act.put])
          refine ts_done ?_
          go_wp2_with fail
          go_roundw
          case rel => exact ⟨k + 1, _, hlt, by go_num, HM13.out, fun y hy => by
            rw [valAt_putAt]
            by_cases e : y.frm = u.frm
            · rw [if_pos e, e]
            · rw [if_neg e]
              rw [take_more HU.out, List.mem_append] at hy
              rcases hy with hy | hy
              · exact HVL.out y hy
              · obtain rfl := List.mem_singleton.1 hy
                exact absurd rfl e, HB13.out⟩
          case measure => simp [RowKit.intOf]; omega
        · have hlt2 : ¬ (k : Int) < (L.length : Int) := by omega
          have HKL := Lib.hid (show k = L.length from by omega)
          have HNX := Lib.hid (show ∀ u ∈ L, valAt NL u.frm = some (.int .u64 (f u.frm)) from by have h := HVL.out; rw [HKL.out, List.take_length] at h; exact h)
          clear HVL
          have hmm := @run_makeMap Try.prog
          go_wp2_with fail
          have HB10 := Lib.hid (show Below w9.heap.size w9 (w9.alloc (.map #[] 0)) from (Below.refl _ _).alloc (Nat.le_refl _) _)
          have HT10 := Lib.hid (IsMap.new w9 A8.v)
          have HMM := Lib.hid (map_later HM.out HB10.out)
          obtain ⟨w10, hw10⟩ : ∃ w10, w10 = w9.alloc (.map #[] 0) := ⟨_, rfl⟩
          have hsz : bN < w9.heap.size := HM.out.lt
          obtain ⟨bT, hbT⟩ : ∃ bT, bT = w9.heap.size := ⟨_, rfl⟩
          rw [← hw10] at HMM HB10
          rw [← hw10, ← hbT] at HT10
          rw [← hw10, ← hbT]
          have HLS := Lib.hid (show LS w7 bN bT L O 0 f NL [] w10 from ⟨HMM.out, HNX.out, ⟨HT10.out, fun a v hv => (by cases hv)⟩, HLP.out.ord, bt HB9.out HB10.out⟩)
          have HbT := Lib.hid (show w7.heap.size ≤ bT ∧ bT ≠ bN from ⟨by rw [hbT]; exact HB9.out.size, by omega⟩)
          clear hw10 hbT HT10 HMM HB10 HM HNX hsz HB9 hmm
          go_loopw [86] (fun iv wr => ∃ (k : Nat) (f : Nx) (NL TL : List (A8 × Value)), k ≤ O.length ∧ iv = .int .i64 k ∧ LS w7 bN bT L O k f NL TL wr) (fun iv _ => O.length - (RowKit.intOf iv).toNat)
          case atStart => exact ⟨0, f, NL, [], Nat.zero_le _, rfl, HLS.out⟩
          case round =>
            clear HLS
            obtain ⟨k, f, NL, TL, hk, rfl, hls⟩ := hrel
            have HLS := Lib.hid hls
            clear hls
            obtain ⟨w11, hw11⟩ : ∃ w11, w11 = wr := ⟨_, rfl⟩
            rw [← hw11] at HLS ⊢
            clear hw11
            by_cases hlt : k < O.length
            · have hlt2 : (k : Int) < (O.length : Int) := by omega
              obtain ⟨t, ht⟩ : ∃ t, O[k]? = some t := ⟨_, List.getElem?_eq_getElem hlt⟩
              obtain ⟨go, oo, rfl, _⟩ := HFO.out (by intro e; rw [e] at hlt; simp at hlt)
              have HT := Lib.hid ht
              have HTO := Lib.hid (HLP.out.ook t (List.mem_of_getElem? ht))
              have OBt := Lib.hid (show (t.cs.toArray.all (·.oneCell')) = true from HTO.out.oneB)
              obtain ⟨⟨hmem, hnon⟩, hbest, hnext⟩ := ord_head HLS.out.ord ht
              obtain ⟨y, hy, hyt⟩ := List.mem_map.1 hmem
              have HYT := Lib.hid (show valAt NL t.frm = some (.int .u64 (f t.frm)) from by rw [show t.frm = y.frm from (congrArg Tx.frm hyt).symm]; exact HLS.out.nval y hy)
              have HYO := Lib.hid (show t.nonce < 18446744073709551615 ∧ mayT t = 0 from ⟨by rw [show t.nonce = y.nonce from (congrArg Tx.nonce hyt).symm]; exact (HLP.out.ok y hy).n, may_of hyt (HLP.out.ok y hy).may⟩)
              have HNON := Lib.hid hnon
              have HBEST := Lib.hid hbest
              have HNEXT := Lib.hid hnext
              have hnf : ((t.nonce : Int) != (f t.frm : Int)) = false := by rw [hnon]; simp
              clear ht hmem hnon hbest hnext hyt hy
              go_upto_region 24 with (first | (refine wpList_load_mid rfl 32 _ rfl go (oo + k * 22) rfl t.cs _ (sl_range (HLP.out.orow.later HLS.out.below) HT.out) Try.underlying32 rfl sizeTx ?_; (try simp only [Act.put, List.setIfInBounds_toArray, List.set_cons_zero, List.set_cons_succ])) | (refine wl_put (Lies.new _ _ _) t.cs _ _ rfl rfl rfl rfl rfl sizeTx OBt.out (fun w12 hl hf => ?_); have hb : Below w11.heap.size w11 w12 := below_put ((Below.refl w11.heap.size w11).alloc (Nat.le_refl _) _) hf (Nat.le_refl _); have HL12 := Lib.hid (HLS.out.later hb); obtain ⟨Bt, hB⟩ : ∃ Bt, Bt = w11.heap.size := ⟨_, rfl⟩; rw [← hB] at hl ⊢; have HXBt := Lib.hid hl; clear hl hf hb hB; (try simp only [Act.put])))
              refine wp_region_t [(0, 1), (1, 1), (2, 1), (3, 1), (4, 1), (5, 1), (6, 1)] (fun w' => Below w12.heap.size w12 w') [] [] rfl (by kernel_rfl) (by kernel_rfl) (fun _ _ d _ _ h => by cases d <;> exact h) (below_drew w12) (fun p hp => by cases hp) ?_
              have HL13 := Lib.hid (HL12.out.later (below_drew w12))
              have HXt := Lib.hid (HXBt.out.below (below_drew w12) HXBt.out.lt)
              have HB1213 := Lib.hid (below_drew w12)
              generalize w12.drew = w13 at HL13 HXt HB1213 ⊢
              repeat (first | (refine ts_take (v := .agg t.frm.cs.toArray) rfl rfl (fun w' hw' => exec_load (frmE_range ((fun w' h => HXBt.out.below h HXBt.out.lt) w' hw')) _ rfl rfl Try.underlying23 rfl sizeAd) ?_; (try simp only [Act.put, List.setIfInBounds_toArray, List.set_cons_zero, List.set_cons_succ])) | (refine ts_take (v := .int .u64 (f t.frm)) rfl rfl (fun w' hw' => exec_run (look_u64 (map_later HL12.out.nmap hw') HYT.out) rfl rfl rfl) ?_; (try simp only [Act.put, List.setIfInBounds_toArray, List.set_cons_zero, List.set_cons_succ])) | (refine ts_take (v := ?_) rfl rfl (fun w' hw' => ?_) ?_; rotate_left; (focus (have q17 : w'.cell? ⟨Bt, 17, none⟩ = some (.int .u64 t.nonce) := (HXBt.out.below hw' HXBt.out.lt).cell 17; (try simp only [Act.put, List.setIfInBounds_toArray, List.set_cons_zero, List.set_cons_succ]); go_simp; (try go_bits); (try (with_reducible rfl)))); (try simp only [Act.put, List.setIfInBounds_toArray, List.set_cons_zero, List.set_cons_succ])))
              refine ts_done ?_
              clear HL12 HXBt HB1213
              go_wp2_with fail
              go_loopw [99] (fun iv wr => ∃ j : Nat, j ≤ L.length ∧ iv = .int .i64 j ∧ Below w13.heap.size w13 wr) (fun iv _ => L.length - (RowKit.intOf iv).toNat)
              case atStart => exact ⟨0, Nat.zero_le _, rfl, Below.refl _ _⟩
              case round =>
                obtain ⟨j, hj, rfl, hb⟩ := hrel
                have HB14 := Lib.hid hb
                clear hb
                obtain ⟨w14, hw14⟩ : ∃ w14, w14 = wr := ⟨_, rfl⟩
                rw [← hw14] at HB14 ⊢
                clear hw14
                by_cases hjl : j < L.length
                · have hjl2 : (j : Int) < (L.length : Int) := by omega
                  obtain ⟨u, hu⟩ : ∃ u, L[j]? = some u := ⟨_, List.getElem?_eq_getElem hjl⟩
                  obtain ⟨ga, oa, rfl, _⟩ := HFA.out (by intro e; rw [e] at hjl; simp at hjl)
                  have HU := Lib.hid hu
                  have HUO := Lib.hid (HLP.out.lok u (List.mem_of_getElem? hu))
                  have OBu := Lib.hid (show (u.cs.toArray.all (·.oneCell')) = true from HUO.out.oneB)
                  clear hu
                  go_upto_region 29 with (first | (refine wpList_load_mid rfl 32 _ rfl ga (oa + j * 22) rfl u.cs _ (sl_range (HLP.out.lrow.later (bt HL13.out.below HB14.out)) HU.out) Try.underlying32 rfl sizeTx ?_; (try simp only [Act.put, List.setIfInBounds_toArray, List.set_cons_zero, List.set_cons_succ])) | (refine wl_put (Lies.new _ _ _) u.cs _ _ rfl rfl rfl rfl rfl sizeTx OBu.out (fun w15 hl hf => ?_); have hb : Below w14.heap.size w14 w15 := below_put ((Below.refl w14.heap.size w14).alloc (Nat.le_refl _) _) hf (Nat.le_refl _); have HB15 := Lib.hid (bt HB14.out hb); obtain ⟨Bu, hB⟩ : ∃ Bu, Bu = w14.heap.size := ⟨_, rfl⟩; rw [← hB] at hl ⊢; have HXBu := Lib.hid hl; clear hl hf hb hB; (try simp only [Act.put])))
                  have HL15 := Lib.hid (HL13.out.later HB15.out)
                  obtain ⟨mv, is, htw⟩ := HL15.out.told.two u.frm ⟨u.nonce, by have := (HLP.out.ok u (List.mem_of_getElem? HU.out)).n; omega⟩
                  have HTW := Lib.hid htw
                  clear htw
                  refine wp_region_t [(0, 1), (1, 1), (2, 1), (3, 1), (4, 1), (5, 1), (6, 1), (7, 1), (8, 1), (9, 1), (10, 0), (11, 0), (12, 1)] (fun w' => Below w15.heap.size w15 w') [] [] rfl (by kernel_rfl) (by kernel_rfl) (fun _ _ d _ _ h => by cases d <;> exact h) (below_drew w15) (fun p hp => by cases hp) ?_
                  have HB16 := Lib.hid (below_drew w15)
                  generalize w15.drew = w16 at HB16 ⊢
                  repeat (first | (refine ts_take (v := .agg u.frm.cs.toArray) rfl rfl (fun w' hw' => exec_load (frmE_range ((fun w' h => HXBu.out.below h HXBu.out.lt) w' hw')) _ rfl rfl Try.underlying23 rfl sizeAd) ?_; (try simp only [Act.put, List.setIfInBounds_toArray, List.set_cons_zero, List.set_cons_succ])) | (refine ts_take (v := mv) rfl rfl (fun w' hw' => exec_run (HTW.out w' hw').1 rfl rfl rfl) ?_; (try simp only [Act.put, List.setIfInBounds_toArray, List.set_cons_zero, List.set_cons_succ])) | (refine ts_take (v := .tuple #[.agg #[], .bool is]) rfl rfl (fun w' hw' => exec_run (HTW.out w' hw').2 rfl rfl rfl) ?_; (try simp only [Act.put, List.setIfInBounds_toArray, List.set_cons_zero, List.set_cons_succ])) | (refine ts_take (v := ?_) rfl rfl (fun w' hw' => ?_) ?_; rotate_left; (focus (have q17 : w'.cell? ⟨Bu, 17, none⟩ = some (.int .u64 u.nonce) := (HXBu.out.below hw' HXBu.out.lt).cell 17; (try simp only [Act.put, List.setIfInBounds_toArray, List.set_cons_zero, List.set_cons_succ]); go_simp; (try go_bits); (try (with_reducible rfl)))); (try simp only [Act.put, List.setIfInBounds_toArray, List.set_cons_zero, List.set_cons_succ])))
                  refine ts_run1 rfl rfl (fun K hK => ?_)
                  go_simp
                  have HB17 := Lib.hid (HB16.out.alloc HB16.out.size (.cells #[] 44))
                  refine hK.out _ _ HB17.out (still_none _ _) ?_
                  clear hK K
                  (try simp only [Act.put, List.setIfInBounds_toArray, List.set_cons_zero, List.set_cons_succ])
                  refine ts_run1 rfl rfl (fun K hK => ?_)
                  go_simp
                  refine hK.out _ _ HB17.out (still_none _ _) ?_
                  clear hK K
                  (try simp only [Act.put, List.setIfInBounds_toArray, List.set_cons_zero, List.set_cons_succ])
                  repeat (first | (refine ts_take (v := ?_) rfl rfl (fun w' hw' => ?_) ?_; rotate_left; (focus (skip; (try simp only [Act.put, List.setIfInBounds_toArray, List.set_cons_zero, List.set_cons_succ]); go_simp; (try go_bits); (try (with_reducible rfl)))); (try simp only [Act.put, List.setIfInBounds_toArray, List.set_cons_zero, List.set_cons_succ])) | (refine ts_skip rfl rfl ?_; (try simp only [Act.put, List.setIfInBounds_toArray, List.set_cons_zero, List.set_cons_succ])))
                  refine ts_done ?_
                  have HL18 := Lib.hid (HL15.out.later HB17.out)
                  have HXu := Lib.hid (HXBu.out.below HB17.out HXBu.out.lt)
                  have HB18 := Lib.hid (bt HB15.out HB17.out)
                  have HX2t := Lib.hid (HXt.out.below HB18.out HXt.out.lt)
                  obtain ⟨w18, hw18⟩ : ∃ w18, w18 = w16.alloc (.cells #[] 44) := ⟨_, rfl⟩
                  rw [← hw18] at HL18 HXu HB18 HX2t ⊢
                  clear hw18 HB16 HB17 HXBu HL15 HTW
                  go_upto_region 30 with fail
                  cases is with
                  | true =>
                    refine wp_region_t [(0, 1), (1, 1), (2, 1), (3, 1), (4, 1), (5, 1), (6, 1), (7, 1), (8, 1), (9, 1), (10, 1), (11, 1), (12, 1), (13, 1), (14, 0), (15, 1)] (fun w' => Below w18.heap.size w18 w') [] [] rfl (by kernel_rfl) (by kernel_rfl) (fun _ _ d _ _ h => by cases d <;> exact h) (below_drew w18) (fun p hp => by cases hp) ?_
                    have HB19 := Lib.hid (below_drew w18)
                    generalize w18.drew = w19 at HB19 ⊢
                    repeat (first | (refine ts_take (v := .agg u.frm.cs.toArray) rfl rfl (fun w' hw' => exec_load (frmE_range ((fun w' h => HXu.out.below h HXu.out.lt) w' hw')) _ rfl rfl Try.underlying23 rfl sizeAd) ?_; (try simp only [Act.put, List.setIfInBounds_toArray, List.set_cons_zero, List.set_cons_succ])) | (refine ts_take (v := .int .u64 (f u.frm)) rfl rfl (fun w' hw' => exec_run (look_u64 (map_later HL18.out.nmap hw') (HL18.out.nval u (List.mem_of_getElem? HU.out))) rfl rfl rfl) ?_; (try simp only [Act.put, List.setIfInBounds_toArray, List.set_cons_zero, List.set_cons_succ])) | (refine ts_take (v := .agg u.cs.toArray) rfl rfl (fun w' hw' => exec_load (lies_range (HXu.out.below hw' HXu.out.lt)) _ rfl rfl Try.underlying32 rfl sizeTx) ?_; (try simp only [Act.put, List.setIfInBounds_toArray, List.set_cons_zero, List.set_cons_succ])) | (refine ts_take (v := .agg t.cs.toArray) rfl rfl (fun w' hw' => exec_load (lies_range (HX2t.out.below hw' HX2t.out.lt)) _ rfl rfl Try.underlying32 rfl sizeTx) ?_; (try simp only [Act.put, List.setIfInBounds_toArray, List.set_cons_zero, List.set_cons_succ])) | (refine ts_take (v := ?_) rfl rfl (fun w' hw' => ?_) ?_; rotate_left; (focus (have q17 : w'.cell? ⟨Bu, 17, none⟩ = some (.int .u64 u.nonce) := (HXu.out.below hw' HXu.out.lt).cell 17; (try simp only [Act.put, List.setIfInBounds_toArray, List.set_cons_zero, List.set_cons_succ]); go_simp; (try go_bits); (try (with_reducible rfl)))); (try simp only [Act.put, List.setIfInBounds_toArray, List.set_cons_zero, List.set_cons_succ])) | (refine ts_skip rfl rfl ?_; (try simp only [Act.put, List.setIfInBounds_toArray, List.set_cons_zero, List.set_cons_succ])))
                    refine ts_pass rfl rfl HB19.out (still_none _ _) ?_
                    (try simp only [Act.put, List.setIfInBounds_toArray, List.set_cons_zero, List.set_cons_succ])
                    repeat (first | (refine ts_take (v := ?_) rfl rfl (fun w' hw' => ?_) ?_; rotate_left; (focus (skip; (try simp only [Act.put, List.setIfInBounds_toArray, List.set_cons_zero, List.set_cons_succ]); go_simp; (try go_bits); (try (with_reducible rfl)))); (try simp only [Act.put, List.setIfInBounds_toArray, List.set_cons_zero, List.set_cons_succ])) | (refine ts_skip rfl rfl ?_; (try simp only [Act.put, List.setIfInBounds_toArray, List.set_cons_zero, List.set_cons_succ])))
                    refine ts_done ?_
                    go_wp2_with fail
                    go_roundw
                    case rel => exact ⟨j + 1, hjl, by go_num, bt HB18.out HB19.out⟩
                    case measure => simp [RowKit.intOf]; omega
                  | false =>
                    by_cases hnu : u.nonce = f u.frm
                    · have HNU := Lib.hid hnu
                      have hnu2 : ((u.nonce : Int) == (f u.frm : Int)) = true := by rw [hnu]; simp
                      clear hnu
                      refine wp_region_t [(0, 1), (1, 1), (2, 1), (3, 1), (4, 1), (5, 1), (6, 1), (7, 1), (8, 1), (9, 1), (10, 1), (11, 1), (12, 1), (13, 1), (14, 0), (15, 1)] (fun w' => Below w18.heap.size w18 w') [] [] rfl (by kernel_rfl) (by kernel_rfl) (fun _ _ d _ _ h => by cases d <;> exact h) (below_drew w18) (fun p hp => by cases hp) ?_
                      have HB19 := Lib.hid (below_drew w18)
                      generalize w18.drew = w19 at HB19 ⊢
                      repeat (first | (refine ts_take (v := .agg u.frm.cs.toArray) rfl rfl (fun w' hw' => exec_load (frmE_range ((fun w' h => HXu.out.below h HXu.out.lt) w' hw')) _ rfl rfl Try.underlying23 rfl sizeAd) ?_; (try simp only [Act.put, List.setIfInBounds_toArray, List.set_cons_zero, List.set_cons_succ])) | (refine ts_take (v := .int .u64 (f u.frm)) rfl rfl (fun w' hw' => exec_run (look_u64 (map_later HL18.out.nmap hw') (HL18.out.nval u (List.mem_of_getElem? HU.out))) rfl rfl rfl) ?_; (try simp only [Act.put, List.setIfInBounds_toArray, List.set_cons_zero, List.set_cons_succ])) | (refine ts_take (v := .agg u.cs.toArray) rfl rfl (fun w' hw' => exec_load (lies_range (HXu.out.below hw' HXu.out.lt)) _ rfl rfl Try.underlying32 rfl sizeTx) ?_; (try simp only [Act.put, List.setIfInBounds_toArray, List.set_cons_zero, List.set_cons_succ])) | (refine ts_take (v := .agg t.cs.toArray) rfl rfl (fun w' hw' => exec_load (lies_range (HX2t.out.below hw' HX2t.out.lt)) _ rfl rfl Try.underlying32 rfl sizeTx) ?_; (try simp only [Act.put, List.setIfInBounds_toArray, List.set_cons_zero, List.set_cons_succ])) | (refine ts_take (v := ?_) rfl rfl (fun w' hw' => ?_) ?_; rotate_left; (focus (have q17 : w'.cell? ⟨Bu, 17, none⟩ = some (.int .u64 u.nonce) := (HXu.out.below hw' HXu.out.lt).cell 17; (try simp only [Act.put, List.setIfInBounds_toArray, List.set_cons_zero, List.set_cons_succ]); go_simp; (try go_bits); (try (with_reducible rfl)))); (try simp only [Act.put, List.setIfInBounds_toArray, List.set_cons_zero, List.set_cons_succ])) | (refine ts_skip rfl rfl ?_; (try simp only [Act.put, List.setIfInBounds_toArray, List.set_cons_zero, List.set_cons_succ])))
                      refine ts_run1 rfl rfl (fun K hK => ?_)
                      go_simp
                      have hbt := better_any (W := w19) (x := u) (y := t) (HUO.out.later (bt HL18.out.below HB19.out)) (HTO.out.later (bt HL18.out.below HB19.out)) (HLP.out.ok u (List.mem_of_getElem? HU.out)).may HYO.out.2
                      rw [decide_eq_false (show ¬ rank u t < 0 from by have h := HBEST.out u (List.mem_map.2 ⟨u, List.mem_of_getElem? HU.out, rfl⟩) HNU.out; omega)] at hbt
                      refine hbt.mono ?_
                      clear hbt
                      rintro en w20 ⟨rfl, hb20⟩
                      have HB20 := Lib.hid (bt HB19.out hb20)
                      clear hb20
                      refine hK.out _ _ HB20.out (still_none _ _) ?_
                      clear hK K
                      (try simp only [Act.put, List.setIfInBounds_toArray, List.set_cons_zero, List.set_cons_succ])
                      repeat (first | (refine ts_take (v := ?_) rfl rfl (fun w' hw' => ?_) ?_; rotate_left; (focus (skip; (try simp only [Act.put, List.setIfInBounds_toArray, List.set_cons_zero, List.set_cons_succ]); go_simp; (try go_bits); (try (with_reducible rfl)))); (try simp only [Act.put, List.setIfInBounds_toArray, List.set_cons_zero, List.set_cons_succ])) | (refine ts_skip rfl rfl ?_; (try simp only [Act.put, List.setIfInBounds_toArray, List.set_cons_zero, List.set_cons_succ])))
                      refine ts_done ?_
                      go_wp2_with fail
                      go_roundw
                      case rel => exact ⟨j + 1, hjl, by go_num, bt HB18.out HB20.out⟩
                      case measure => simp [RowKit.intOf]; omega
                    · have hnu2 : ((u.nonce : Int) == (f u.frm : Int)) = false := by simp; omega
                      clear hnu
                      refine wp_region_t [(0, 1), (1, 1), (2, 1), (3, 1), (4, 1), (5, 1), (6, 1), (7, 1), (8, 1), (9, 1), (10, 1), (11, 1), (12, 1), (13, 1), (14, 0), (15, 1)] (fun w' => Below w18.heap.size w18 w') [] [] rfl (by kernel_rfl) (by kernel_rfl) (fun _ _ d _ _ h => by cases d <;> exact h) (below_drew w18) (fun p hp => by cases hp) ?_
                      have HB19 := Lib.hid (below_drew w18)
                      generalize w18.drew = w19 at HB19 ⊢
                      repeat (first | (refine ts_take (v := .agg u.frm.cs.toArray) rfl rfl (fun w' hw' => exec_load (frmE_range ((fun w' h => HXu.out.below h HXu.out.lt) w' hw')) _ rfl rfl Try.underlying23 rfl sizeAd) ?_; (try simp only [Act.put, List.setIfInBounds_toArray, List.set_cons_zero, List.set_cons_succ])) | (refine ts_take (v := .int .u64 (f u.frm)) rfl rfl (fun w' hw' => exec_run (look_u64 (map_later HL18.out.nmap hw') (HL18.out.nval u (List.mem_of_getElem? HU.out))) rfl rfl rfl) ?_; (try simp only [Act.put, List.setIfInBounds_toArray, List.set_cons_zero, List.set_cons_succ])) | (refine ts_take (v := .agg u.cs.toArray) rfl rfl (fun w' hw' => exec_load (lies_range (HXu.out.below hw' HXu.out.lt)) _ rfl rfl Try.underlying32 rfl sizeTx) ?_; (try simp only [Act.put, List.setIfInBounds_toArray, List.set_cons_zero, List.set_cons_succ])) | (refine ts_take (v := .agg t.cs.toArray) rfl rfl (fun w' hw' => exec_load (lies_range (HX2t.out.below hw' HX2t.out.lt)) _ rfl rfl Try.underlying32 rfl sizeTx) ?_; (try simp only [Act.put, List.setIfInBounds_toArray, List.set_cons_zero, List.set_cons_succ])) | (refine ts_take (v := ?_) rfl rfl (fun w' hw' => ?_) ?_; rotate_left; (focus (have q17 : w'.cell? ⟨Bu, 17, none⟩ = some (.int .u64 u.nonce) := (HXu.out.below hw' HXu.out.lt).cell 17; (try simp only [Act.put, List.setIfInBounds_toArray, List.set_cons_zero, List.set_cons_succ]); go_simp; (try go_bits); (try (with_reducible rfl)))); (try simp only [Act.put, List.setIfInBounds_toArray, List.set_cons_zero, List.set_cons_succ])) | (refine ts_skip rfl rfl ?_; (try simp only [Act.put, List.setIfInBounds_toArray, List.set_cons_zero, List.set_cons_succ])))
                      refine ts_pass rfl rfl HB19.out (still_none _ _) ?_
                      (try simp only [Act.put, List.setIfInBounds_toArray, List.set_cons_zero, List.set_cons_succ])
                      repeat (first | (refine ts_take (v := ?_) rfl rfl (fun w' hw' => ?_) ?_; rotate_left; (focus (skip; (try simp only [Act.put, List.setIfInBounds_toArray, List.set_cons_zero, List.set_cons_succ]); go_simp; (try go_bits); (try (with_reducible rfl)))); (try simp only [Act.put, List.setIfInBounds_toArray, List.set_cons_zero, List.set_cons_succ])) | (refine ts_skip rfl rfl ?_; (try simp only [Act.put, List.setIfInBounds_toArray, List.set_cons_zero, List.set_cons_succ])))
                      refine ts_done ?_
                      go_wp2_with fail
                      go_roundw
                      case rel => exact ⟨j + 1, hjl, by go_num, bt HB18.out HB19.out⟩
                      case measure => simp [RowKit.intOf]; omega
                · have hjl2 : ¬ (j : Int) < (L.length : Int) := by omega
                  have HL20 := Lib.hid (HL13.out.later HB14.out)
                  have HX20 := Lib.hid (HXt.out.below HB14.out HXt.out.lt)
                  clear HL13 HXt HB14
                  have hmm := @run_makeMap Try.prog
                  obtain ⟨mo, hmo, hm1, hm2⟩ := HL20.out.told.first t.frm
                  have HMO := Lib.hid hmo
                  have HM1 := Lib.hid hm1
                  have HM2 := Lib.hid hm2
                  obtain ⟨bn, hbn⟩ : ∃ bn, bn = mo.isNone := ⟨_, rfl⟩
                  have heq : (binOp .eql 46 (.map mo) (.map none)).run Try.prog w14 = .ok (.bool bn) w14 := by rw [hbn]; exact eql_map w14 mo
                  have HBN := Lib.hid hbn
                  clear hmo hm1 hm2 hbn
                  go_upto_if 134 with (first | (refine wpList_load_mid rfl 23 _ rfl Bt 1 rfl t.frm.cs _ (frmE_range HX20.out) Try.underlying23 rfl sizeAd ?_; (try simp only [Act.put, List.setIfInBounds_toArray, List.set_cons_zero, List.set_cons_succ])) | (refine wl_val (v := .map mo) rfl (exec_run HMO.out rfl rfl rfl) ?_; (try simp only [Act.put, List.setIfInBounds_toArray, List.set_cons_zero, List.set_cons_succ])))
                  clear heq
                  go_cut [] from 135 to 138 (fun wx => ∃ (bi : Nat) (TL' : List (A8 × Value)) (M : List (N64 × Value)), TM w7 bN bT L O k f NL t Bt bi TL' M wx)
                  case first =>
                    cases bn with
                    | true =>
                      have HTL := Lib.hid (HM1.out HBN.out.symm)
                      clear HM1 HM2
                      have HA := Lib.hid (show Below w14.heap.size w14 (w14.alloc (.map #[] 0)) from (Below.refl _ _).alloc (Nat.le_refl _) _)
                      have HL21 := Lib.hid (HL20.out.later HA.out)
                      have HX21 := Lib.hid (HX20.out.below HA.out HX20.out.lt)
                      have HI21 := Lib.hid (IsMap.new w14 uk)
                      have HQ := Lib.hid (show w14.heap.size ≠ bT ∧ w14.heap.size ≠ bN ∧ w7.heap.size ≤ w14.heap.size from ⟨by have := HL20.out.told.map.lt; omega, by have := HL20.out.nmap.lt; omega, HL20.out.below.size⟩)
                      clear HA
                      go_wp2_with (first | (refine wpList_load_mid rfl 23 _ rfl Bt 1 rfl t.frm.cs _ (frmE_range HX20.out) Try.underlying23 rfl sizeAd ?_; (try simp only [Act.put, List.setIfInBounds_toArray, List.set_cons_zero, List.set_cons_succ])) | (refine wpl_store encAddr Try.underlying43 HL21.out.told.map t.frm _ _ _ rfl rfl (by exact rfl) (by exact rfl) (.map (some w14.heap.size)) (by exact rfl) (fun w22 hm22 hg22 _ => ?_); have HM22 := Lib.hid hm22; have HG22 := Lib.hid hg22; clear hm22 hg22; (try simp only [Act.put])))
                      obtain ⟨es, ce, hmap, _⟩ := HL21.out.told.map.block
                      have HX22 := Lib.hid (HX21.out.kept HG22.out (fun e => HX21.out.not_map hmap (Option.some.inj e)))
                      have HT22 := Lib.hid (HL21.out.told.new (a := t.frm) HI21.out HQ.out.1 HQ.out.2.1 HQ.out.2.2 HM22.out HG22.out)
                      have HTM := Lib.hid (show TM w7 bN bT L O k f NL t Bt w14.heap.size (putAt TL t.frm (.map (some w14.heap.size))) [] w22 from ⟨⟨HL21.out.nmap.kept HG22.out (fun e => HbT.out.2 (Option.some.inj e).symm), HL21.out.nval, HT22.out, HL21.out.ord, HL21.out.below.grown HG22.out HL21.out.below.size (fun q hq => by obtain rfl := Option.some.inj hq; exact HbT.out.1)⟩, by rw [valAt_putAt, if_pos rfl], HI21.out.kept HG22.out (fun e => HQ.out.1 (Option.some.inj e)), fun n x hx => (by cases hx), HQ.out.1, HQ.out.2.1, HQ.out.2.2, HX22.out⟩)
                      go_meet
                      exact ⟨_, _, _, HTM.out⟩
                    | false =>
                      obtain ⟨bi, hbi⟩ := HM2.out HBN.out.symm
                      obtain ⟨bj, M, e, hM, hval, n1, n2, n3⟩ := HL20.out.told.val _ _ hbi
                      cases e
                      have HTM := Lib.hid (show TM w7 bN bT L O k f NL t Bt bi TL M w14 from ⟨HL20.out, hbi, hM, hval, n1, n2, n3, HX20.out⟩)
                      clear HM1 HM2 hbi hM hval n1 n2 n3 hmm
                      go_wp2_with fail
                      go_meet
                      exact ⟨bi, TL, M, HTM.out⟩
                  case rest =>
                    obtain ⟨bi, TL', M, htm⟩ := hcut
                    have HTM := Lib.hid htm
                    clear htm HM1 HM2 HMO HBN HL20 HX20 hmm
                    go_upto_region 35 with fail
                    refine wp_region_t [(0, 1), (1, 1), (2, 1), (3, 1), (4, 1), (5, 1), (6, 1), (7, 0)] (fun w' => Lies w' Bt 32 t.cs.toArray ∧ (Instr.lookup 43 (.map (some bT)) t.frm.v false).run Try.prog w' = .ok (.map (some bi)) w') [] [] rfl (by kernel_rfl) (by kernel_rfl) (fun _ _ d _ _ h => by cases d <;> exact h) ⟨HTM.out.box.below (below_drew wc) HTM.out.box.lt, look_map (map_later HTM.out.ls.told.map (below_drew wc)) HTM.out.at_⟩ (fun p hp => by cases hp) ?_
                    have HS23 := Lib.hid (HTM.out.ls.later (below_drew wc))
                    have HM23 := Lib.hid (HTM.out.map.of_block ((below_drew wc).block bi HTM.out.map.lt))
                    have HX23 := Lib.hid (HTM.out.box.below (below_drew wc) HTM.out.box.lt)
                    generalize wc.drew = w23 at HS23 HM23 HX23 ⊢
                    repeat (first | (refine ts_take (v := .agg t.frm.cs.toArray) rfl rfl (fun w' hw' => exec_load (frmE_range ((fun _ h => h.1) w' hw')) _ rfl rfl Try.underlying23 rfl sizeAd) ?_; (try simp only [Act.put, List.setIfInBounds_toArray, List.set_cons_zero, List.set_cons_succ])) | (refine ts_take (v := .map (some bi)) rfl rfl (fun w' hw' => exec_run hw'.2 rfl rfl rfl) ?_; (try simp only [Act.put, List.setIfInBounds_toArray, List.set_cons_zero, List.set_cons_succ])) | (refine ts_take (v := .agg #[]) rfl rfl (fun w' hw' => wb_op (ty := 44) (args := #[]) rfl (by kernel_rfl)) ?_; (try simp only [Act.put, List.setIfInBounds_toArray, List.set_cons_zero, List.set_cons_succ])) | (refine ts_take (v := ?_) rfl rfl (fun w' hw' => ?_) ?_; rotate_left; (focus (have q17 : w'.cell? ⟨Bt, 17, none⟩ = some (.int .u64 t.nonce) := hw'.1.cell 17; (try simp only [Act.put, List.setIfInBounds_toArray, List.set_cons_zero, List.set_cons_succ]); go_simp; (try go_bits); (try (with_reducible rfl)))); (try simp only [Act.put, List.setIfInBounds_toArray, List.set_cons_zero, List.set_cons_succ])))
                    refine ts_run1 rfl rfl (fun K hK => ?_)
                    refine wp_store encU Try.underlying46 HM23.out ⟨t.nonce, by have := HYO.out.1; omega⟩ _ _ _ rfl rfl rfl (.agg #[]) rfl (fun w24 hm24 hg24 _ => ?_)
                    obtain ⟨es, ce, hmap, _⟩ := HM23.out.block
                    have HX24 := Lib.hid (HX23.out.kept hg24 (fun e => HX23.out.not_map hmap (Option.some.inj e)))
                    have HT24 := Lib.hid (HS23.out.told.more HTM.out.val HTM.out.n1 HTM.out.n2 hm24 hg24 HTM.out.n3)
                    have HN24 := Lib.hid (HS23.out.nmap.kept hg24 (fun e => HTM.out.n2 (Option.some.inj e).symm))
                    have HB24 := Lib.hid (show Below w7.heap.size w7 w24 from HS23.out.below.grown hg24 HS23.out.below.size (fun q hq => by obtain rfl := Option.some.inj hq; exact HTM.out.n3))
                    have HAT := Lib.hid HTM.out.at_
                    clear hm24 hg24 hmap HTM HS23 HM23 HX23
                    refine hK.out _ _ ⟨HX24.out, look_map HT24.out.map HAT.out⟩ (still_none _ _) ?_
                    clear hK K
                    (try simp only [Act.put])
                    refine ts_done ?_
                    go_upto_region 36 with fail
                    refine wp_region_t [(0, 1), (1, 1), (2, 1), (3, 2), (4, 1), (5, 0), (6, 1), (7, 0)] (fun w' => Lies w' Bt 32 t.cs.toArray) [(7, fun w' => (Instr.lookup 41 (.map (some bN)) t.frm.v false).run Try.prog w' = .ok (.int .u64 (f t.frm)) w')] [7] rfl (by kernel_rfl) (by kernel_rfl) (fun _ _ d _ _ h => by cases d <;> exact h) (HX24.out.below (below_drew w24) HX24.out.lt) (fun p hp => by obtain rfl := List.mem_singleton.1 hp; exact look_u64 (map_later HN24.out (below_drew w24)) HYT.out) ?_
                    have HX25 := Lib.hid (HX24.out.below (below_drew w24) HX24.out.lt)
                    have HT25 := Lib.hid (HT24.out.later (below_drew w24))
                    have HN25 := Lib.hid (map_later HN24.out (below_drew w24))
                    have HB25 := Lib.hid (bt HB24.out (below_drew w24))
                    generalize w24.drew = w25 at HX25 HT25 HN25 HB25 ⊢
                    have hwr : IntKind.u64.wrap ((f t.frm : Int) + 1) = (f t.frm : Int) + 1 := IntWalk.u64_in _ (by have h1 := HYO.out.1; have h2 := HNON.out; omega)
                    repeat (first | (refine ts_take (v := .agg t.frm.cs.toArray) rfl rfl (fun w' hw' => exec_load (frmE_range ((fun _ h => h) w' hw')) _ rfl rfl Try.underlying23 rfl sizeAd) ?_; (try simp only [Act.put, List.setIfInBounds_toArray, List.set_cons_zero, List.set_cons_succ])) | (refine ts_take2 (v := .int .u64 (f t.frm)) rfl rfl (fun w' hw' hx' => exec_run (hx' _ (.head _) rfl) rfl rfl rfl) ?_; (try simp only [Act.put, List.setIfInBounds_toArray, List.set_cons_zero, List.set_cons_succ])) | (refine ts_take (v := ?_) rfl rfl (fun w' hw' => ?_) ?_; rotate_left; (focus (skip; (try simp only [Act.put, List.setIfInBounds_toArray, List.set_cons_zero, List.set_cons_succ]); go_simp; (try go_bits); (try (with_reducible rfl)))); (try simp only [Act.put, List.setIfInBounds_toArray, List.set_cons_zero, List.set_cons_succ])))
                    refine ts_run1 rfl rfl (fun K hK => ?_)
                    refine wp_entry encAddr Try.underlying41 HN25.out t.frm HYT.out _ _ rfl rfl rfl (fun st w26 hg26 hm26 hes => ?_)
                    obtain ⟨es, ce, hmap, _⟩ := HN25.out.block
                    have HX26 := Lib.hid (HX25.out.kept hg26 (fun e => HX25.out.not_map hmap (Option.some.inj e)))
                    have HT26 := Lib.hid (HT25.out.next hg26 HbT.out.2)
                    have HB26 := Lib.hid (show Below w7.heap.size w7 w26 from HB25.out.grown hg26 HB25.out.size (fun q hq => by obtain rfl := Option.some.inj hq; exact HbN.out))
                    have HM26 := Lib.hid hm26
                    have HES := Lib.hid hes
                    clear hg26 hm26 hes hmap HX25 HT25 HB25 HN25
                    refine hK.out _ _ HX26.out (still_one (.inr (look_u64 HM26.out HYT.out))) ?_
                    clear hK K
                    (try simp only [Act.put, List.setIfInBounds_toArray, List.set_cons_zero, List.set_cons_succ])
                    repeat (first | (refine ts_take (v := ?_) rfl rfl (fun w' hw' => ?_) ?_; rotate_left; (focus (skip; (try simp only [Act.put, List.setIfInBounds_toArray, List.set_cons_zero, List.set_cons_succ]); go_simp; (try go_bits); (try (with_reducible rfl)))); (try simp only [Act.put, List.setIfInBounds_toArray, List.set_cons_zero, List.set_cons_succ])))
                    refine ts_run1 rfl rfl (fun K hK => ?_)
                    obtain ⟨w27, hrun, hm27, hg27⟩ := HES.out (.int .u64 ((f t.frm : Int) + 1))
                    refine wp_entryStore _ _ _ rfl (.int .u64 ((f t.frm : Int) + 1)) rfl rfl rfl hrun ?_
                    obtain ⟨es, ce, hmap, _⟩ := HM26.out.block
                    have HX27 := Lib.hid (HX26.out.kept hg27 (fun e => HX26.out.not_map hmap (Option.some.inj e)))
                    have HLS2 := Lib.hid (show LS w7 bN bT L O (k + 1) (f.set t.frm (t.nonce + 1)) (putAt NL t.frm (.int .u64 ((f t.frm : Int) + 1))) TL' w27 from ⟨hm27, fun u hu => by
                      rw [valAt_putAt]
                      by_cases e : u.frm = t.frm
                      · rw [if_pos e]
                        have h1 : f.set t.frm (t.nonce + 1) u.frm = t.nonce + 1 := if_pos e
                        rw [h1, HNON.out]
                        rfl
                      · rw [if_neg e]
                        have h1 : f.set t.frm (t.nonce + 1) u.frm = f u.frm := if_neg e
                        rw [h1]
                        exact HLS.out.nval u hu, HT26.out.next hg27 HbT.out.2, HNEXT.out, HB26.out.grown hg27 HB26.out.size (fun q hq => by obtain rfl := Option.some.inj hq; exact HbN.out)⟩)
                    clear hrun hm27 hg27 hmap HES HM26 HX26 HT26 HB26
                    refine hK.out _ _ HX27.out (still_one (.inl rfl)) ?_
                    clear hK K
                    (try simp only [Act.put])
                    refine ts_done ?_
                    go_wp2_with fail
                    go_roundw
                    case rel => exact ⟨k + 1, _, _, TL', hlt, by go_num, HLS2.out⟩
                    case measure => simp [RowKit.intOf]; omega
            · have hlt2 : ¬ (k : Int) < (O.length : Int) := by omega
              have HAV := Lib.hid (show ∀ u ∈ L, ¬ u.nonce = f u.frm from fun u hu e => by
                have h := HLS.out.ord
                rw [show O.drop k = [] from List.drop_eq_nil_of_le (by omega)] at h
                have h2 : u.nv ∈ avail (L.map Tx.nv) f := mem_avail.2 ⟨List.mem_map.2 ⟨u, hu, rfl⟩, e⟩
                rw [show avail (L.map Tx.nv) f = [] from h] at h2
                cases h2)
              have hmx : (L.length : Int) ≤ max m 0 := by have := HLM.out; omega
              go_wp2_with fail
              go_loopw [156] (fun iv wr => ∃ j : Nat, j ≤ L.length ∧ iv = .int .i64 j ∧ Below w11.heap.size w11 wr) (fun iv _ => L.length - (RowKit.intOf iv).toNat)
              case atStart => exact ⟨0, Nat.zero_le _, rfl, Below.refl _ _⟩
              case round =>
                obtain ⟨j, hj, rfl, hb⟩ := hrel
                have HB14 := Lib.hid hb
                clear hb
                obtain ⟨w14, hw14⟩ : ∃ w14, w14 = wr := ⟨_, rfl⟩
                rw [← hw14] at HB14 ⊢
                clear hw14
                by_cases hjl : j < L.length
                · have hjl2 : (j : Int) < (L.length : Int) := by omega
                  obtain ⟨u, hu⟩ : ∃ u, L[j]? = some u := ⟨_, List.getElem?_eq_getElem hjl⟩
                  obtain ⟨ga, oa, rfl, _⟩ := HFA.out (by intro e; rw [e] at hjl; simp at hjl)
                  have HU := Lib.hid hu
                  have HUO := Lib.hid (HLP.out.lok u (List.mem_of_getElem? hu))
                  have OBu := Lib.hid (show (u.cs.toArray.all (·.oneCell')) = true from HUO.out.oneB)
                  have hnu2 : ((u.nonce : Int) == (f u.frm : Int)) = false := by have := HAV.out u (List.mem_of_getElem? hu); simp; omega
                  clear hu
                  go_upto_region 41 with (first | (refine wpList_load_mid rfl 32 _ rfl ga (oa + j * 22) rfl u.cs _ (sl_range (HLP.out.lrow.later (bt HLS.out.below HB14.out)) HU.out) Try.underlying32 rfl sizeTx ?_; (try simp only [Act.put, List.setIfInBounds_toArray, List.set_cons_zero, List.set_cons_succ])) | (refine wl_put (Lies.new _ _ _) u.cs _ _ rfl rfl rfl rfl rfl sizeTx OBu.out (fun w15 hl hf => ?_); have hb : Below w14.heap.size w14 w15 := below_put ((Below.refl w14.heap.size w14).alloc (Nat.le_refl _) _) hf (Nat.le_refl _); have HB15 := Lib.hid (bt HB14.out hb); obtain ⟨Bu, hB⟩ : ∃ Bu, Bu = w14.heap.size := ⟨_, rfl⟩; rw [← hB] at hl ⊢; have HXBu := Lib.hid hl; clear hl hf hb hB; (try simp only [Act.put])))
                  have HL15 := Lib.hid (HLS.out.later HB15.out)
                  obtain ⟨mv, is, htw⟩ := HL15.out.told.two u.frm ⟨u.nonce, by have := (HLP.out.ok u (List.mem_of_getElem? HU.out)).n; omega⟩
                  have HTW := Lib.hid htw
                  clear htw
                  refine wp_region_t [(0, 1), (1, 1), (2, 1), (3, 1), (4, 1), (5, 1), (6, 1), (7, 1), (8, 1), (9, 1), (10, 0), (11, 0), (12, 1)] (fun w' => Below w15.heap.size w15 w') [] [] rfl (by kernel_rfl) (by kernel_rfl) (fun _ _ d _ _ h => by cases d <;> exact h) (below_drew w15) (fun p hp => by cases hp) ?_
                  have HB16 := Lib.hid (below_drew w15)
                  generalize w15.drew = w16 at HB16 ⊢
                  repeat (first | (refine ts_take (v := .agg u.frm.cs.toArray) rfl rfl (fun w' hw' => exec_load (frmE_range ((fun w' h => HXBu.out.below h HXBu.out.lt) w' hw')) _ rfl rfl Try.underlying23 rfl sizeAd) ?_; (try simp only [Act.put, List.setIfInBounds_toArray, List.set_cons_zero, List.set_cons_succ])) | (refine ts_take (v := mv) rfl rfl (fun w' hw' => exec_run (HTW.out w' hw').1 rfl rfl rfl) ?_; (try simp only [Act.put, List.setIfInBounds_toArray, List.set_cons_zero, List.set_cons_succ])) | (refine ts_take (v := .tuple #[.agg #[], .bool is]) rfl rfl (fun w' hw' => exec_run (HTW.out w' hw').2 rfl rfl rfl) ?_; (try simp only [Act.put, List.setIfInBounds_toArray, List.set_cons_zero, List.set_cons_succ])) | (refine ts_take (v := ?_) rfl rfl (fun w' hw' => ?_) ?_; rotate_left; (focus (have q17 : w'.cell? ⟨Bu, 17, none⟩ = some (.int .u64 u.nonce) := (HXBu.out.below hw' HXBu.out.lt).cell 17; (try simp only [Act.put, List.setIfInBounds_toArray, List.set_cons_zero, List.set_cons_succ]); go_simp; (try go_bits); (try (with_reducible rfl)))); (try simp only [Act.put, List.setIfInBounds_toArray, List.set_cons_zero, List.set_cons_succ])))
                  refine ts_run1 rfl rfl (fun K hK => ?_)
                  go_simp
                  have HB17 := Lib.hid (HB16.out.alloc HB16.out.size (.cells #[] 44))
                  refine hK.out _ _ HB17.out (still_none _ _) ?_
                  clear hK K
                  (try simp only [Act.put, List.setIfInBounds_toArray, List.set_cons_zero, List.set_cons_succ])
                  refine ts_run1 rfl rfl (fun K hK => ?_)
                  go_simp
                  refine hK.out _ _ HB17.out (still_none _ _) ?_
                  clear hK K
                  (try simp only [Act.put, List.setIfInBounds_toArray, List.set_cons_zero, List.set_cons_succ])
                  repeat (first | (refine ts_take (v := ?_) rfl rfl (fun w' hw' => ?_) ?_; rotate_left; (focus (skip; (try simp only [Act.put, List.setIfInBounds_toArray, List.set_cons_zero, List.set_cons_succ]); go_simp; (try go_bits); (try (with_reducible rfl)))); (try simp only [Act.put, List.setIfInBounds_toArray, List.set_cons_zero, List.set_cons_succ])) | (refine ts_skip rfl rfl ?_; (try simp only [Act.put, List.setIfInBounds_toArray, List.set_cons_zero, List.set_cons_succ])))
                  refine ts_done ?_
                  have HL18 := Lib.hid (HL15.out.later HB17.out)
                  have HXu := Lib.hid (HXBu.out.below HB17.out HXBu.out.lt)
                  have HB18 := Lib.hid (bt HB15.out HB17.out)
                  obtain ⟨w18, hw18⟩ : ∃ w18, w18 = w16.alloc (.cells #[] 44) := ⟨_, rfl⟩
                  rw [← hw18] at HL18 HXu HB18 ⊢
                  clear hw18 HB16 HB17 HXBu HL15 HTW
                  go_upto_region 42 with fail
                  cases is with
                  | true =>
                    refine wp_region_t [(0, 1), (1, 1), (2, 1), (3, 1), (4, 1), (5, 1), (6, 1), (7, 1), (8, 1), (9, 1), (10, 1), (11, 1), (12, 1), (13, 1), (14, 1), (15, 1), (16, 1), (17, 0), (18, 1), (19, 1)] (fun w' => Below w18.heap.size w18 w') [] [] rfl (by kernel_rfl) (by kernel_rfl) (fun _ _ d _ _ h => by cases d <;> exact h) (below_drew w18) (fun p hp => by cases hp) ?_
                    have HB19 := Lib.hid (below_drew w18)
                    generalize w18.drew = w19 at HB19 ⊢
                    repeat (first | (refine ts_take (v := .agg u.frm.cs.toArray) rfl rfl (fun w' hw' => exec_load (frmE_range ((fun w' h => HXu.out.below h HXu.out.lt) w' hw')) _ rfl rfl Try.underlying23 rfl sizeAd) ?_; (try simp only [Act.put, List.setIfInBounds_toArray, List.set_cons_zero, List.set_cons_succ])) | (refine ts_take (v := .int .u64 (f u.frm)) rfl rfl (fun w' hw' => exec_run (look_u64 (map_later HL18.out.nmap hw') (HL18.out.nval u (List.mem_of_getElem? HU.out))) rfl rfl rfl) ?_; (try simp only [Act.put, List.setIfInBounds_toArray, List.set_cons_zero, List.set_cons_succ])) | (refine ts_take (v := ?_) rfl rfl (fun w' hw' => ?_) ?_; rotate_left; (focus (have q17 : w'.cell? ⟨Bu, 17, none⟩ = some (.int .u64 u.nonce) := (HXu.out.below hw' HXu.out.lt).cell 17; (try simp only [Act.put, List.setIfInBounds_toArray, List.set_cons_zero, List.set_cons_succ]); go_simp; (try go_bits); (try (with_reducible rfl)))); (try simp only [Act.put, List.setIfInBounds_toArray, List.set_cons_zero, List.set_cons_succ])) | (refine ts_skip rfl rfl ?_; (try simp only [Act.put, List.setIfInBounds_toArray, List.set_cons_zero, List.set_cons_succ])))
                    refine ts_pass rfl rfl HB19.out (still_none _ _) ?_
                    (try simp only [Act.put, List.setIfInBounds_toArray, List.set_cons_zero, List.set_cons_succ])
                    repeat (first | (refine ts_take (v := ?_) rfl rfl (fun w' hw' => ?_) ?_; rotate_left; (focus (skip; (try simp only [Act.put, List.setIfInBounds_toArray, List.set_cons_zero, List.set_cons_succ]); go_simp; (try go_bits); (try (with_reducible rfl)))); (try simp only [Act.put, List.setIfInBounds_toArray, List.set_cons_zero, List.set_cons_succ])) | (refine ts_skip rfl rfl ?_; (try simp only [Act.put, List.setIfInBounds_toArray, List.set_cons_zero, List.set_cons_succ])))
                    refine ts_done ?_
                    go_wp2_with fail
                    go_roundw
                    case rel => exact ⟨j + 1, hjl, by go_num, bt HB18.out HB19.out⟩
                    case measure => simp [RowKit.intOf]; omega
                  | false =>
                    refine wp_region_t [(0, 1), (1, 1), (2, 1), (3, 1), (4, 1), (5, 1), (6, 1), (7, 1), (8, 1), (9, 1), (10, 1), (11, 1), (12, 1), (13, 1), (14, 1), (15, 1), (16, 1), (17, 0), (18, 1), (19, 1)] (fun w' => Below w18.heap.size w18 w') [] [] rfl (by kernel_rfl) (by kernel_rfl) (fun _ _ d _ _ h => by cases d <;> exact h) (below_drew w18) (fun p hp => by cases hp) ?_
                    have HB19 := Lib.hid (below_drew w18)
                    generalize w18.drew = w19 at HB19 ⊢
                    repeat (first | (refine ts_take (v := .agg u.frm.cs.toArray) rfl rfl (fun w' hw' => exec_load (frmE_range ((fun w' h => HXu.out.below h HXu.out.lt) w' hw')) _ rfl rfl Try.underlying23 rfl sizeAd) ?_; (try simp only [Act.put, List.setIfInBounds_toArray, List.set_cons_zero, List.set_cons_succ])) | (refine ts_take (v := .int .u64 (f u.frm)) rfl rfl (fun w' hw' => exec_run (look_u64 (map_later HL18.out.nmap hw') (HL18.out.nval u (List.mem_of_getElem? HU.out))) rfl rfl rfl) ?_; (try simp only [Act.put, List.setIfInBounds_toArray, List.set_cons_zero, List.set_cons_succ])) | (refine ts_take (v := ?_) rfl rfl (fun w' hw' => ?_) ?_; rotate_left; (focus (have q17 : w'.cell? ⟨Bu, 17, none⟩ = some (.int .u64 u.nonce) := (HXu.out.below hw' HXu.out.lt).cell 17; (try simp only [Act.put, List.setIfInBounds_toArray, List.set_cons_zero, List.set_cons_succ]); go_simp; (try go_bits); (try (with_reducible rfl)))); (try simp only [Act.put, List.setIfInBounds_toArray, List.set_cons_zero, List.set_cons_succ])) | (refine ts_skip rfl rfl ?_; (try simp only [Act.put, List.setIfInBounds_toArray, List.set_cons_zero, List.set_cons_succ])))
                    refine ts_pass rfl rfl HB19.out (still_none _ _) ?_
                    (try simp only [Act.put, List.setIfInBounds_toArray, List.set_cons_zero, List.set_cons_succ])
                    repeat (first | (refine ts_take (v := ?_) rfl rfl (fun w' hw' => ?_) ?_; rotate_left; (focus (skip; (try simp only [Act.put, List.setIfInBounds_toArray, List.set_cons_zero, List.set_cons_succ]); go_simp; (try go_bits); (try (with_reducible rfl)))); (try simp only [Act.put, List.setIfInBounds_toArray, List.set_cons_zero, List.set_cons_succ])) | (refine ts_skip rfl rfl ?_; (try simp only [Act.put, List.setIfInBounds_toArray, List.set_cons_zero, List.set_cons_succ])))
                    refine ts_done ?_
                    go_wp2_with fail
                    go_roundw
                    case rel => exact ⟨j + 1, hjl, by go_num, bt HB18.out HB19.out⟩
                    case measure => simp [RowKit.intOf]; omega
                · have hjl2 : ¬ (j : Int) < (L.length : Int) := by omega
                  go_wp2_with fail
                  go_ret
                  exact ⟨rfl, bt HB7.out (bt HLS.out.below HB14.out)⟩
end Go.Proofs.Ytkdckcjnjljdmaa.Po
