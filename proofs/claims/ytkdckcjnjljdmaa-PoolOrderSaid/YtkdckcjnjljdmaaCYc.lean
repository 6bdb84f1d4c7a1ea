/- pool.pick, whatever takes; plain: what is picked. -/
import Derived.Test.YtkdckcjnjljdmaaCYb
namespace Go.Proofs.Ytkdckcjnjljdmaa.Po
open Go Go.RowKit Go.Lib Kt Fm Ad Kv

/-- Those that can go next, of senders that are not done. -/
def availD (l : List Tx) (f : Nx) (D : List A8) : List Tx := l.filter fun x => decide (x.frm ∉ D) && decide (x.nonce = f x.frm)
def bestT : List Tx → Option Tx
  | [] => none
  | a :: r => some (minT a r)
def togoD (l : List Tx) (f : Nx) (D : List A8) : Nat := l.countP fun x => decide (x.frm ∉ D) && decide (f x.frm ≤ x.nonce)
theorem mem_availD {l : List Tx} {f : Nx} {D : List A8} {x : Tx} : x ∈ availD l f D ↔ x ∈ l ∧ x.frm ∉ D ∧ x.nonce = f x.frm := by simp [availD]
theorem bestT_mem {L : List Tx} {b : Tx} (h : bestT L = some b) : b ∈ L ∧ ∀ u ∈ L, ¬ rank u b < 0 := by
  cases L with
  | nil => cases h
  | cons a r =>
    obtain rfl : minT a r = b := Option.some.inj h
    obtain ⟨h1, h2, h3⟩ := minT_spec r a
    refine ⟨?_, fun u hu => ?_⟩
    · rcases h1 with h1 | h1
      · rw [h1]; exact .head _
      · exact .tail _ h1
    · rcases List.mem_cons.1 hu with rfl | hu
      · exact h2
      · exact h3 u hu
theorem togoD_take {l : List Tx} {f : Nx} {D : List A8} {t : Tx} (h : t ∈ availD l f D) : togoD l (f.set t.frm (t.nonce + 1)) D < togoD l f D := by
  obtain ⟨h1, h2, h3⟩ := mem_availD.1 h
  refine countP_lt (fun x hx => ?_) h1 (by simp [h2, h3]) (by simp [Nx.set])
  simp only [Bool.and_eq_true, decide_eq_true_eq] at hx ⊢
  refine ⟨hx.1, ?_⟩
  by_cases e : x.frm = t.frm
  · have h4 : f.set t.frm (t.nonce + 1) x.frm = t.nonce + 1 := if_pos e
    rw [h4] at hx
    rw [e]
    omega
  · have h4 : f.set t.frm (t.nonce + 1) x.frm = f x.frm := if_neg e
    rw [h4] at hx
    exact hx.2
theorem togoD_skip {l : List Tx} {f : Nx} {D : List A8} {t : Tx} (h : t ∈ availD l f D) : togoD l f (t.frm :: D) < togoD l f D := by
  obtain ⟨h1, h2, h3⟩ := mem_availD.1 h
  refine countP_lt (fun x hx => ?_) h1 (by simp [h2, h3]) (by simp)
  simp only [Bool.and_eq_true, decide_eq_true_eq, List.mem_cons, not_or] at hx ⊢
  exact ⟨hx.1.2, hx.2⟩
/-- What has been picked so far: the nonces that are next, the senders that are done, what the taker holds. -/
inductive PickTo {S : Type} (T : S → Tx → Bool → S → Prop) (l : List Tx) (f0 : Nx) (s0 : S) : Nx → List A8 → S → Prop
  | start : PickTo T l f0 s0 f0 [] s0
  | take {f : Nx} {D : List A8} {s s' : S} {b b' : Tx} : PickTo T l f0 s0 f D s → bestT (availD l f D) = some b → b'.nv = b.nv → T s b' true s' → PickTo T l f0 s0 (f.set b.frm (b.nonce + 1)) D s'
  | skip {f : Nx} {D : List A8} {s s' : S} {b b' : Tx} : PickTo T l f0 s0 f D s → bestT (availD l f D) = some b → b'.nv = b.nv → T s b' false s' → PickTo T l f0 s0 f (b.frm :: D) s'
theorem PickTo.len {S : Type} {T : S → Tx → Bool → S → Prop} {l : List Tx} {f0 : Nx} {s0 : S} {n : S → Nat} (hn : ∀ s t b s', T s t b s' → n s' ≤ n s + 1) {f : Nx} {D : List A8} {s : S} (h : PickTo T l f0 s0 f D s) : n s + togoD l f D ≤ n s0 + togoD l f0 [] := by
  induction h with
  | start => exact Nat.le_refl _
  | take _ hb _ ht ih =>
    have h1 := hn _ _ _ _ ht
    have h2 := togoD_take (bestT_mem hb).1
    omega
  | skip _ hb _ ht ih =>
    have h1 := hn _ _ _ _ ht
    have h2 := togoD_skip (bestT_mem hb).1
    omega
theorem togoD_le (l : List Tx) (f : Nx) (D : List A8) : togoD l f D ≤ l.length := List.countP_le_length
/-- A block of a map. -/
def MapAt (w : World) (k : Nat) : Prop := ∃ es c, w.heap[k]? = some (.map es c)
/-- What takes: a closure with what it holds. -/
structure Taker {S : Type} (W : World) (base g : Nat) (cb : Array Value) (T : S → Tx → Bool → S → Prop) (l : List Tx) (f0 : Nx) (s0 : S) (I : S → Nat → World → Prop) : Prop where
  ent : ∀ args w, (callFunc g args).run Try.prog w = .ok (.enter g args) w
  stay : ∀ s m w w', I s m w → Fr w w' (fun k => m ≤ k ∨ MapAt w k) → I s m w'
  more : ∀ s m m' w, I s m w → m ≤ m' → I s m' w
  call : ∀ f D s m w t, PickTo T l f0 s0 f D s → t.nv ∈ l.map Tx.nv → Below W.heap.size W w → m ≤ w.heap.size → base ≤ m → I s m w → TxOwn 0 w t → Calls Try.prog g (#[.agg t.cs.toArray] ++ cb) w fun e w' => ∃ b s', e = .returned (.bool b) ∧ T s t b s' ∧ I s' w'.heap.size w' ∧ Fr w w' (fun k => base ≤ k ∧ k < m ∧ ¬ MapAt w k)
/-- The map of the next nonces. -/
structure NextMap (w : World) (bN : Nat) (f0 f : Nx) (NL : List (A8 × Value)) : Prop where
  map : IsMap A8.v w bN NL
  val : ∀ a, (valAt NL a = none ∧ f a = f0 a) ∨ valAt NL a = some (.int .u64 (f a))
structure DoneMap (w : World) (bD : Nat) (D : List A8) (DL : List (A8 × Value)) : Prop where
  map : IsMap A8.v w bD DL
  val : ∀ a, (valAt DL a = none ∧ a ∉ D) ∨ (valAt DL a = some (.agg #[]) ∧ a ∈ D)
theorem find_strike (a b : A8) (h : ¬ b = a) : ∀ L : List (A8 × Value), (strike L a).find? (fun p => decide (p.1 = b)) = L.find? (fun p => decide (p.1 = b))
  | [] => rfl
  | y :: r => by
    have ih := find_strike a b h r
    unfold strike at ih ⊢
    rw [List.filter_cons]
    by_cases hy : y.1 = a
    · have e1 : ¬ y.1 = b := fun e => h (e.symm.trans hy)
      rw [if_neg (by simp [hy]), ih, List.find?_cons_of_neg (by simp [e1])]
    · rw [if_pos (by simp [hy])]
      by_cases e1 : y.1 = b
      · rw [List.find?_cons_of_pos (by simp [e1]), List.find?_cons_of_pos (by simp [e1])]
      · rw [List.find?_cons_of_neg (by simp [e1]), List.find?_cons_of_neg (by simp [e1]), ih]
theorem valAt_putAt (L : List (A8 × Value)) (a b : A8) (v : Value) : valAt (putAt L a v) b = if b = a then some v else valAt L b := by
  unfold valAt putAt
  by_cases h : b = a
  · rw [if_pos h, List.find?_cons_of_pos (by simp [h])]
    rfl
  · rw [if_neg h, List.find?_cons_of_neg (by simp; exact fun e => h e.symm), find_strike a b h]
theorem zU64 (w : World) : (zeroValue 29).run Try.prog w = .ok (.int .u64 0) w := by kernel_rfl
theorem zU0 (w : World) : (zeroValue 44).run Try.prog w = .ok (.agg #[]) w := by kernel_rfl
theorem NextMap.lookup {w : World} {bN : Nat} {f0 f : Nx} {NL : List (A8 × Value)} (h : NextMap w bN f0 f NL) (a : A8) : ∃ (n : Nat) (is : Bool), lookVal true (.int .u64 0) (valAt NL a) = .tuple #[.int .u64 n, .bool is] ∧ (is = true → n = f a) ∧ (is = false → f0 a = f a) := by
  rcases h.val a with ⟨h1, h2⟩ | h1
  · exact ⟨0, false, by rw [h1]; rfl, fun e => (by cases e), fun _ => h2.symm⟩
  · exact ⟨f a, true, by rw [h1]; rfl, fun _ => rfl, fun e => (by cases e)⟩
theorem DoneMap.lookup {w : World} {bD : Nat} {D : List A8} {DL : List (A8 × Value)} (h : DoneMap w bD D DL) (a : A8) : lookVal true (.agg #[]) (valAt DL a) = .tuple #[.agg #[], .bool (decide (a ∈ D))] := by
  rcases h.val a with ⟨h1, h2⟩ | ⟨h1, h2⟩
  · rw [h1, decide_eq_false h2]; rfl
  · rw [h1, decide_eq_true h2]; rfl
theorem map_later {w w' : World} {b : Nat} {L : List (A8 × Value)} (h : IsMap A8.v w b L) (hb : Below w.heap.size w w') : IsMap A8.v w' b L := h.of_block (hb.block b h.lt)
theorem NextMap.later {w w' : World} {bN : Nat} {f0 f : Nx} {NL : List (A8 × Value)} (h : NextMap w bN f0 f NL) (hb : Below w.heap.size w w') : NextMap w' bN f0 f NL := ⟨map_later h.map hb, h.val⟩
theorem DoneMap.later {w w' : World} {bD : Nat} {D : List A8} {DL : List (A8 × Value)} (h : DoneMap w bD D DL) (hb : Below w.heap.size w w') : DoneMap w' bD D DL := ⟨map_later h.map hb, h.val⟩
theorem frmE_range {w : World} {B : Nat} {ty : TypeId} {t : Tx} (h : Lies w B ty t.cs.toArray) : w.rangeAt B 1 t.frm.cs := fun i u hi => by
  rw [h.cell]
  match i, hi with
  | 0, hi => exact hi
  | 1, hi => exact hi
  | 2, hi => exact hi
  | 3, hi => exact hi
  | 4, hi => exact hi
  | 5, hi => exact hi
  | 6, hi => exact hi
  | 7, hi => exact hi
  | i + 8, hi => cases hi
theorem availD_yes {l : List Tx} {f : Nx} {D : List A8} {k : Nat} {x : Tx} (h : l[k]? = some x) (h1 : x.frm ∉ D) (h2 : x.nonce = f x.frm) : availD (l.take (k + 1)) f D = availD (l.take k) f D ++ [x] := by
  unfold availD
  rw [take_more h, List.filter_append, List.filter_cons_of_pos (by simp [h1, h2])]
  rfl
theorem availD_no {l : List Tx} {f : Nx} {D : List A8} {k : Nat} {x : Tx} (h : l[k]? = some x) (h1 : ¬ (x.frm ∉ D ∧ x.nonce = f x.frm)) : availD (l.take (k + 1)) f D = availD (l.take k) f D := by
  unfold availD
  rw [take_more h, List.filter_append, List.filter_cons_of_neg (by simpa using h1)]
  simp
theorem availD_len (l : List Tx) (f : Nx) (D : List A8) : (availD l f D).length ≤ l.length := List.length_filter_le _ _
theorem wf_op {op : Oper} {a : Act} {w : World} {ty : TypeId} {p : Operand} {n : Nat} {v : Value} (_ho : op.op = .field ty p n) (h : (execOp a.eval op).run Try.prog w = .ok (.value v) w) : (execOp a.eval op).run Try.prog w = .ok (.value v) w := h
theorem fld_en (w : World) (b : Tx) : (Instr.field 81 (.agg b.cs.toArray) 0).run Try.prog w = .ok (.agg b.cs.toArray) w := by kernel_rfl
theorem NextMap.put {w : World} {bN : Nat} {f0 f : Nx} {NL : List (A8 × Value)} (h : ∀ a, (valAt NL a = none ∧ f a = f0 a) ∨ valAt NL a = some (.int .u64 (f a))) {b : A8} {n : Nat} (hm : IsMap A8.v w bN (putAt NL b (.int .u64 ((n : Int) + 1)))) : NextMap w bN f0 (f.set b (n + 1)) (putAt NL b (.int .u64 ((n : Int) + 1))) := ⟨hm, fun a => by
  rw [valAt_putAt]
  by_cases e : a = b
  · rw [if_pos e]
    right
    have : f.set b (n + 1) a = n + 1 := if_pos e
    rw [this]
    rfl
  · rw [if_neg e]
    have : f.set b (n + 1) a = f a := if_neg e
    rw [this]
    exact h a⟩
theorem DoneMap.put {w : World} {bD : Nat} {D : List A8} {DL : List (A8 × Value)} (h : ∀ a, (valAt DL a = none ∧ a ∉ D) ∨ (valAt DL a = some (.agg #[]) ∧ a ∈ D)) {b : A8} (hm : IsMap A8.v w bD (putAt DL b (.agg #[]))) : DoneMap w bD (b :: D) (putAt DL b (.agg #[])) := ⟨hm, fun a => by
  rw [valAt_putAt]
  by_cases e : a = b
  · rw [if_pos e]
    exact .inr ⟨rfl, by rw [e]; exact .head _⟩
  · rw [if_neg e]
    rcases h a with ⟨h1, h2⟩ | ⟨h1, h2⟩
    · exact .inl ⟨h1, by simp [e, h2]⟩
    · exact .inr ⟨h1, .tail _ h2⟩⟩
theorem mapAt_of {w : World} {b : Nat} {L : List (A8 × Value)} (h : IsMap A8.v w b L) : MapAt w b := by
  obtain ⟨es, c, h1, _⟩ := h.block
  exact ⟨es, c, h1⟩
/-- A round's head. -/
structure PickAt {S : Type} (T : S → Tx → Bool → S → Prop) (I : S → Nat → World → Prop) (W0 : World) (l : List Tx) (f0 : Nx) (s0 : S) (bN bD : Nat) (f : Nx) (D : List A8) (s : S) (NL DL : List (A8 × Value)) (w : World) : Prop where
  pk : PickTo T l f0 s0 f D s
  lt : ∀ a, f a < 18446744073709551616
  nx : NextMap w bN f0 f NL
  dn : DoneMap w bD D DL
  inv : I s w.heap.size w
  below : Below W0.heap.size W0 w
/-- What pick leaves. -/
def PickSays {S : Type} (T : S → Tx → Bool → S → Prop) (I : S → Nat → World → Prop) (W0 : World) (l : List Tx) (f0 : Nx) (s0 : S) (e : Ending) (w' : World) : Prop :=
  ∃ f D s, e = .returned (.tuple #[]) ∧ PickTo T l f0 s0 f D s ∧ availD l f D = [] ∧ I s w'.heap.size w' ∧ Below W0.heap.size W0 w'
set_option maxRecDepth 100000 in
set_option maxHeartbeats 16000000 in
theorem pick_any {S : Type} {T : S → Tx → Bool → S → Prop} {I : S → Nat → World → Prop} {pb : Nat} {W0 W : World} {bp most g : Nat} {v wv : Value} {cb : Array Value} {l : List Tx} {f0 : Nx} {s0 : S} (hp : PoolAt pb W0 bp most v l) (hf : Nonces W0 wv f0) (hk : Taker W0 W0.heap.size g cb T l f0 s0 I) (hi : I s0 W.heap.size W) (hW : Below W0.heap.size W0 W) (hl : l.length ≤ 1000) : Calls Try.prog 26 #[.pointer (some ⟨bp, 0, none⟩), wv, .func (.func g) #[] cb] W fun e w' => PickSays T I W0 l f0 s0 e w' := by
  have eg := hk.ent
  have HP := Lib.hid hp
  have HF := Lib.hid hf
  have HK := Lib.hid hk
  have HI := Lib.hid hi
  have HW := Lib.hid hW
  obtain ⟨sv, cv, hv, hfv⟩ := hp.form
  subst hv
  have HFV := Lib.hid hfv
  clear hp hf hk hi hW hfv
  have hmm := @run_makeMap Try.prog
  go_enter Try.func26, Try.ntmps26
  go_wp2_with fail
  have P0 := Lib.hid (show PickAt T I W0 l f0 s0 W.heap.size (W.heap.size + 1) f0 [] s0 [] [] ((W.alloc (.map #[] 0)).alloc (.map #[] 0)) from
    ⟨.start, HF.out.lt, ⟨(IsMap.new W A8.v).alloc _, fun a => .inl ⟨rfl, rfl⟩⟩, ⟨by have h := IsMap.new (W.alloc (.map #[] 0)) A8.v; rw [World.size_alloc] at h; exact h, fun a => .inl ⟨rfl, by simp⟩⟩, HK.out.more _ _ _ _ (HK.out.stay _ _ _ _ HI.out (Fr.of_below (((Below.refl _ _).alloc (Nat.le_refl _) _).alloc (by simp) _) _)) (by simp; omega), bt HW.out (((Below.refl _ _).alloc (Nat.le_refl _) _).alloc (by simp) _)⟩)
  obtain ⟨w1, hw1⟩ : ∃ w1, w1 = (W.alloc (.map #[] 0)).alloc (.map #[] 0) := ⟨_, rfl⟩
  rw [← hw1] at P0 ⊢
  have HBB := Lib.hid (show W0.heap.size ≤ W.heap.size from HW.out.size)
  obtain ⟨bN, hbN⟩ : ∃ bN, bN = W.heap.size := ⟨_, rfl⟩
  obtain ⟨bD, hbD⟩ : ∃ bD, bD = W.heap.size + 1 := ⟨_, rfl⟩
  rw [← hbD, ← hbN] at P0 ⊢
  have HNW := Lib.hid (show W0.heap.size ≤ bN ∧ W0.heap.size ≤ bD ∧ bN ≠ bD from by have := HBB.out; omega)
  clear hw1 hbN hbD HW HI HBB hmm
  go_loopg [] (togoD l f0 []) (fun gk wr => ∃ (f : Nx) (D : List A8) (s : S) (NL DL : List (A8 × Value)), gk = togoD l f D ∧ PickAt T I W0 l f0 s0 bN bD f D s NL DL wr)
  case atStart => exact ⟨f0, [], s0, [], [], rfl, P0.out⟩
  case round =>
    clear P0
    obtain ⟨f, D, s, NL, DL, rfl, hpk⟩ := hrel
    have PK := Lib.hid hpk
    clear hpk
    obtain ⟨w2, hw2⟩ : ∃ w2, w2 = wr := ⟨_, rfl⟩
    rw [← hw2] at PK ⊢
    clear hw2
    have z1 : w2.cell? ⟨bp, 1, none⟩ = some (.slice sv l.length cv) := (HP.out.later PK.out.below).box.cell 1
    go_wp2_with fail
    clear z1
    go_loopw [8, 23] (fun v8 iv wx => ∃ k : Nat, k ≤ l.length ∧ iv = .int .i64 k ∧ wx.ownsRow w2.heap.size 81 22 v8 (availD (l.take k) f D).length ((availD (l.take k) f D).flatMap Tx.cs) ∧ Below w2.heap.size w2 wx) (fun _ iv _ => l.length - (RowKit.intOf iv).toNat)
    case atStart => exact ⟨0, Nat.zero_le _, rfl, World.ownsRow_nil _ _ _ _, Below.refl _ _⟩
    case round =>
      obtain ⟨k, hk, rfl, hr, hb⟩ := hrel
      have R3 := Lib.hid hr
      have HB3 := Lib.hid hb
      clear hr hb
      obtain ⟨w3, hw3⟩ : ∃ w3, w3 = wr := ⟨_, rfl⟩
      rw [← hw3] at R3 HB3 ⊢
      clear hw3
      by_cases hlt : k < l.length
      · have hlt2 : (k : Int) < (l.length : Int) := by omega
        obtain ⟨x, hx⟩ : ∃ x, l[k]? = some x := ⟨_, List.getElem?_eq_getElem hlt⟩
        obtain ⟨g0, off, rfl⟩ := HFV.out (by intro e; rw [e] at hlt; simp at hlt)
        have HX := Lib.hid hx
        clear hx
        go_upto_region 6 with (first | (refine wpList_load_mid rfl 81 _ rfl g0 (off + k * 22) rfl x.cs _ (sl_range (HP.out.sl.later (bt PK.out.below HB3.out)) HX.out) Try.underlying81 rfl sizeEn ?_; (try simp only [Act.put, List.setIfInBounds_toArray, List.set_cons_zero, List.set_cons_succ])) | (refine wl_put (Lies.new _ _ _) x.cs _ _ rfl rfl rfl rfl rfl sizeEn (HP.out.own x (List.mem_of_getElem? HX.out)).ok.oneB (fun w4 hl4 hf4 => ?_); have hb4 : Below w3.heap.size w3 w4 := below_put ((Below.refl w3.heap.size w3).alloc (Nat.le_refl _) _) hf4 (Nat.le_refl _); have HB4 := Lib.hid (bt HB3.out hb4); have R4 := Lib.hid (ownsRow_keep R3.out hb4); obtain ⟨Bx, hBx⟩ : ∃ Bx, Bx = w3.heap.size := ⟨_, rfl⟩; rw [← hBx] at hl4 ⊢; have HX4 := Lib.hid hl4; clear hl4 hf4 hb4 hBx; (try simp only [Act.put])))
        obtain ⟨nv, is, hlk, his1, his2⟩ := PK.out.nx.lookup x.frm
        have HLK := Lib.hid hlk
        have HI1 := Lib.hid his1
        have HI2 := Lib.hid his2
        clear hlk his1 his2
        go_upto_if 36 with (first | (refine wpList_load_mid rfl 23 _ rfl Bx 1 rfl x.frm.cs _ (frmE_range HX4.out) Try.underlying23 rfl sizeAd ?_; (try simp only [Act.put, List.setIfInBounds_toArray, List.set_cons_zero, List.set_cons_succ])) | (refine wpl_look encAddr Try.underlying41 (PK.out.nx.later HB4.out).map true (zU64 _) x.frm _ _ rfl rfl (by exact rfl) (by exact rfl) ?_; rw [HLK.out]; (try simp only [Act.put, List.setIfInBounds_toArray, List.set_cons_zero, List.set_cons_succ])))
        go_cut [11] from 37 to 41 (fun vn wx => vn = .int .u64 (f x.frm) ∧ Below w4.heap.size w4 wx)
        case first =>
          cases is with
          | true =>
            have HN := Lib.hid (HI1.out rfl)
            clear HI1 HI2
            go_wp2_with fail
            go_meet
            exact ⟨by rw [HN.out], Below.refl _ _⟩
          | false =>
            have HN := Lib.hid (HI2.out rfl)
            clear HI1 HI2
            go_wp2_with (refine wpList_load_mid rfl 23 _ rfl Bx 1 rfl x.frm.cs _ (frmE_range HX4.out) Try.underlying23 rfl sizeAd ?_; (try simp only [Act.put, List.setIfInBounds_toArray, List.set_cons_zero, List.set_cons_succ]))
            refine (HF.out.call _ (bt PK.out.below HB4.out) x.frm).mono ?_
            rintro en w5 ⟨rfl, hb5⟩
            have HB5 := Lib.hid hb5
            clear hb5
            go_wp2_with fail
            go_meet
            exact ⟨by rw [HN.out], HB5.out⟩
        case rest =>
          obtain ⟨hvn, hb5⟩ := hcut
          subst hvn
          have R5 := Lib.hid (ownsRow_keep R4.out hb5)
          have HX5 := Lib.hid (HX4.out.below hb5 HX4.out.lt)
          have HB5 := Lib.hid (bt HB4.out hb5)
          clear hb5 HB4 R4 HX4 HI1 HI2
          obtain ⟨w5, hw5⟩ : ∃ w5, w5 = wc := ⟨_, rfl⟩
          rw [← hw5] at R5 HX5 HB5 ⊢
          clear hw5
          have HDL := Lib.hid (PK.out.dn.lookup x.frm)
          go_upto_region 10 with (first | (refine wpList_load_mid rfl 23 _ rfl Bx 1 rfl x.frm.cs _ (frmE_range HX5.out) Try.underlying23 rfl sizeAd ?_; (try simp only [Act.put, List.setIfInBounds_toArray, List.set_cons_zero, List.set_cons_succ])) | (refine wpl_look encAddr Try.underlying114 (PK.out.dn.later HB5.out).map true (zU0 _) x.frm _ _ rfl rfl (by exact rfl) (by exact rfl) ?_; rw [HDL.out]; (try simp only [Act.put, List.setIfInBounds_toArray, List.set_cons_zero, List.set_cons_succ])))
          have hb6 : Below w5.heap.size w5 (w5.alloc (.cells #[] 44)) := (Below.refl _ _).alloc (Nat.le_refl _) _
          obtain ⟨w6, hw6⟩ : ∃ w6, w6 = w5.alloc (.cells #[] 44) := ⟨_, rfl⟩
          rw [← hw6] at hb6 ⊢
          have R6 := Lib.hid (ownsRow_keep R5.out hb6)
          have HX6 := Lib.hid (HX5.out.below hb6 HX5.out.lt)
          have HB6 := Lib.hid (bt HB5.out hb6)
          clear hw6 hb6 R5 HX5 HB5 HLK HDL
          have z17 : w6.cell? ⟨Bx, 17, none⟩ = some (.int .u64 x.nonce) := HX6.out.cell 17
          by_cases hin : x.frm ∈ D
          · rw [decide_eq_true hin]
            have HA := Lib.hid (availD_no HX.out (f := f) (D := D) (fun h => h.1 hin))
            clear hin
            go_wp2_with fail
            go_roundw
            case rel => exact ⟨k + 1, hlt, by go_num, by rw [HA.out]; exact R6.out, HB6.out⟩
            case measure => simp [RowKit.intOf]; omega
          · rw [decide_eq_false hin]
            by_cases hnn : x.nonce = f x.frm
            · have HA := Lib.hid (availD_yes HX.out hin hnn)
              have hnn2 : ((x.nonce : Int) == (f x.frm : Int)) = true := by rw [hnn]; simp
              have HLA := Lib.hid (show (availD (l.take k) f D).length ≤ 1000 from Nat.le_trans (availD_len _ _ _) (by rw [List.length_take]; omega))
              clear hin hnn
              go_wp2_with (first | (refine wpList_load_mid rfl 81 _ rfl Bx 0 rfl x.cs _ (lies_range HX6.out) Try.underlying81 rfl sizeEn ?_; (try simp only [Act.put, List.setIfInBounds_toArray, List.set_cons_zero, List.set_cons_succ])) | (refine wl_bsN (e := 81) (d := 61) rfl rfl x.cs rfl (fun w => by kernel_rfl) (fun w7 hb7 hl7 => ?_); have R7 := Lib.hid (ownsRow_keep R6.out hb7); have HB7 := Lib.hid (bt HB6.out hb7); have L7 := Lib.hid hl7; clear hb7 hl7; (try simp only [Act.put, List.setIfInBounds_toArray, List.set_cons_zero, List.set_cons_succ])) | (refine wl_app (by_ := 80) _ _ rfl rfl Try.underlying77 inf_en (by decide) rfl R7.out Tx.len rfl (sl_one L7.out) (fun y hy u hu => by obtain rfl := List.mem_singleton.1 hy; exact (HP.out.own y (List.mem_of_getElem? HX.out)).ok.one u hu) (by have h := HLA.out; unfold maxLen; simp; omega) (by have h := HLA.out; simp; omega) HB7.out.size (fun v8' w8 hr8 hg8 hv8 => ?_); have R8 := Lib.hid hr8; have HB8 := Lib.hid (HB7.out.grown hg8 HB7.out.size (fun _ hk => (row_block R7.out hk).1)); clear hr8 hg8 hv8; (try simp only [Act.put, List.setIfInBounds_toArray, List.set_cons_zero, List.set_cons_succ])))
              go_roundw
              case rel => exact ⟨k + 1, hlt, by go_num, by rw [HA.out, List.length_append, List.flatMap_append]; exact R8.out, HB8.out⟩
              case measure => simp [RowKit.intOf]; omega
            · have HA := Lib.hid (availD_no HX.out (f := f) (D := D) (fun h => hnn h.2))
              have hnn2 : ((x.nonce : Int) == (f x.frm : Int)) = false := by simp; omega
              clear hin hnn
              go_wp2_with fail
              go_roundw
              case rel => exact ⟨k + 1, hlt, by go_num, by rw [HA.out]; exact R6.out, HB6.out⟩
              case measure => simp [RowKit.intOf]; omega
      · have hlt2 : ¬ (k : Int) < (l.length : Int) := by omega
        have HKL := Lib.hid (show k = l.length from by omega)
        rw [HKL.out, List.take_length] at R3
        have R4 := Lib.hid (show w3.ownsRow w2.heap.size 81 22 u8 (availD l f D).length ((availD l f D).flatMap Tx.cs) from R3.out)
        clear R3
        cases hav : availD l f D with
        | nil =>
          rw [hav] at R4
          have HAV := Lib.hid hav
          clear hav
          obtain ⟨s8, c8, hv8, _⟩ := row_form R4.out
          subst hv8
          go_wp2_with fail
          first | go_end0 | refine bodyPost_ret (results_none rfl _ _ _) rfl ?_
          exact ⟨f, D, s, rfl, PK.out.pk, HAV.out, HK.out.more _ _ _ _ (HK.out.stay _ _ _ _ PK.out.inv (Fr.of_below HB3.out _)) HB3.out.size, bt PK.out.below HB3.out⟩
        | cons a0 r0 =>
          have HAV := Lib.hid hav
          have hlen : (availD l f D).length = r0.length + 1 := by rw [hav]; rfl
          rw [hav] at R4
          clear hav
          have HBE := Lib.hid (show bestT (availD l f D) = some (minT a0 r0) from by rw [HAV.out]; rfl)
          have HBM := Lib.hid (bestT_mem HBE.out).1
          have HLN := Lib.hid hlen
          have HLL := Lib.hid (availD_len l f D)
          have HMN := Lib.hid (min_any (W := w3) (v := u8) (a := a0) (r := r0) (own_sl Tx.len R4.out) (fun t ht => by
            have h1 : t ∈ availD l f D := by rw [HAV.out]; exact ht
            have h2 := (mem_availD.1 h1).1
            exact ⟨((HP.out.later (bt PK.out.below HB3.out)).own t h2).ok, (HP.out.ok.ok t h2).may⟩) (by have h1 := HLN.out; have h2 := HLL.out; omega))
          obtain ⟨b, hb⟩ : ∃ b, b = minT a0 r0 := ⟨_, rfl⟩
          rw [← hb] at HBE HBM HMN
          have HBL := Lib.hid (mem_availD.1 HBM.out).1
          have HBO := Lib.hid (HP.out.ok.ok b HBL.out)
          have OBB := Lib.hid (show (b.cs.toArray.all (·.oneCell')) = true from (HP.out.own b HBL.out).ok.oneB)
          obtain ⟨s8, c8, hv8, _⟩ := row_form R4.out
          subst hv8
          have hl1 : ¬ (a0 :: r0).length = 0 := by simp
          have hl2 : (((a0 :: r0).length : Nat) : Int) ≠ 0 := by simp; omega
          have hl3 : ((((a0 :: r0).length : Nat) : Int) == 0) = false := by simp; omega
          obtain ⟨n8, hn8⟩ : ∃ n8, n8 = (a0 :: r0).length := ⟨_, rfl⟩
          rw [← hn8] at hl1 hl2 hl3 HMN ⊢
          clear hb hn8 hlen
          go_wp2_with fail
          refine HMN.out.mono ?_
          rintro en w4 ⟨rfl, hb4⟩
          have HB4 := Lib.hid (bt HB3.out hb4)
          clear hb4 HMN R4
          have I4 := Lib.hid (show I s w4.heap.size w4 from HK.out.more _ _ _ _ (HK.out.stay _ _ _ _ PK.out.inv (Fr.of_below HB4.out _)) HB4.out.size)
          go_upto_region 15 with (first | (refine wl_val (v := .agg b.cs.toArray) rfl (wf_op (ty := 81) (p := .tmp 68) (n := 0) rfl (by kernel_rfl)) ?_; (try simp only [Act.put, List.setIfInBounds_toArray, List.set_cons_zero, List.set_cons_succ])) | (refine wl_put (Lies.new _ _ _) b.cs _ _ rfl rfl rfl rfl rfl sizeTx OBB.out (fun w5 hl5 hf5 => ?_); have hb5 : Below w4.heap.size w4 w5 := below_put ((Below.refl w4.heap.size w4).alloc (Nat.le_refl _) _) hf5 (Nat.le_refl _); have HB5 := Lib.hid (bt HB4.out hb5); have HB45 := Lib.hid hb5; obtain ⟨Bb, hBb⟩ : ∃ Bb, Bb = w4.heap.size := ⟨_, rfl⟩; rw [← hBb] at hl5 ⊢; have HX5 := Lib.hid hl5; have HBb := Lib.hid hBb; clear hl5 hf5 hb5 hBb; (try simp only [Act.put])))
          go_wp2_with (refine wpList_load_mid rfl 32 _ rfl Bb 0 rfl b.cs _ (lies_range HX5.out) Try.underlying32 rfl sizeTx ?_; (try simp only [Act.put, List.setIfInBounds_toArray, List.set_cons_zero, List.set_cons_succ]))
          have hown := own_any (W := w5) (t := b) ((HP.out.later (bt PK.out.below HB5.out)).own b HBL.out).ok (Nat.le_trans (mayT_len HBO.out.may) (by decide))
          refine hown.mono ?_
          clear hown
          rintro en w6 ⟨db, rfl, ho6, hb6⟩
          obtain ⟨b', hb'⟩ : ∃ b' : Tx, b' = { b with dv := db } := ⟨_, rfl⟩
          rw [← hb'] at ho6 ⊢
          have HNV := Lib.hid (show b'.nv = b.nv from by rw [hb']; rfl)
          have HO6 := Lib.hid (ho6.mono (Nat.zero_le _))
          have HX6 := Lib.hid (HX5.out.below hb6 HX5.out.lt)
          have HB6 := Lib.hid (bt HB5.out hb6)
          have HB46 := Lib.hid (bt HB45.out hb6)
          clear ho6 hb' hb6 HX5 HB45
          have HC := Lib.hid (HK.out.call f D s w4.heap.size w6 b' PK.out.pk (by rw [HNV.out]; exact List.mem_map.2 ⟨b, HBL.out, rfl⟩) (bt PK.out.below HB6.out) HB46.out.size (bt PK.out.below HB4.out).size (HK.out.stay _ _ _ _ I4.out (Fr.of_below HB46.out _)) HO6.out)
          go_wp2_with fail
          refine HC.out.mono ?_
          clear HC
          rintro en w7 ⟨bb, s', rfl, ht7, hi7, hf7⟩
          have HT7 := Lib.hid ht7
          have HI7 := Lib.hid hi7
          have HX7 := Lib.hid (lies_fr HX6.out hf7 (fun h => by have h1 := HBb.out; omega))
          have HN7 := Lib.hid (show NextMap w7 bN f0 f NL from ⟨(PK.out.nx.later HB6.out).map.of_block (hf7.block bN (PK.out.nx.later HB6.out).map.lt (fun h => h.2.2 (mapAt_of (PK.out.nx.later HB6.out).map))), PK.out.nx.val⟩)
          have HD7 := Lib.hid (show DoneMap w7 bD D DL from ⟨(PK.out.dn.later HB6.out).map.of_block (hf7.block bD (PK.out.dn.later HB6.out).map.lt (fun h => h.2.2 (mapAt_of (PK.out.dn.later HB6.out).map))), PK.out.dn.val⟩)
          have HB7 := Lib.hid (show Below W0.heap.size W0 w7 from (bt PK.out.below HB6.out).trans (hf7.below (bt PK.out.below HB6.out).size (fun k hk => hk.1)))
          clear ht7 hi7 hf7 HX6 HB6 HB46 I4
          have z17 : w7.cell? ⟨Bb, 17, none⟩ = some (.int .u64 b.nonce) := HX7.out.cell 17
          have hwr : IntKind.u64.wrap ((b.nonce : Int) + 1) = (b.nonce : Int) + 1 := IntWalk.u64_in _ (by have h1 := HBO.out.n; omega)
          cases bb with
          | true =>
            go_wp2_with (first | (refine wpList_load_mid rfl 23 _ rfl Bb 1 rfl b.frm.cs _ (frmE_range HX7.out) Try.underlying23 rfl sizeAd ?_; (try simp only [Act.put, List.setIfInBounds_toArray, List.set_cons_zero, List.set_cons_succ])) | (refine wpl_store encAddr Try.underlying41 HN7.out.map b.frm _ _ _ rfl rfl (by exact rfl) (by exact rfl) (.int .u64 ((b.nonce : Int) + 1)) (by exact rfl) (fun w8 hm8 hg8 _ => ?_); have HM8 := Lib.hid hm8; have HF8 := Lib.hid hg8; clear hm8 hg8; (try simp only [Act.put])))
            have HI8 := Lib.hid (HK.out.more _ _ _ _ (HK.out.stay _ _ _ w8 HI7.out ((Fr.of_grown HF8.out).mono (fun k _ hk => .inr (by rw [Option.some.inj hk]; exact mapAt_of HN7.out.map)))) HF8.out.size)
            have HP8 := Lib.hid (show PickAt T I W0 l f0 s0 bN bD (f.set b.frm (b.nonce + 1)) D s' (putAt NL b.frm (.int .u64 ((b.nonce : Int) + 1))) DL w8 from ⟨.take PK.out.pk HBE.out HNV.out HT7.out, (fun a => by unfold Nx.set; split; have h1 := HBO.out.n; omega; exact PK.out.lt a), NextMap.put PK.out.nx.val HM8.out, ⟨HD7.out.map.kept HF8.out (fun e => by have h1 := HNW.out; have h2 := Option.some.inj e; omega), HD7.out.val⟩, HI8.out, HB7.out.grown HF8.out HB7.out.size (fun q hq => by obtain rfl := Option.some.inj hq; have h1 := HNW.out; omega)⟩)
            go_roundg (togoD l (f.set b.frm (b.nonce + 1)) D)
            case measure => exact togoD_take HBM.out
            case rel => exact ⟨(f.set b.frm (b.nonce + 1)), D, s', (putAt NL b.frm (.int .u64 ((b.nonce : Int) + 1))), DL, rfl, HP8.out⟩
          | false =>
            go_wp2_with (first | (refine wpList_load_mid rfl 23 _ rfl Bb 1 rfl b.frm.cs _ (frmE_range HX7.out) Try.underlying23 rfl sizeAd ?_; (try simp only [Act.put, List.setIfInBounds_toArray, List.set_cons_zero, List.set_cons_succ])) | (refine wpl_store encAddr Try.underlying114 HD7.out.map b.frm _ _ _ rfl rfl (by exact rfl) (by exact rfl) (.agg #[]) (by exact rfl) (fun w8 hm8 hg8 _ => ?_); have HM8 := Lib.hid hm8; have HF8 := Lib.hid hg8; clear hm8 hg8; (try simp only [Act.put])))
            have HI8 := Lib.hid (HK.out.more _ _ _ _ (HK.out.stay _ _ _ w8 HI7.out ((Fr.of_grown HF8.out).mono (fun k _ hk => .inr (by rw [Option.some.inj hk]; exact mapAt_of HD7.out.map)))) HF8.out.size)
            have HP8 := Lib.hid (show PickAt T I W0 l f0 s0 bN bD f (b.frm :: D) s' NL (putAt DL b.frm (.agg #[])) w8 from ⟨.skip PK.out.pk HBE.out HNV.out HT7.out, PK.out.lt, ⟨HN7.out.map.kept HF8.out (fun e => by have h1 := HNW.out; have h2 := Option.some.inj e; omega), HN7.out.val⟩, DoneMap.put PK.out.dn.val HM8.out, HI8.out, HB7.out.grown HF8.out HB7.out.size (fun q hq => by obtain rfl := Option.some.inj hq; have h1 := HNW.out; omega)⟩)
            go_roundg (togoD l f (b.frm :: D))
            case measure => exact togoD_skip HBM.out
            case rel => exact ⟨f, (b.frm :: D), s', NL, (putAt DL b.frm (.agg #[])), rfl, HP8.out⟩
end Go.Proofs.Ytkdckcjnjljdmaa.Po
