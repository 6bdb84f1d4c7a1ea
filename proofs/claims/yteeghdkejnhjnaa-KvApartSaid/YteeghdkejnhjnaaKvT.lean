/- Parts of KvApart: what a script leaves; three stores beside one another; the closure's walk; lists of bools. -/
import Derived.Test.YteeghdkejnhjnaaKvK
import Derived.Test.YteeghdkejnhjnaaKvW
namespace Go.Proofs.Yteeghdkejnhjnaa.Kv
open Go Go.ChangeShapes Go.WideShapes Go.ChangeAt Go.RowKit Go.Shelf Kt Ad Bo

/-! ### plain -/
def stp (a : A8) (g : St) (x : Kdo) : St := if x.k = 1 then g.put a x.key none else if 64 < x.key.length ∨ 1024 < x.val.length then g else g.put a x.key (some x.val)
def runs (a : A8) (L : List Kdo) : St := L.foldl (stp a) St.nil
theorem runs_snoc (a : A8) (L : List Kdo) (x : Kdo) : runs a (L ++ [x]) = stp a (runs a L) x := by unfold runs; rw [List.foldl_append]; rfl
theorem stp_at {a : A8} {g g' : St} (x : Kdo) (h : ∀ k, g a k = g' a k) : ∀ k, stp a g x a k = stp a g' x a k := fun k => by
  unfold stp
  split
  · unfold St.put; split
    · rfl
    · exact h k
  · split
    · exact h k
    · unfold St.put; split
      · rfl
      · exact h k
theorem stp_other {a b : A8} (hne : b ≠ a) (g : St) (x : Kdo) (k : Bs) : stp a g x b k = g b k := by
  unfold stp
  split
  · exact put_other _ _ (fun e => hne e.1)
  · split
    · rfl
    · exact put_other _ _ (fun e => hne e.1)
theorem runs_other {a b : A8} (hne : b ≠ a) (L : List Kdo) (k : Bs) : runs a L b k = none := by
  unfold runs
  have : ∀ (L : List Kdo) (g : St), g b k = none → L.foldl (stp a) g b k = none := by
    intro L
    induction L with
    | nil => intro g h; exact h
    | cons x r ih => intro g h; exact ih _ (by rw [stp_other hne, h])
  exact this L St.nil rfl
theorem Bd.stp {n : Nat} {g : St} (h : Bd n g) (a : A8) (x : Kdo) : Bd (n + 1) (stp a g x) := by
  unfold Kv.stp
  split
  · exact (h.del a _).mono (by omega)
  · split
    · exact h.mono (by omega)
    · exact h.put a (by omega) (by omega)
theorem Tells.congr {g g' : St} {a : A8} {P : List (Bs × Bs)} (h : Tells g a P) (he : ∀ k, g a k = g' a k) : Tells g' a P := ⟨h.1, fun k v => by rw [h.2, he]⟩
theorem tells_none {g : St} {a : A8} {P : List (Bs × Bs)} (h : Tells g a P) (he : ∀ k, g a k = none) : P = [] := by
  cases P with
  | nil => rfl
  | cons p r =>
    have := (h.2 p.1 p.2).1 List.mem_cons_self
    rw [he] at this
    cases this

/-! ### three stores -/
structure Tri (B : Nat) (W w : World) (o1 o2 o3 : Nat → Prop) (b1 b2 b3 : Nat) (g1 g2 g3 : St) : Prop where
  s1 : Sto w o1 b1 g1
  s2 : Sto w o2 b2 g2
  s3 : Sto w o3 b3 g3
  lt : ∀ k, o1 k ∨ o2 k ∨ o3 k → k < w.heap.size ∧ B ≤ k
  d12 : ∀ k, o1 k → ¬ o2 k
  d13 : ∀ k, o1 k → ¬ o3 k
  d23 : ∀ k, o2 k → ¬ o3 k
  base : B ≤ w.heap.size
  wb : W.heap.size ≤ B
  below : Below W.heap.size W w
section
variable {B : Nat} {W w w' : World} {o1 o2 o3 : Nat → Prop} {b1 b2 b3 : Nat} {g1 g2 g3 : St}
theorem Tri.on1 (h : Tri B W w o1 o2 o3 b1 b2 b3 g1 g2 g3) {g' : St} (hk : Sto w' (fun k => o1 k ∨ w.heap.size ≤ k) b1 g') (hf : Fr w w' (fun k => o1 k ∨ w.heap.size ≤ k)) : Tri B W w' (fun k => (o1 k ∨ w.heap.size ≤ k) ∧ k < w'.heap.size) o2 o3 b1 b2 b3 g' g2 g3 :=
  ⟨hk.mono (fun k hl ho => ⟨ho, hl⟩), h.s2.kept hf (fun k hk e => e.elim (fun e => h.d12 k e hk) (fun e => by have := (h.lt k (Or.inr (Or.inl hk))).1; omega)), h.s3.kept hf (fun k hk e => e.elim (fun e => h.d13 k e hk) (fun e => by have := (h.lt k (Or.inr (Or.inr hk))).1; omega)),
    fun k hk => by
      rcases hk with hk | hk | hk
      · refine ⟨hk.2, ?_⟩
        rcases hk.1 with e | e
        · exact (h.lt k (Or.inl e)).2
        · exact Nat.le_trans h.base e
      · have := h.lt k ((fun e => Or.inr (Or.inl e)) hk); exact ⟨Nat.lt_of_lt_of_le this.1 hf.size, this.2⟩
      · have := h.lt k ((fun e => Or.inr (Or.inr e)) hk); exact ⟨Nat.lt_of_lt_of_le this.1 hf.size, this.2⟩
    , fun k hk e => hk.1.elim (fun hk => h.d12 k hk e) (fun hk => by have := (h.lt k ((fun e => Or.inr (Or.inl e)) e)).1; omega), fun k hk e => hk.1.elim (fun hk => h.d13 k hk e) (fun hk => by have := (h.lt k ((fun e => Or.inr (Or.inr e)) e)).1; omega), h.d23, Nat.le_trans h.base hf.size, h.wb,
    h.below.trans (hf.below h.below.size (fun k e => e.elim (fun e => Nat.le_trans h.wb (h.lt k (Or.inl e)).2) (fun e => Nat.le_trans h.below.size e)))⟩
theorem Tri.on2 (h : Tri B W w o1 o2 o3 b1 b2 b3 g1 g2 g3) {g' : St} (hk : Sto w' (fun k => o2 k ∨ w.heap.size ≤ k) b2 g') (hf : Fr w w' (fun k => o2 k ∨ w.heap.size ≤ k)) : Tri B W w' o1 (fun k => (o2 k ∨ w.heap.size ≤ k) ∧ k < w'.heap.size) o3 b1 b2 b3 g1 g' g3 :=
  ⟨h.s1.kept hf (fun k hk e => e.elim (fun e => h.d12 k hk e) (fun e => by have := (h.lt k (Or.inl hk)).1; omega)), hk.mono (fun k hl ho => ⟨ho, hl⟩), h.s3.kept hf (fun k hk e => e.elim (fun e => h.d23 k e hk) (fun e => by have := (h.lt k (Or.inr (Or.inr hk))).1; omega)),
    fun k hk => by
      rcases hk with hk | hk | hk
      · have := h.lt k (Or.inl hk); exact ⟨Nat.lt_of_lt_of_le this.1 hf.size, this.2⟩
      · refine ⟨hk.2, ?_⟩
        rcases hk.1 with e | e
        · exact (h.lt k ((fun e => Or.inr (Or.inl e)) e)).2
        · exact Nat.le_trans h.base e
      · have := h.lt k ((fun e => Or.inr (Or.inr e)) hk); exact ⟨Nat.lt_of_lt_of_le this.1 hf.size, this.2⟩
    , fun k e hk => hk.1.elim (fun hk => h.d12 k e hk) (fun hk => by have := (h.lt k (Or.inl e)).1; omega), h.d13, fun k hk e => hk.1.elim (fun hk => h.d23 k hk e) (fun hk => by have := (h.lt k ((fun e => Or.inr (Or.inr e)) e)).1; omega), Nat.le_trans h.base hf.size, h.wb,
    h.below.trans (hf.below h.below.size (fun k e => e.elim (fun e => Nat.le_trans h.wb (h.lt k ((fun e => Or.inr (Or.inl e)) e)).2) (fun e => Nat.le_trans h.below.size e)))⟩
theorem Tri.on3 (h : Tri B W w o1 o2 o3 b1 b2 b3 g1 g2 g3) {g' : St} (hk : Sto w' (fun k => o3 k ∨ w.heap.size ≤ k) b3 g') (hf : Fr w w' (fun k => o3 k ∨ w.heap.size ≤ k)) : Tri B W w' o1 o2 (fun k => (o3 k ∨ w.heap.size ≤ k) ∧ k < w'.heap.size) b1 b2 b3 g1 g2 g' :=
  ⟨h.s1.kept hf (fun k hk e => e.elim (fun e => h.d13 k hk e) (fun e => by have := (h.lt k (Or.inl hk)).1; omega)), h.s2.kept hf (fun k hk e => e.elim (fun e => h.d23 k hk e) (fun e => by have := (h.lt k (Or.inr (Or.inl hk))).1; omega)), hk.mono (fun k hl ho => ⟨ho, hl⟩),
    fun k hk => by
      rcases hk with hk | hk | hk
      · have := h.lt k (Or.inl hk); exact ⟨Nat.lt_of_lt_of_le this.1 hf.size, this.2⟩
      · have := h.lt k ((fun e => Or.inr (Or.inl e)) hk); exact ⟨Nat.lt_of_lt_of_le this.1 hf.size, this.2⟩
      · refine ⟨hk.2, ?_⟩
        rcases hk.1 with e | e
        · exact (h.lt k ((fun e => Or.inr (Or.inr e)) e)).2
        · exact Nat.le_trans h.base e
    , h.d12, fun k e hk => hk.1.elim (fun hk => h.d13 k e hk) (fun hk => by have := (h.lt k (Or.inl e)).1; omega), fun k e hk => hk.1.elim (fun hk => h.d23 k e hk) (fun hk => by have := (h.lt k ((fun e => Or.inr (Or.inl e)) e)).1; omega), Nat.le_trans h.base hf.size, h.wb,
    h.below.trans (hf.below h.below.size (fun k e => e.elim (fun e => Nat.le_trans h.wb (h.lt k ((fun e => Or.inr (Or.inr e)) e)).2) (fun e => Nat.le_trans h.below.size e)))⟩
theorem Tri.later (h : Tri B W w o1 o2 o3 b1 b2 b3 g1 g2 g3) (hb : Below w.heap.size w w') : Tri B W w' o1 o2 o3 b1 b2 b3 g1 g2 g3 :=
  ⟨h.s1.later hb, h.s2.later hb, h.s3.later hb, fun k hk => ⟨Nat.lt_of_lt_of_le (h.lt k hk).1 hb.size, (h.lt k hk).2⟩, h.d12, h.d13, h.d23, Nat.le_trans h.base hb.size, h.wb, h.below.trans (hb.mono h.below.size)⟩
end

/-! ### the closure -/
set_option maxRecDepth 100000 in
set_option maxHeartbeats 4000000 in
theorem call_any {W : World} {own : Nat → Prop} {bl : Nat} {g : St} {n : Nat} (h : Sto W own bl g) (ho : ∀ i, W.heap.size ≤ i → own i) (hB : Bd n g) (x : Kdo) (hk : Byt W x.kv x.key) (hv : Byt W x.vv x.val) (hkl : x.key.length ≤ 30000) (a : A8) :
    Calls Try.prog 17 #[.pointer (some ⟨bl, 0, none⟩), .agg x.cs.toArray, a.v] W fun e w' => e = .returned (.tuple #[]) ∧ Sto w' own bl (stp a g x) ∧ Fr W w' own := by
  obtain ⟨xk, xa, xkv, xkey, xvv, xval, xn⟩ := x
  obtain ⟨sx, cx, hvx⟩ : ∃ sx cx, xkv = .slice sx xkey.length cx := by obtain ⟨s, c, e, _⟩ := hk; exact ⟨s, c, e⟩
  obtain ⟨sy, cy, hvy⟩ : ∃ sx cx, xvv = .slice sx xval.length cx := by obtain ⟨s, c, e, _⟩ := hv; exact ⟨s, c, e⟩
  subst hvx hvy
  replace hkl : xkey.length ≤ 30000 := hkl
  have HK := Lib.hid (show Byt W (.slice sx xkey.length cx) xkey from hk)
  have HV := Lib.hid (show Byt W (.slice sy xval.length cy) xval from hv)
  have HS := Lib.hid h
  have HO := Lib.hid ho
  have HB := Lib.hid hB
  clear hk hv h ho hB
  simp only [A8.v, Kdo.cs]
  go_enter Try.func17, Try.ntmps17
  go_upto_region 1 with fail
  obtain ⟨W1, hW1⟩ : ∃ W1, W1 = (W.alloc (.cells (Kdo.cs ⟨xk, xa, .slice sx xkey.length cx, xkey, .slice sy xval.length cy, xval, xn⟩).toArray 31)).alloc (.cells a.cs.toArray 24) := ⟨_, rfl⟩
  have hX1 : Lies W1 W.heap.size 31 (Kdo.cs ⟨xk, xa, .slice sx xkey.length cx, xkey, .slice sy xval.length cy, xval, xn⟩).toArray := hW1 ▸ (Lies.new W _ _).alloc _
  have hA1 : Lies W1 (W.heap.size + 1) 24 a.cs.toArray := by
    have := Lies.new (W.alloc (.cells (Kdo.cs ⟨xk, xa, .slice sx xkey.length cx, xkey, .slice sy xval.length cy, xval, xn⟩).toArray 31)) 24 a.cs.toArray
    rw [World.size_alloc] at this
    exact hW1 ▸ this
  have hb1 : Below W.heap.size W W1 := hW1 ▸ ((Below.refl _ _).alloc (Nat.le_refl _) _).alloc (by simp) _
  have hz1 : W.heap.size + 2 ≤ W1.heap.size := by rw [hW1]; simp
  rw [show (W.alloc (.cells #[.int .i64 xk, .int .u8 xa.x0.toNat, .int .u8 xa.x1.toNat, .int .u8 xa.x2.toNat, .int .u8 xa.x3.toNat, .int .u8 xa.x4.toNat, .int .u8 xa.x5.toNat, .int .u8 xa.x6.toNat, .int .u8 xa.x7.toNat, .slice sx xkey.length cx, .slice sy xval.length cy, .int .i64 xn] 31)).alloc (.cells #[.int .u8 a.x0.toNat, .int .u8 a.x1.toNat, .int .u8 a.x2.toNat, .int .u8 a.x3.toNat, .int .u8 a.x4.toNat, .int .u8 a.x5.toNat, .int .u8 a.x6.toNat, .int .u8 a.x7.toNat] 24) = W1 from hW1.symm]
  have hlt : ∀ i, i < W.heap.size → i ≠ W.heap.size ∧ i ≠ W.heap.size + 1 := fun i hi => by omega
  have HS1 := Lib.hid ((HS.out.mono (own2 := fun i => own i ∧ i ≠ W.heap.size ∧ i ≠ W.heap.size + 1) (fun i hl hi => ⟨hi, hlt i hl⟩)).later hb1)
  have HO1 := Lib.hid (show ∀ i, W1.heap.size ≤ i → own i ∧ i ≠ W.heap.size ∧ i ≠ W.heap.size + 1 from fun i hi => ⟨HO.out i (by omega), by omega, by omega⟩)
  have HK1 := Lib.hid (HK.out.later hb1)
  have HV1 := Lib.hid (HV.out.later hb1)
  have HF1 := Lib.hid (Fr.of_below hb1 own)
  obtain ⟨d0, d1, d2, d3, d4, d5, d6, d7, d8, d9, d10, d11⟩ := lies_kdo hX1
  obtain ⟨a0, a1, a2, a3, a4, a5, a6, a7⟩ := lies_addr hA1
  clear hW1 hX1 hA1 hb1 hlt HS HK HV
  by_cases h1 : xk = 1
  · as_aux_lemma =>
      subst h1
      go_wp2_with fail
      refine (sto_del HS1.out HB.out a HK1.out (Nat.le_trans hkl (by unfold maxLen; omega))).mono ?_
      rintro en w2 ⟨rfl, hs, hf⟩
      have HS2 := Lib.hid hs
      have HF2 := Lib.hid (HF1.out.trans (hf.mono (fun i _ hi => hi.1)))
      clear hs hf d0 d1 d2 d3 d4 d5 d6 d7 d8 d9 d10 d11 a0 a1 a2 a3 a4 a5 a6 a7
      go_wp2_with fail
      go_end0
      exact ⟨rfl, by unfold stp; rw [if_pos rfl]; exact HS2.out.mono (fun i _ hi => hi.1), HF2.out⟩
  · as_aux_lemma =>
      go_wp2_with fail
      refine (sto_put HS1.out HO1.out a HK1.out HV1.out).mono ?_
      rintro en w2 ⟨rfl, hs, hf⟩
      have HS2 := Lib.hid hs
      have HF2 := Lib.hid (HF1.out.trans (hf.mono (fun i _ hi => hi.1)))
      clear hs hf d0 d1 d2 d3 d4 d5 d6 d7 d8 d9 d10 d11 a0 a1 a2 a3 a4 a5 a6 a7
      obtain ⟨er, her⟩ : ∃ er : Nat, (if 64 < xkey.length ∨ 1024 < xval.length then 3 else 0) = er := ⟨_, rfl⟩
      rw [her]
      clear her
      have H1 := Lib.hid h1
      clear h1
      go_wp2_with fail
      go_end0
      exact ⟨rfl, by unfold stp; rw [if_neg H1.out]; exact HS2.out.mono (fun i _ hi => hi.1), HF2.out⟩
theorem eCall : ∀ args w, (callFunc 17 args).run Try.prog w = .ok (.enter 17 args) w := enters_of Try.func17 (by kernel_rfl) rfl

/-! ### a list of bools -/
structure BoRow (W : World) (v : Value) (n : Nat) : Prop where
  shape : ∃ (s : Option Addr) (cap : Nat), v = .slice s n cap ∧ (n ≠ 0 → ∃ b off, s = some ⟨b, off, none⟩ ∧ b < W.heap.size ∧ ∀ i, i < n → ∃ q : Bool, W.cell? ⟨b, off + i, none⟩ = some (.bool q))
  len : n ≤ maxLen
section
variable {H : Type} {enc : TypeId × Value → H} {w : World} {base : Nat} {spare : Nat → Bool} {held : Bool}
theorem cells_bool : Try.prog.cellsOf 4 = 1 := by kernel_rfl
set_option maxRecDepth 100000 in
theorem open_bools {r : Reach} {b0 : Nat} {v : Value} {d : DataW H} {p : List MemPlace} (hv : Value.okWide Try.prog w r b0 42 v) (h : DataW.Trod enc Try.prog w base spare held 42 v d p) : ∃ n, BoRow w v n := by
  obtain ⟨fuel, hf⟩ := h
  obtain ⟨s, n0, c0, rfl⟩ := okWide_slice Try.underlying42 hv
  rcases Go.Deep.open_slice1 Try.underlying42 cells_bool hf with ⟨hcs, _⟩ | ⟨a, len, cap, m, n, V, D, Pl, hcs, _, hlc, hcm, hm, hy, hi⟩
  · obtain ⟨rfl, rfl, rfl⟩ : s = none ∧ n0 = 0 ∧ c0 = 0 := by simpa [Value.cells] using hcs
    exact ⟨0, ⟨none, 0, rfl, fun h => absurd rfl h⟩, Nat.zero_le _⟩
  · obtain ⟨rfl, rfl, rfl⟩ : s = some a ∧ n0 = len ∧ c0 = cap := by simpa [Value.cells] using hcs
    have hlm : n0 ≤ m := by rw [hm]; split <;> omega
    have hq : ∀ i, i < n0 → ∃ q : Bool, w.cell? (a.add i) = some (.bool q) := fun i hil => by
      obtain ⟨h1, h2⟩ := hi i (by omega)
      obtain ⟨q, hq, _⟩ := DataW.trod_bool Try.underlying4 h2
      refine ⟨q, ?_⟩
      rw [h1]
      have : V i = .bool q := by simpa using hq
      rw [this]
    refine ⟨n0, ⟨some a, c0, rfl, fun hne => ?_⟩, by omega⟩
    obtain ⟨q0, h0⟩ := hq 0 (by omega)
    obtain ⟨b, off, spot⟩ := a
    have hspot : spot = none := by simpa [Addr.add] using World.cell?_spot h0
    subst hspot
    refine ⟨b, off, rfl, by simpa [Addr.add] using World.block_lt_of_cell? w _ h0, fun i hil => ?_⟩
    obtain ⟨q, hq⟩ := hq i hil
    rw [add_plain] at hq
    exact ⟨q, hq⟩
end
end Go.Proofs.Yteeghdkejnhjnaa.Kv
