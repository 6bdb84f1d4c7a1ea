/- A genesis, plain; a world in memory; kv.New, book.New, world.New, world.Nonce. -/
import Derived.Test.YtkdckcjnjljdmaaCZy
import Derived.Test.YtkdckcjnjljdmaaCAcT
namespace Go.Proofs.Ytkdckcjnjljdmaa.Wd
open Go Go.RowKit Go.Lib Kt Fm Ad Kv Ac
open Po (bc)

/-- An account of a genesis. -/
structure Acc where
  (e : Ent) (cp sp : Option Go.Addr) (cl cc sl sc : Nat)
def Acc.cs (x : Acc) : List Value := [.int .u8 x.e.a.x0.toNat, .int .u8 x.e.a.x1.toNat, .int .u8 x.e.a.x2.toNat, .int .u8 x.e.a.x3.toNat, .int .u8 x.e.a.x4.toNat, .int .u8 x.e.a.x5.toNat, .int .u8 x.e.a.x6.toNat, .int .u8 x.e.a.x7.toNat, .int .u64 x.e.b, .int .u64 x.e.n, .slice x.cp x.cl x.cc, .slice x.sp x.sl x.sc]
theorem Acc.len (x : Acc) : x.cs.length = 12 := rfl
theorem Acc.one (x : Acc) : x.cs.toArray.all (·.oneCell') = true := by simp [Acc.cs, Value.oneCell']
/-- What a genesis' accounts come to: the error, the ledger. -/
def genGo : List Acc → Option A8 → List Ent → Nat × List Ent
  | [], _, L => (if (tot L).2 then 0 else 211, L)
  | x :: r, p, L => if (∃ q, p = some q ∧ ¬ Lib.compareBytes q.l x.e.a.l < 0) ∨ 0 < x.cl + x.sl then (2, L) else genGo r (some x.e.a) (put x.e L)
def gen (l : List Acc) : Nat × List Ent := genGo l none []
def prevA (l : List Acc) : Nat → Option A8
  | 0 => none
  | k + 1 => (l[k]?).map (·.e.a)
theorem putGo_len (x : Ent) : ∀ (d : Bool) (L : List Ent), (putGo x d L).length ≤ L.length + 1
  | d, [] => by unfold putGo; split <;> simp
  | d, y :: r => by
    unfold putGo
    by_cases h : (!d && decide (x.a.num < y.a.num)) = true
    · rw [if_pos h]
      have hd : (d || decide (x.a.num < y.a.num)) = true := by cases d <;> simp_all
      rw [hd, putGo_true]
      have h2 : (strikeE x.a r).length ≤ r.length := List.length_filter_le _ _
      simp only [List.length_append, List.length_cons, List.length_nil]
      split <;> simp <;> omega
    · rw [if_neg h]
      have h2 := putGo_len x (d || decide (x.a.num < y.a.num)) r
      simp only [List.length_append, List.length_cons, List.length_nil]
      split <;> simp <;> omega
theorem put_len (x : Ent) (L : List Ent) : (put x L).length ≤ L.length + 1 := putGo_len x _ L
/-- What is asked of an account's numbers. -/
structure AccOk (x : Acc) : Prop where
  b : x.e.b < M64
  n : x.e.n < M64
  cl : x.cl ≤ 1000000000000000000
  sl : x.sl ≤ 1000000000000000000
def Gen.cs (c : A8) (s : Option Go.Addr) (n cap : Nat) : List Value := [.int .u8 c.x0.toNat, .int .u8 c.x1.toNat, .int .u8 c.x2.toNat, .int .u8 c.x3.toNat, .int .u8 c.x4.toNat, .int .u8 c.x5.toNat, .int .u8 c.x6.toNat, .int .u8 c.x7.toNat, .slice s n cap]
/-- A world's cells. -/
def Wd.cs (c : A8) (bl bk bb : Nat) (uv mv : Value) : List Value := [.int .u8 c.x0.toNat, .int .u8 c.x1.toNat, .int .u8 c.x2.toNat, .int .u8 c.x3.toNat, .int .u8 c.x4.toNat, .int .u8 c.x5.toNat, .int .u8 c.x6.toNat, .int .u8 c.x7.toNat, .pointer (some ⟨bl, 0, none⟩), .pointer (some ⟨bk, 0, none⟩), .pointer (some ⟨bb, 0, none⟩), uv, mv]
/-- A world in memory, as far as its ledger goes. -/
structure WAt (W : World) (wp bl bm : Nat) (c : A8) (bk bb : Nat) (uv mv : Value) (L : List Ent) : Prop where
  box : Lies W wp 69 (Wd.cs c bl bk bb uv mv).toArray
  led : Led W bl bm L
theorem WAt.later {W W' : World} {wp bl bm : Nat} {c : A8} {bk bb : Nat} {uv mv : Value} {L : List Ent} (h : WAt W wp bl bm c bk bb uv mv L) (hb : Below W.heap.size W W') : WAt W' wp bl bm c bk bb uv mv L := ⟨h.box.below hb h.box.lt, h.led.later hb⟩
theorem sl_addr {w : World} {g o : Nat} {a : A8} (hg : g < w.heap.size) (h : w.rangeAt g o a.cs) : Sl w 1 bc (.slice (some ⟨g, o, none⟩) 8 8) a.l := by
  refine ⟨_, 8, rfl, fun _ => ⟨g, o, rfl, hg, fun i x hi j c hj => ?_⟩⟩
  have hj0 : j = 0 := by
    have := (List.getElem?_eq_some_iff.1 hj).1
    simp [bc] at this
    exact this
  subst hj0
  rw [Nat.mul_one, Nat.add_zero]
  refine h i c ?_
  obtain rfl : c = .int .u8 x.toNat := (Option.some.inj hj).symm
  match i, hi with
  | 0, hi => cases hi; rfl
  | 1, hi => cases hi; rfl
  | 2, hi => cases hi; rfl
  | 3, hi => cases hi; rfl
  | 4, hi => cases hi; rfl
  | 5, hi => cases hi; rfl
  | 6, hi => cases hi; rfl
  | 7, hi => cases hi; rfl
  | i + 8, hi => cases hi
theorem acc_addr {w : World} {g o : Nat} {x : Acc} (h : w.rangeAt g o x.cs) : w.rangeAt g o x.e.a.cs := fun i u hi => by
  refine h i u ?_
  match i, hi with
  | 0, hi => exact hi
  | 1, hi => exact hi
  | 2, hi => exact hi
  | 3, hi => exact hi
  | 4, hi => exact hi
  | 5, hi => exact hi
  | 6, hi => exact hi
  | 7, hi => exact hi
  | i + 8, hi => cases hi
theorem sizeAc : (Try.prog.info? 72).map (·.size) = some 12 := by kernel_rfl
set_option maxRecDepth 100000 in
set_option maxHeartbeats 16000000 in
theorem kvnew (W : World) : Calls Try.prog 20 #[] W fun e w' => ∃ b, e = .returned (.pointer (some ⟨b, 0, none⟩)) ∧ Below W.heap.size W w' := by
  have hmm := @run_makeMap Try.prog
  go_enter Try.func20, Try.ntmps20
  go_wp2
  go_ret
  exact ⟨_, rfl, ((Below.refl _ _).alloc (Nat.le_refl _) _).alloc (by simp) _⟩
set_option maxRecDepth 100000 in
set_option maxHeartbeats 16000000 in
theorem bknew (W : World) : Calls Try.prog 21 #[] W fun e w' => ∃ b, e = .returned (.pointer (some ⟨b, 0, none⟩)) ∧ Below W.heap.size W w' := by
  have hmm := @run_makeMap Try.prog
  go_enter Try.func21, Try.ntmps21
  go_wp2
  go_ret
  exact ⟨_, rfl, ((Below.refl _ _).alloc (Nat.le_refl _) _).alloc (by simp) _⟩
set_option maxRecDepth 100000 in
set_option maxHeartbeats 16000000 in
theorem nonce_w {W : World} {wp bl bm : Nat} {c : A8} {bk bb : Nat} {uv mv : Value} {L : List Ent} (h : WAt W wp bl bm c bk bb uv mv L) (a : A8) : Calls Try.prog 10 #[.pointer (some ⟨wp, 0, none⟩), a.v] W fun e w' => e = .returned (.int .u64 (get L a).2) ∧ Below W.heap.size W w' := by
  have HW := Lib.hid h
  clear h
  go_enter Try.func10, Try.ntmps10
  go_upto_region 3 with (refine wl_box a.cs _ rfl rfl rfl (fun w1 hbw1 hlw1 => ?_); have HB1 := Lib.hid (hbw1); have HLB := Lib.hid hlw1; obtain ⟨B, hBw1⟩ : ∃ B, B = W.heap.size := ⟨_, rfl⟩; rw [← hBw1] at HLB ⊢; clear hBw1 hbw1 hlw1; (try simp only [Act.put, List.setIfInBounds_toArray, List.set_cons_zero, List.set_cons_succ]))
  have z8 : w1.cell? ⟨wp, 8, none⟩ = some (.pointer (some ⟨bl, 0, none⟩)) := (HW.out.later HB1.out).box.cell 8
  refine wp_region_t [(0, 1), (1, 1), (2, 1), (3, 1), (4, 1), (5, 0), (6, 1)] (fun w' => Below w1.heap.size w1 w') [] [] rfl (by kernel_rfl) (by kernel_rfl) (fun _ _ d _ _ h => by cases d <;> exact h) (below_drew w1) (fun p hp => by cases hp) ?_
  have HB2 := Lib.hid (bt HB1.out (below_drew w1))
  have HB12 := Lib.hid (below_drew w1)
  generalize w1.drew = w2 at HB2 HB12 ⊢
  repeat (first | (refine ts_take (v := .agg a.cs.toArray) rfl rfl (fun w' hw' => exec_load (lies_range (HLB.out.below hw' HLB.out.lt)) _ rfl rfl Try.underlying23 rfl Po.sizeAd) ?_; (try simp only [Act.put, List.setIfInBounds_toArray, List.set_cons_zero, List.set_cons_succ])) | (refine ts_take (v := ?_) rfl rfl (fun w' hw' => ?_) ?_; rotate_left; (focus (have q0 := keepc hw' z8; (try simp only [Act.put, List.setIfInBounds_toArray, List.set_cons_zero, List.set_cons_succ]); go_simp; (try go_bits); (try (with_reducible rfl)))); (try simp only [Act.put, List.setIfInBounds_toArray, List.set_cons_zero, List.set_cons_succ])))
  refine ts_run1 rfl rfl (fun K hK => ?_)
  go_simp
  refine (nonce_any (HW.out.later HB2.out).led a).mono ?_
  rintro en w3 ⟨rfl, hb3⟩
  have HB3 := Lib.hid (bt HB2.out hb3)
  have HB13 := Lib.hid (bt HB12.out hb3)
  clear hb3
  refine hK.out _ _ HB13.out (still_none _ _) ?_
  clear hK K
  (try simp only [Act.put, List.setIfInBounds_toArray, List.set_cons_zero, List.set_cons_succ])
  repeat (first | (refine ts_take (v := ?_) rfl rfl (fun w' hw' => ?_) ?_; rotate_left; (focus (skip; (try simp only [Act.put, List.setIfInBounds_toArray, List.set_cons_zero, List.set_cons_succ]); go_simp; (try go_bits); (try (with_reducible rfl)))); (try simp only [Act.put, List.setIfInBounds_toArray, List.set_cons_zero, List.set_cons_succ])) | (refine ts_skip rfl rfl ?_; (try simp only [Act.put, List.setIfInBounds_toArray, List.set_cons_zero, List.set_cons_succ])))
  refine ts_done ?_
  go_wp2_with fail
  go_ret
  exact ⟨rfl, HB3.out⟩
theorem WAt.nonces {W : World} {wp bl bm : Nat} {c : A8} {bk bb : Nat} {uv mv : Value} {L : List Ent} (h : WAt W wp bl bm c bk bb uv mv L) : Po.Nonces W (.pointer (some ⟨wp, 0, none⟩)) (fun a => (get L a).2) :=
  ⟨fun _ hb a => nonce_w (h.later hb) a, fun a => (get_lt h.led.ok a).2⟩
end Go.Proofs.Ytkdckcjnjljdmaa.Wd
