/- maps.Keys at one map type keyed by addresses: the iterator hands every key on, each once, in whatever order. -/
import Derived.Test.YtkdckcjnjljdmaaCKa
import Derived.Test.YtkdckcjnjljdmaaCBx
import Derived.RangeFuncBox
import Derived.RangeFuncNested
import Derived.Shelf.Abstract
import Derived.OwnWalkIn
import Derived.TacticsInMore
import Derived.LoopNIn
import Derived.LoopIn
namespace Go.Proofs.Ytkdckcjnjljdmaa.Ad
open Go Go.RowKit Go.Shelf Kt

set_option maxRecDepth 100000 in
set_option maxHeartbeats 1000000 in
theorem keys1_acct (F : Fence) (n : Nat) (h10 : F.fn 65) (hro : F.round = none) (hn : 1 ≤ n) (l Bm b : Nat) (L : List (A8 × Value)) (J Jx : List A8 → World → Prop)
    (hY : ∀ pre x W, J pre W → pre.length < L.length → YieldAt F (n - 1) Try.prog l #[x.v] W fun e W' => (e = .returned (.bool true) ∧ J (pre ++ [x]) W' ∧ KeepsWalks W W') ∨ (e = .returned (.bool false) ∧ Jx (pre ++ [x]) W'))
    (W : World) (hJ : AbidesFrom W.heap.size J) (hm : W.cell? ⟨Bm, 0, none⟩ = some (.map (some b))) (hown : IsMap A8.v W b L) (h0 : J [] W) :
    CallsIn F n Try.prog 65 #[.func (.yield l) #[] #[], .pointer (some ⟨Bm, 0, none⟩)] W fun e W' => (∃ v, e = .returned v) ∧ ((∃ xs, xs.Perm (L.map (·.1)) ∧ J xs W') ∨ (∃ pre, pre.length ≤ L.length ∧ Jx pre W')) := by
  refine callsIn_of_wp Try.func65 rfl h10 ?_ hro
  simp only [Try.ntmps65, List.size_toArray, List.length_cons, List.length_nil, Nat.reduceAdd, Nat.reduceSub, Array.replicate_succ, Array.replicate_zero, List.push_toArray, List.append_toArray, List.nil_append, List.cons_append]
  gi_wp2_with (first
    | (gi_at_range; refine wpi_range Try.underlying97 hown _ rfl rfl rfl ?_; intro w0 hrg0 hg0 hs0)
    | gi_in)
  go_frame
  gi_loopw [3] (fun _ wr => ∃ (left : List (A8 × Value)) (ss : List A8), Ranging A8.v wr b W.heap.size L left ∧ (ss ++ left.map (·.1)).Perm (L.map (·.1)) ∧ J ss wr)
    (fun _ wr => wr.rangeLeft b W.heap.size)
  case atStart =>
    exact ⟨_, [], hrg0, by simp, hJ [] W w0 none h0 hg0 (fun r e => by cases e)⟩
  case round =>
    obtain ⟨left, ss, hrg, hC, hJs⟩ := hrel
    gi_wp2_with (first
      | (gi_at_next; refine wpi_next hrg _ rfl rfl rfl ?_ ?_)
      | gi_in)
    · intro hc0
      gi_wp2
      go_end0
      subst hc0
      exact ⟨⟨_, rfl⟩, .inl ⟨ss, by simpa using hC, hJs⟩⟩
    · intro x v left' w2 hp hrg2 hg2 hs2 hen
      have hlen : left.length = left'.length + 1 := by simpa using hp.length_eq
      have hCl : ss.length + left.length = L.length := by simpa using hC.length_eq
      have hJ2 : J ss w2 := hJ ss wr w2 (some W.heap.size) hJs hg2 (fun r e => by cases e; exact ⟨Nat.le_refl _, hrg.iter_walk⟩)
      have hsz : W.heap.size ≤ w2.heap.size := Nat.le_of_lt hrg2.lt
      have hg3 := World.grownBy_alloc w2 (.cells #[.int .u8 x.x0.toNat, .int .u8 x.x1.toNat, .int .u8 x.x2.toNat, .int .u8 x.x3.toNat, .int .u8 x.x4.toNat, .int .u8 x.x5.toNat, .int .u8 x.x6.toNat, .int .u8 x.x7.toNat] 23) none
      have hJ3 := hJ ss _ _ none hJ2 hg3 (fun r e => by cases e)
      have hrg3 := hrg2.kept hg3 (by simp) (by simp)
      obtain ⟨fn, tmps, assign, body, hy, hR⟩ := hY ss x _ hJ3 (by omega)
      dsimp only [A8.v] at hy
      have HP := Lib.hid hp
      have HC := Lib.hid hC
      have HL := Lib.hid hlen
      have HCL := Lib.hid hCl
      clear hp hC hlen hCl hs2 hg3 hsz
      gi_wp2
      refine hR.mono ?_
      rintro e W3 (⟨rfl, hJ4, hk3⟩ | ⟨rfl, hJ4⟩)
      · gi_wp2
        have hrg4 := hrg3.of_walks hk3
        go_roundw
        case rel => exact ⟨_, ss ++ [x], hrg4, by
          have := HP.out.map (·.1)
          simp only [List.map_cons] at this
          simpa using ((List.Perm.append_left ss this).symm.trans HC.out), hJ4⟩
        case measure => rw [hrg4.left_eq, hrg.left_eq]; have := HL.out; omega
      · gi_wp2
        refine bodyPost_ret (results_none rfl _ _ _) rfl ?_
        exact ⟨⟨_, rfl⟩, .inr ⟨ss ++ [x], by have := HL.out; have := HCL.out; simp; omega, hJ4⟩⟩

theorem keys_stops_acct (F : Fence) (n : Nat) (h10 : F.fn 65) (hro : F.round = none) (hn : 1 ≤ n) (Bm b : Nat) (L : List (A8 × Value)) (w : World) (hBm : Bm < w.heap.size)
    (hm : w.cell? ⟨Bm, 0, none⟩ = some (.map (some b))) (hown : IsMap A8.v w b L) :
    SeqStopsK F n Try.prog 65 #[.pointer (some ⟨Bm, 0, none⟩)] (fun x : A8 => #[x.v]) KeepsWalks (fun xs => xs.Perm (L.map (·.1))) (fun pre => pre.length ≤ L.length) L.length w := fun l J Jx W hW hJ _ hY h0 =>
  keys1_acct F n h10 hro hn l Bm b L J Jx hY W hJ ((hW.cell (p := ⟨Bm, 0, none⟩) hBm).trans hm) (hown.of_block (hW.block b hown.lt)) h0

set_option maxHeartbeats 1000000 in
theorem keys_acct (F : Fence) (n : Nat) (h7 : F.fn 58) (hro : F.round = none) (mb : Option Nat) (w : World) :
    CallsIn F n Try.prog 58 #[.map mb] w fun e w' => e = .returned (.func (.func 65) #[] #[.pointer (some ⟨w.heap.size, 0, none⟩)]) ∧ w' = w.alloc (.cells #[.map mb] 97) := by
  refine callsIn_of_wp Try.func58 rfl h7 ?_ hro
  simp only [Try.ntmps58, List.size_toArray, List.length_cons, List.length_nil, Nat.reduceAdd, Nat.reduceSub, Array.replicate_succ, Array.replicate_zero, List.push_toArray, List.append_toArray, List.nil_append, List.cons_append]
  gi_wp2
  go_ret
  exact ⟨rfl, rfl⟩
end Go.Proofs.Ytkdckcjnjljdmaa.Ad
