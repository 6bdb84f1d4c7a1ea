/- The walk of the document's Text. -/
import Derived.Test.YtldeialjonanmaaDoorAdT
import Derived.Deep.RegionHeld3
import Derived.Deep.AppendLies
import Derived.Laws.IdiomStrings
namespace Go.Proofs.YtldeialjonanmaaDoor.Ad
open Go Go.RowKit Kt

theorem infoU8 : (Tryd.prog.info? 5).map (fun i => (i.zero, i.size, i.bytes)) = some (some (.int .u8 0), 1, 1) := by kernel_rfl

theorem text_step (a : A8) (k : Nat) (hk : k < 8) : (a.l.take (k + 1)).flatMap hex2 = (a.l.take k).flatMap hex2 ++ hex2 (a.l[k]?.getD 0) := by
  have hl : a.l.length = 8 := rfl
  rw [List.take_succ_eq_append_getElem (by omega), List.flatMap_append, List.getElem?_eq_getElem (by omega)]
  simp
theorem text_len (a : A8) (k : Nat) (hk : k ≤ 8) : ((a.l.take k).flatMap hex2).length = 2 * k := by
  have hl : a.l.length = 8 := rfl
  induction k with
  | zero => rfl
  | succ k ih => rw [text_step a k (by omega), List.length_append, ih (by omega)]; simp [hex2]; omega
theorem box_at (a : A8) (k : Nat) (hk : k < 8) : (#[.int .u8 a.x0.toNat, .int .u8 a.x1.toNat, .int .u8 a.x2.toNat, .int .u8 a.x3.toNat, .int .u8 a.x4.toNat, .int .u8 a.x5.toNat, .int .u8 a.x6.toNat, .int .u8 a.x7.toNat] : Array Value)[k]? = some (.int .u8 (a.l[k]?.getD 0).toNat) := by
  have hk8 : k = 0 ∨ k = 1 ∨ k = 2 ∨ k = 3 ∨ k = 4 ∨ k = 5 ∨ k = 6 ∨ k = 7 := by omega
  rcases hk8 with rfl | rfl | rfl | rfl | rfl | rfl | rfl | rfl <;> rfl

set_option maxHeartbeats 4000000 in
theorem rtext_any (a : A8) (w : World) :
    Calls Tryd.prog 16 #[a.v] w fun e w' => e = .returned (.string ⟨a.text.toArray⟩) ∧ Below w.heap.size w w' := by
  obtain ⟨i0, hi, hz0, hz1, hz2⟩ := info_parts infoU8
  have HBX := Lib.hid (box_at a)
  go_enter Tryd.func16, Tryd.ntmps16
  go_wp2_with fail
  have hbx : (w.alloc (.cells #[.int .u8 a.x0.toNat, .int .u8 a.x1.toNat, .int .u8 a.x2.toNat, .int .u8 a.x3.toNat, .int .u8 a.x4.toNat, .int .u8 a.x5.toNat, .int .u8 a.x6.toNat, .int .u8 a.x7.toNat] 23)).heap[w.heap.size]? = some (.cells #[.int .u8 a.x0.toNat, .int .u8 a.x1.toNat, .int .u8 a.x2.toNat, .int .u8 a.x3.toNat, .int .u8 a.x4.toNat, .int .u8 a.x5.toNat, .int .u8 a.x6.toNat, .int .u8 a.x7.toNat] 23 (0, 0)) := heap_alloc_new _ _
  have hBW := (Below.refl w.heap.size w).alloc (Nat.le_refl _) (.cells #[.int .u8 a.x0.toNat, .int .u8 a.x1.toNat, .int .u8 a.x2.toNat, .int .u8 a.x3.toNat, .int .u8 a.x4.toNat, .int .u8 a.x5.toNat, .int .u8 a.x6.toNat, .int .u8 a.x7.toNat] 23)
  have hsz : (w.alloc (.cells #[.int .u8 a.x0.toNat, .int .u8 a.x1.toNat, .int .u8 a.x2.toNat, .int .u8 a.x3.toNat, .int .u8 a.x4.toNat, .int .u8 a.x5.toNat, .int .u8 a.x6.toNat, .int .u8 a.x7.toNat] 23)).heap.size = w.heap.size + 1 := by simp
  generalize w.alloc (.cells #[.int .u8 a.x0.toNat, .int .u8 a.x1.toNat, .int .u8 a.x2.toNat, .int .u8 a.x3.toNat, .int .u8 a.x4.toNat, .int .u8 a.x5.toNat, .int .u8 a.x6.toNat, .int .u8 a.x7.toNat] 23) = W at *
  have HSZ := Lib.hid hsz
  clear hsz
  go_loopw [4, 5] (fun v i wr => ∃ k : Nat, k ≤ 8 ∧ i = .int .i64 k ∧ wr.ownsRow W.heap.size 5 1 v (2 * k) (Lib.byteCells ((a.l.take k).flatMap hex2)) ∧ Below W.heap.size W wr) (fun _ i _ => 8 - (intOf i).toNat)
  case atStart => exact ⟨0, Nat.zero_le _, rfl, World.ownsRow_nil _ _ _ _, Below.refl _ _⟩
  case round =>
    obtain ⟨k, hk, rfl, hown, hB⟩ := hrel
    by_cases hlt : k < 8
    · have cc : wr.cell? ⟨w.heap.size, k, none⟩ = some (.int .u8 (a.l[k]?.getD 0).toNat) := (hB.cell (p := ⟨w.heap.size, k, none⟩) (by have := HSZ.out; simp; omega)).trans ((Lib.cell_of_heap (w := W) hbx k).trans (HBX.out k hlt))
      have HST := Lib.hid (text_step a k hlt)
      generalize a.l[k]?.getD 0 = x at *
      have hx := u8_lt x
      obtain ⟨n1, e1⟩ : ∃ n1, n1 = x.toNat / 16 := ⟨_, rfl⟩
      obtain ⟨n2, e2⟩ : ∃ n2, n2 = x.toNat % 16 := ⟨_, rfl⟩
      have q1 : IntKind.u8.wrap ((x.toNat : Int) / 16) = (n1 : Int) := by rw [IntWalk.u8_in _ (by omega), e1]; rfl
      have q2 : (x.toNat : Int).tmod 16 = (n2 : Int) := by rw [IntWalk.rem_in _ _ (by omega), e2]; rfl
      have l1 : 0 ≤ (n1 : Int) ∧ (n1 : Int) < 16 := by omega
      have l2 : 0 ≤ (n2 : Int) ∧ (n2 : Int) < 16 := by omega
      have hnb : ∀ j, u4.ownBlock = some j → w.heap.size ≠ j := fun j e => by have := (hown.lt j e).1; have := HSZ.out; omega
      have hwr : w.heap.size + 1 ≤ wr.heap.size := by have := hB.size; have := HSZ.out; omega
      have HE := Lib.hid (And.intro e1 e2)
      clear e1 e2
      have d1 := digs_at n1 (by show n1 < 16; omega)
      have d2 := digs_at n2 (by show n2 < 16; omega)
      go_wp2_with fail
      go_region_held3 (fun w' => w'.cell? ⟨w.heap.size, k, none⟩ = some (.int .u8 x.toNat)) (first | go_keep | ((try dsimp only); rw [hgrow.cell_far _ (by simp; omega) (fun e => hnb _ e.symm rfl)]; assumption)) ((refine step_append_lies _ (by rfl) _ _ _ (by rfl) W.heap.size 5 i0 _ 1 1 Tryd.underlying47 hi hz0 hz1 hz2 rfl (by omega) _ (2 * k) _ (by rfl) ((hown.alloc _).drew) ⟨wr.heap.size, 0, none⟩ 2 2 [.int .u8 (dig n1).toNat, .int .u8 (dig n2).toNat] (by rfl) (by rfl) (World.news_of_block (cs := #[.int .u8 (dig n1).toNat, .int .u8 (dig n2).toNat]) (t := 5) (fr := (0, 0)) (heap_alloc_new wr _)) (by simp [Value.oneCell']) (by omega) (by unfold maxLen; omega) (by omega) (by have := hB.size; simp; omega) (wr.heap.size + 1) (by simp) ?_; intro gg cap w1 hown1 hgrow hat hlt1))
      go_wp2_with fail
      all_goals
        have hfin : w1.ownsRow W.heap.size 5 1 (.slice (some ⟨gg, 0, none⟩) (2 * k + 2) cap) (2 * (k + 1)) (Lib.byteCells ((a.l.take (k + 1)).flatMap hex2)) := by
          rw [HST.out, show 2 * (k + 1) = 2 * k + 2 by omega]
          simpa [Lib.byteCells, hex2, HE.out.1, HE.out.2] using hown1
        go_roundw
        case rel => exact ⟨k + 1, by omega, by go_num, by simpa using hfin, (((hB.alloc (by have := hB.size; omega) _).drew).grown hgrow (by have := hB.size; simp; omega) (fun j h => (hown.lt j h).1))⟩
        case measure => simp [intOf]; omega
    · obtain rfl : k = 8 := by omega
      obtain ⟨g, cap, hv, hg, hg2⟩ := hown.form (by omega)
      subst hv
      have hcells := hown.cells (g := g) rfl
      have hl := text_len a 8 (by omega)
      have hcv : (convert 47 9 (.slice (some ⟨g, 0, none⟩) (2 * 8) cap)).run Tryd.prog wr = .ok (.string ⟨((a.l.take 8).flatMap hex2).toArray⟩) wr := by
        rw [← hl]
        exact run_convert_bytes_back wr _ _ _ ⟨g, 0, none⟩ cap _ Tryd.underlying47 Tryd.underlying5 Tryd.underlying9 (fun j hj => by
          refine hcells j _ ?_
          simp [Lib.byteCells, List.getElem?_eq_getElem hj])
      clear hcells
      go_wp2_with fail
      go_ret
      exact ⟨rfl, hBW.trans (hB.mono (by have := HSZ.out; omega))⟩
end Go.Proofs.YtldeialjonanmaaDoor.Ad
