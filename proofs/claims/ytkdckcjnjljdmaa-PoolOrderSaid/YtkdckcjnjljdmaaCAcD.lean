/- The walks of the ledger's New, Copy, All, Total. -/
import Derived.Test.YtkdckcjnjljdmaaCAcA
import Derived.Test.YtkdckcjnjljdmaaCKsA
import Derived.Test.YtkdckcjnjljdmaaCCmA
namespace Go.Proofs.Ytkdckcjnjljdmaa.Ac
open Go Go.RowKit Go.Shelf Kt Ad

set_option maxRecDepth 100000 in
set_option maxHeartbeats 2000000 in
theorem new_any (W : World) :
    Calls Try.prog 19 #[] W fun e w' => ∃ bl bm, e = .returned (.pointer (some ⟨bl, 0, none⟩)) ∧ Led w' bl bm [] ∧ W.heap.size ≤ bl ∧ W.heap.size ≤ bm ∧ Below W.heap.size W w' := by
  have hmm := @run_makeMap Try.prog
  go_enter Try.func19, Try.ntmps19
  go_wp2
  go_ret
  refine ⟨W.heap.size + 1, W.heap.size, rfl, ⟨?_, (IsMap.new W A8.v).alloc _, Ok.nil⟩, by omega, Nat.le_refl _, ((Below.refl _ _).alloc (Nat.le_refl _) _).alloc (by simp) _⟩
  have := Lies.new (W.alloc (.map #[] 0)) 99 #[.map (some W.heap.size)]
  rw [World.size_alloc] at this
  exact this

/-- slices.SortedFunc of a map's keys. -/
theorem sortedFunc_in (F : Fence) (n : Nat) (hF : F = Fence.wide) (hn : 6 ≤ n) (g : Nat) (lb : Array Value) (eg : ∀ args w, (callFunc g args).run Try.prog w = .ok (.enter g args) w) (K : List A8) (hK : K.Nodup) (hN : K.length ≤ 2000000000000) (w : World)
    (hseq : ∀ m, 1 ≤ m → SeqStopsK F m Try.prog g lb (fun x : A8 => #[x.v]) KeepsWalks (fun xs => xs.Perm K) (fun pre => pre.length ≤ K.length) K.length w)
    (gc : Nat) (cb : Array Value) (egc : ∀ args w, (callFunc gc args).run Try.prog w = .ok (.enter gc args) w)
    (hcmp : ∀ (a b : A8) (W : World), Calls Try.prog gc (#[a.v, b.v] ++ cb) W fun e w' => e = .returned (.int .i64 (cmpA a b)) ∧ ∃ q os, w' = Sort.grow (W.drewN q) os) :
    CallsIn F n Try.prog 57 #[.func (.func g) #[] lb, .func (.func gc) #[] cb] w fun e w' => ∃ (v : Value) (ss : List A8), e = .returned v ∧ ss.Perm K ∧ RiseA ss ∧ w'.ownsRow w.heap.size 23 8 v ss.length (addrCells ss) ∧ Below w.heap.size w w' := by
  subst hF
  refine callsIn_of_wp Try.func57 rfl trivial ?_ rfl
  have h1 : 1 ≤ n := by omega
  have hf1 : Fence.wide.fn 63 := trivial
  have hf2 : Fence.wide.fn 64 := trivial
  simp only [Try.ntmps57, List.size_toArray, List.length_cons, List.length_nil, Nat.reduceAdd, Nat.reduceSub, Array.replicate_succ, Array.replicate_zero, List.push_toArray, List.append_toArray, List.nil_append, List.cons_append]
  gi_wp2_with (first
    | (gi_at_call 63; refine (collect_in Fence.wide (n - 1) trivial trivial rfl (by omega) g lb trivial eg _ _ _ hN _ (hseq _ (by omega))).mono ?_; rintro e w1 ⟨v, ss, rfl, hS, hrow, hb⟩
       have hnd : ss.Nodup := hS.nodup_iff.2 hK
       have hlen : ss.length ≤ 2000000000000 := by rw [hS.length_eq]; exact hN)
    | (gi_at_call 64; refine (callsIn_wide.2 (sort_addr hrow hnd hlen gc cb egc hcmp)).mono ?_; rintro e w2 ⟨rfl, ts, hp, hr, hrow2, hg2⟩))
  go_ret
  exact ⟨_, ts, rfl, hp.trans hS, hr, hrow2, hb.grown hg2 hb.size (fun k e => (hrow.lt k e).1)⟩

theorem eKeys1 : ∀ args w, (callFunc 65 args).run Try.prog w = .ok (.enter 65 args) w := enters_of Try.func65 (by kernel_rfl) rfl
theorem eAll1 : ∀ args w, (callFunc 59 args).run Try.prog w = .ok (.enter 59 args) w := enters_of Try.func59 (by kernel_rfl) rfl

set_option maxRecDepth 100000 in
set_option maxHeartbeats 2000000 in
theorem all_any {W : World} {bl bm : Nat} {L : List Ent} (h : Led W bl bm L) (hN : L.length ≤ 2000000000000) :
    Calls Try.prog 43 #[.pointer (some ⟨bl, 0, none⟩)] W fun e w' => ∃ v, e = .returned v ∧ w'.ownsRow W.heap.size 23 8 v L.length (addrCells (L.map (·.a))) ∧ Below W.heap.size W w' := by
  have hc := h.cell.cell 0
  simp only [List.getElem?_toArray, List.getElem?_cons_zero] at hc
  have hkeys : (L.map kv).map (·.1) = L.map (·.a) := by rw [List.map_map]; rfl
  have hr : RiseA (L.map (·.a)) := List.pairwise_map.2 h.ok.rise
  have hnd : (L.map (·.a)).Nodup := nodup_of_rise h.ok.rise
  have HS := Lib.hid (fun m (hm : 1 ≤ m) => keys_stops_acct Fence.wide m trivial rfl hm W.heap.size bm (L.map kv) (W.alloc (.cells #[.map (some bm)] 97)) (by simp) ((Lies.new W _ _).cell 0) (h.map.alloc _))
  rw [hkeys, List.length_map] at HS
  have HL := Lib.hid (show (L.map (·.a)).length = L.length by simp)
  rw [show L.length = (L.map (·.a)).length by simp] at HS hN ⊢
  have HN := Lib.hid hN
  have HND := Lib.hid hnd
  have HR := Lib.hid hr
  clear h hkeys hr hnd hN HL
  generalize L.map (·.a) = K at HS HN HND HR ⊢
  have hf1 : Fence.wide.fn 58 := trivial
  have hf2 : Fence.wide.fn 57 := trivial
  refine (callsIn_wide (n := 9)).1 ?_
  refine callsIn_of_wp Try.func43 rfl trivial ?_ rfl
  simp only [Try.ntmps43, List.size_toArray, List.length_cons, List.length_nil, Nat.reduceAdd, Nat.reduceSub, Array.replicate_succ, Array.replicate_zero, List.push_toArray, List.append_toArray, List.nil_append, List.cons_append]
  gi_wp2_with (first
    | (gi_at_call 58; refine (keys_acct Fence.wide 8 trivial rfl (some bm) W).mono ?_; rintro e w1 ⟨rfl, rfl⟩)
    | (gi_at_call 57; refine (sortedFunc_in Fence.wide 8 rfl (by decide) _ _ eKeys1 _ HND.out HN.out _ HS.out _ #[] eAll1 cmp_acct).mono ?_; rintro e w2 ⟨v, ss, rfl, hp, hr, hrow, hb⟩))
  go_ret
  obtain rfl : ss = K := eq_of_riseA hr HR.out hp
  refine ⟨v, rfl, ?_, ((Below.refl _ _).alloc (Nat.le_refl _) _).trans (hb.mono (by simp))⟩
  refine ⟨hrow.1, ?_⟩
  rcases hrow.2 with hn | ⟨g, cap, cur, hv, hbg, rest⟩
  · exact .inl hn
  · exact .inr ⟨g, cap, cur, hv, by simp at hbg; omega, rest⟩
end Go.Proofs.Ytkdckcjnjljdmaa.Ac
