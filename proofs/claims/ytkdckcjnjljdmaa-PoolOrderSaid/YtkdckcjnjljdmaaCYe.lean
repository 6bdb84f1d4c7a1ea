/- Where data lie makes no difference to a pool; the chapter's rows, plain; a pool beside a world. -/
import Derived.Test.YtkdckcjnjljdmaaCYd
namespace Go.Proofs.Ytkdckcjnjljdmaa.Po
open Go Go.RowKit Go.Lib Kt Fm Ad Kv

theorem place_nv (x y : Tx) : place x.nv y.nv = place x y := rfl
theorem rank_nv (x y : Tx) : rank x.nv y.nv = rank x y := rfl
theorem pos_nv (l : List Tx) (t : Tx) : pos (l.map Tx.nv) t.nv = pos l t := by
  unfold pos
  rw [List.countP_map]
  rfl
theorem at_nv (l : List Tx) (t : Tx) : at? (l.map Tx.nv) t.nv = (at? l t).map Tx.nv := by
  unfold at?
  rw [pos_nv, List.getElem?_map]
  cases l[pos l t]? with
  | none => rfl
  | some y =>
    simp only [Option.map_some]
    by_cases h : place y t = 0
    · rw [if_pos h, if_pos (show place y.nv t.nv = 0 from h)]; rfl
    · rw [if_neg h, if_neg (show ¬ place y.nv t.nv = 0 from h)]; rfl
theorem insAt_nv (l : List Tx) (i : Nat) (t : Tx) : insAt (l.map Tx.nv) i t.nv = (insAt l i t).map Tx.nv := by
  unfold insAt
  rw [List.map_append, List.map_cons, List.map_take, List.map_drop]
theorem withT_nv (l : List Tx) (t : Tx) : withT (l.map Tx.nv) t.nv = ((withT l t).1.map Tx.nv, (withT l t).2.map Tx.nv) := by
  unfold withT
  rw [at_nv, pos_nv]
  cases at? l t with
  | none => simp only [Option.map_none, insAt_nv]; rfl
  | some y => simp only [Option.map_some, List.map_set]; rfl
theorem maxT_nv : ∀ (r : List Tx) (m : Tx), maxT m.nv (r.map Tx.nv) = (maxT m r).nv
  | [], _ => rfl
  | x :: r, m => by
    rw [List.map_cons, maxT, maxT, rank_nv, ← maxT_nv r]
    congr 1
    split <;> rfl
theorem worst_nv (l : List Tx) : worst (l.map Tx.nv) = (worst l).map Tx.nv := by
  cases l with
  | nil => rfl
  | cons x r => exact congrArg some (maxT_nv r x)
theorem strike_nv (l : List Tx) (z : Tx) : (l.map Tx.nv).filter (fun u => decide (¬ place u z.nv = 0)) = (l.filter (fun u => decide (¬ place u z = 0))).map Tx.nv := by
  rw [List.filter_map]
  rfl
theorem addP_nv (most : Nat) (l : List Tx) (t : Tx) : addP most (l.map Tx.nv) t.nv = ((addP most l t).1.map Tx.nv, (addP most l t).2.1.map Tx.nv, (addP most l t).2.2) := by
  unfold addP
  rw [withT_nv, List.length_map, worst_nv]
  by_cases h : (withT l t).1.length ≤ most
  · rw [if_pos h, if_pos h]
  · rw [if_neg h, if_neg h]
    cases worst (withT l t).1 with
    | none => rfl
    | some z =>
      simp only [Option.map_some, place_nv, strike_nv]
      split
      · rfl
      · simp only [List.map_append, List.map_cons, List.map_nil]
theorem mayP_nv (f : Nx) (l : List Tx) (t : Tx) : mayP f (l.map Tx.nv) t.nv = mayP f l t := by
  unfold mayP
  rw [at_nv]
  show (if mayT t ≠ 0 then mayT t else if t.gas < leastT t ∨ 4294967296 < t.gas then 2 else if t.nonce < f t.frm then 8 else if 64 ≤ t.nonce - f t.frm ∨ t.nonce = 18446744073709551615 then 5 else match (at? l t).map Tx.nv with | some y => if t.price ≤ y.price then 6 else 0 | none => 0) = _
  cases at? l t <;> rfl
theorem addF_nv (f : Nx) (most : Nat) (l : List Tx) (t : Tx) : addF f most (l.map Tx.nv) t.nv = ((addF f most l t).1.map Tx.nv, (addF f most l t).2.1.map Tx.nv, (addF f most l t).2.2) := by
  unfold addF
  rw [mayP_nv]
  by_cases h : mayP f l t = 0
  · rw [if_pos h, if_pos h, addP_nv]
  · rw [if_neg h, if_neg h]; rfl
theorem avail_nv (l : List Tx) (f : Nx) : avail (l.map Tx.nv) f = (avail l f).map Tx.nv := by
  unfold avail
  rw [List.filter_map]
  rfl
theorem ord_nv {l : List Tx} : ∀ {o : List Tx} {f : Nx}, Ord l f o → Ord (l.map Tx.nv) f (o.map Tx.nv)
  | [], f, h => by
    show avail _ _ = []
    rw [avail_nv, show avail l f = [] from h]
    rfl
  | t :: o, f, h => by
    refine ⟨by rw [avail_nv]; exact List.mem_map.2 ⟨t, h.1, rfl⟩, fun u hu => ?_, ord_nv h.2.2⟩
    rw [avail_nv] at hu
    obtain ⟨u0, h0, rfl⟩ := List.mem_map.1 hu
    exact h.2.1 u0 h0
/-! ### the chapter's rows -/
def nx0 : Nx := fun _ => 0
def ta : Tx := tx1 1 0 1
def tb : Tx := tx1 1 1 9
def tc : Tx := tx1 2 0 5
def td : Tx := tx1 1 0 2
def stage : Nat → List Tx
  | 0 => []
  | 1 => [tb]
  | 2 => [ta, tb]
  | _ => [ta, tb, tc]
def coming : List Tx := [tb, ta, tc]
theorem stage_next : ∀ k t, coming[k]? = some t → addF nx0 9 (stage k) t = (stage (k + 1), [], 0)
  | 0, t, h => by cases h; kernel_rfl
  | 1, t, h => by cases h; kernel_rfl
  | 2, t, h => by cases h; kernel_rfl
  | k + 3, t, h => by cases h
theorem stage_again : addF nx0 9 (stage 3) ta = (stage 3, [], 6) := by kernel_rfl
theorem stage_last : addF nx0 9 (stage 3) td = ([td, tb, tc], [ta], 0) := by kernel_rfl
theorem stage_full : addF nx0 0 [] td = ([], [], 7) := by kernel_rfl
theorem rank_td : rank td ta < 0 := by rw [rank_lt]; exact .inl (by show (1 : Nat) < 2; decide)
theorem ord_stage {o : List Tx} (h : Ord (stage 3) nx0 o) : o = [tc, ta, tb] := by
  have a0 : avail (stage 3) nx0 = [ta, tc] := by kernel_rfl
  have a1 : avail (stage 3) (nx0.set tc.frm (tc.nonce + 1)) = [ta] := by kernel_rfl
  have a2 : avail (stage 3) ((nx0.set tc.frm (tc.nonce + 1)).set ta.frm (ta.nonce + 1)) = [tb] := by kernel_rfl
  have a3 : avail (stage 3) (((nx0.set tc.frm (tc.nonce + 1)).set ta.frm (ta.nonce + 1)).set tb.frm (tb.nonce + 1)) = [] := by kernel_rfl
  cases o with
  | nil => rw [show avail (stage 3) nx0 = [] from h] at a0; cases a0
  | cons x o =>
    obtain ⟨h1, h2, h3⟩ := h
    rw [a0] at h1 h2
    have hx : x = tc := by
      simp only [List.mem_cons, List.not_mem_nil, or_false] at h1
      rcases h1 with rfl | rfl
      · exact absurd (show rank tc ta < 0 from by rw [rank_lt]; exact .inl (by show (1 : Nat) < 5; decide)) (h2 tc (.tail _ (.head _)))
      · rfl
    subst hx
    cases o with
    | nil => rw [show avail (stage 3) _ = [] from h3] at a1; cases a1
    | cons x o =>
      obtain ⟨h1, h2, h3⟩ := h3
      rw [a1] at h1
      obtain rfl := List.mem_singleton.1 h1
      cases o with
      | nil => rw [show avail (stage 3) _ = [] from h3] at a2; cases a2
      | cons x o =>
        obtain ⟨h1, h2, h3⟩ := h3
        rw [a2] at h1
        obtain rfl := List.mem_singleton.1 h1
        cases o with
        | nil => rfl
        | cons x o =>
          obtain ⟨h1, _⟩ := h3
          rw [a3] at h1
          cases h1
/-! ### a pool beside a world -/
structure PS (W1 : World) (bp most : Nat) (w : World) (v : Value) (l : List Tx) : Prop where
  below : Below W1.heap.size W1 w
  pool : PoolAt W1.heap.size w bp most v l
  bp : W1.heap.size ≤ bp
theorem PS.later {W1 : World} {bp most : Nat} {w w' : World} {v : Value} {l : List Tx} (h : PS W1 bp most w v l) (hb : Below w.heap.size w w') : PS W1 bp most w' v l := ⟨bt h.below hb, h.pool.later hb, h.bp⟩
/-- What Add leaves beside a world. -/
def AddPS (W1 : World) (bp most : Nat) (w : World) (l : List Tx) (f : Nx) (t : Tx) (e : Ending) (w' : World) : Prop :=
  ∃ (dv vo v' : Value) (O : List Tx), e = .returned (.tuple #[vo, .int .i64 (addF f most l { t with dv := dv }).2.2]) ∧ PS W1 bp most w' v' (addF f most l { t with dv := dv }).1 ∧ w'.ownsRow w.heap.size 32 22 vo O.length (O.flatMap Tx.cs) ∧ (∀ u ∈ O, TxOwn w.heap.size w' u) ∧ O.map Tx.nv = (addF f most l { t with dv := dv }).2.1.map Tx.nv ∧ Fr w w' (fun k => k = bp)
theorem add_ps {W1 w : World} {bp most : Nat} {v wv : Value} {l : List Tx} {f : Nx} {t : Tx} (h : PS W1 bp most w v l) (hf : Nonces W1 wv f) (ht : TxOk w t) (hl : l.length ≤ 1000) : Calls Try.prog 14 #[.pointer (some ⟨bp, 0, none⟩), wv, .agg t.cs.toArray] w fun e w' => AddPS W1 bp most w l f t e w' := by
  refine (add_any h.pool (hf.later h.below) ht hl h.below.size).mono ?_
  rintro e w' ⟨dv, vo, v', O, h1, h2, h3, h4, h5, h6⟩
  exact ⟨dv, vo, v', O, h1, ⟨h.below.trans (h6.below h.below.size (fun k hk => by rw [hk]; exact h.bp)), h2, h.bp⟩, h3, h4, h5, h6⟩
/-- .. by what stands there but for where data lie. -/
theorem add_nv {f : Nx} {most : Nat} {l L : List Tx} {t T : Tx} {dv : Value} (hl : l.map Tx.nv = L) (ht : t.nv = T) {r : List Tx × List Tx × Nat} (hr : addF f most L T = r) : (addF f most l { t with dv := dv }).1.map Tx.nv = r.1 ∧ (addF f most l { t with dv := dv }).2.1.map Tx.nv = r.2.1 ∧ (addF f most l { t with dv := dv }).2.2 = r.2.2 := by
  have h := addF_nv f most l { t with dv := dv }
  rw [show ({ t with dv := dv } : Tx).nv = T from ht, hl, hr] at h
  rw [h]
  exact ⟨rfl, rfl, rfl⟩
end Go.Proofs.Ytkdckcjnjljdmaa.Po
