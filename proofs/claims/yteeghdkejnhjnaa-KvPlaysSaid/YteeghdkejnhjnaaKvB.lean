/- Pairs of a key and a value, shown; slices.SortFunc at such pairs; bytes made of a string. -/
import Derived.Test.YteeghdkejnhjnaaKvG
import Derived.Test.YteeghdkejnhjnaaShSort
import Derived.Lib.ConvBytes
import Derived.Laws.IdiomRangeMap
namespace Go.Proofs.Yteeghdkejnhjnaa.Kv
open Go Go.RowKit Go.Shelf Kt Ad Bo

/-! ### bytes in a block of bytes -/
/-- v's block, if it has one, is of bytes. -/
def Ub (W : World) (v : Value) : Prop := ∀ g, v.ownBlock = some g → ∃ cur fr, W.heap[g]? = some (.cells cur 5 fr)
def By (W : World) (v : Value) (b : Bs) : Prop := Byt W v b ∧ Ub W v
section
variable {W W' : World} {own m : Nat → Prop} {v : Value} {b : Bs}
theorem Bts.by (h : Bts W own v b) : By W v b := by
  refine ⟨h.byt, fun g e => ?_⟩
  rcases h.1.2 with ⟨rfl, _⟩ | ⟨g', cap, cur, rfl, _, hg, _⟩
  · cases e
  · injection e with e
    subst e
    exact ⟨cur, _, hg⟩
theorem Byt.fr (h : Byt W v b) (hf : Fr W W' m) (hm : ∀ g, v.ownBlock = some g → ¬ m g) : Byt W' v b := by
  obtain ⟨s, cap, rfl, h⟩ := h
  refine ⟨s, cap, rfl, fun hne => ?_⟩
  obtain ⟨g, off, rfl, h1, h2⟩ := h hne
  refine ⟨g, off, rfl, Nat.lt_of_lt_of_le h1 hf.size, fun j u hj => ?_⟩
  rw [← h2 j u hj]
  have := hf.block g h1 (hm g rfl)
  simp only [World.cell?, this]
theorem By.fr (h : By W v b) (hf : Fr W W' m) (hm : ∀ g, m g → ∀ cur fr, W.heap[g]? ≠ some (.cells cur 5 fr)) : By W' v b := by
  refine ⟨Byt.fr h.1 hf (fun g e hmg => ?_), fun g e => ?_⟩
  · obtain ⟨cur, fr, hg⟩ := h.2 g e
    exact hm g hmg _ _ hg
  · obtain ⟨cur, fr, hg⟩ := h.2 g e
    exact ⟨cur, fr, (hf.block g (Array.getElem?_eq_some_iff.1 hg).1 (fun hmg => hm g hmg _ _ hg)).trans hg⟩
theorem By.later (h : By W v b) (hb : Below W.heap.size W W') : By W' v b := h.fr (m := fun _ => False) (Fr.of_below hb _) (fun _ h => h.elim)
theorem Byt.rb {s : Option Addr} {n c : Nat} (h : Byt W (.slice s n c) b) : RB W W.heap.size s b := fun hl => by
  obtain ⟨s', cap, e, h⟩ := h
  injection e with e1 e2 e3
  subst e1
  obtain ⟨g, off, rfl, h1, h2⟩ := h (List.length_pos_iff.1 hl)
  exact ⟨_, rfl, h1, fun j x hj => by rw [Addr.add_lit]; exact h2 j x hj⟩
end

/-! ### bytes of a string -/
theorem frz_fr {w : World} {g : Nat} {C : Array Value} (h : Lies w g 5 C) : Fr w (w.freeze ⟨g, C.size, none⟩ 1) (fun k => k = g) ∧ (∀ i, (w.freeze ⟨g, C.size, none⟩ 1).cell? ⟨g, i, none⟩ = C[i]?) := by
  unfold World.freeze
  rw [if_neg (by decide)]
  refine ⟨⟨rfl, rfl, rfl, by simp, fun k _ hk => ?_⟩, fun i => ?_⟩
  · simp only [Array.getElem?_modify]
    rw [if_neg (fun e => hk e.symm)]
  · simp [World.cell?, Array.getElem?_modify, show w.heap[g]? = _ from h]
theorem wp_tobytes {o : Oper} {a : Act} {w : World} {K : Act → World → Prop} {Q : Exit → Act → World → Prop} (b : Bs) (p : Operand) (ho : o.op = .convert 9 25 p) (h0 : a.eval p = .string (bst b))
    (hk : ∀ w' c, Below w.heap.size w w' → By w' (.slice (some ⟨w.heap.size, 0, none⟩) b.length c) b → K (a.put o.dst (.slice (some ⟨w.heap.size, 0, none⟩) b.length c)) w') : Oper.wp Try.prog o a w K Q := by
  have hr := Lib.run_convert_string_bytes (P := Try.prog) w 9 25 5 (bst b) Try.underlying9 Try.underlying25 Try.underlying5
  have hs : (bst b).size = b.length := rfl
  rw [hs] at hr
  have hB : Below w.heap.size w (Lib.bytesWorld w 5 (bst b)) := by
    have h1 : Below w.heap.size w (w.drew.alloc (.cells (Lib.bytesCells w 5 (bst b)) 5)) := ((Below.refl _ _).drew).alloc (Nat.le_refl _) _
    have hl : Lies (w.drew.alloc (.cells (Lib.bytesCells w 5 (bst b)) 5)) w.heap.size 5 (Lib.bytesCells w 5 (bst b)) := Lies.new w.drew _ _
    exact h1.trans ((frz_fr hl).1.below (by simp) (fun k e => Nat.le_of_eq e.symm))
  have hsz := Lib.bytesWorld_size w 5 (bst b)
  unfold Oper.wp execOp
  simp only [ho, h0, hr, Sem.run_bind, Sem.run_pure, Result.andThen_ok]
  refine hk _ _ hB ⟨⟨_, _, rfl, fun _ => ⟨w.heap.size, 0, rfl, by omega, fun j u hj => ?_⟩⟩, fun g e => ?_⟩
  · have hjl := (List.getElem?_eq_some_iff.1 hj).1
    rw [Nat.zero_add, Lib.bytesWorld_cell w 5 (bst b) j hjl]
    simp [bst, List.getD, hj, u8v]
  · injection e with e
    subst e
    exact ⟨_, _, Lib.bytesWorld_at_new w 5 (bst b)⟩
theorem wl_tobytes {ops : Array Oper} {rest : List Oper} {o : Oper} {a : Act} {w : World} {Q : Exit → Act → World → Prop} (b : Bs) (p : Operand) (hgd : o.guard = none) (ho : o.op = .convert 9 25 p) (h0 : a.eval p = .string (bst b))
    (hk : ∀ w' c, Below w.heap.size w w' → By w' (.slice (some ⟨w.heap.size, 0, none⟩) b.length c) b → wpList Try.prog ops Q rest (a.put o.dst (.slice (some ⟨w.heap.size, 0, none⟩) b.length c)) w') : wpList Try.prog ops Q (o :: rest) a w :=
  wpList_plain hgd fun _ hK => wp_tobytes b p ho h0 (fun w' c h1 h2 => hK _ _ (hk w' c h1 h2))

/-! ### pairs -/
structure Pr where
  (kv : Value) (k : Bs) (vv : Value) (v : Bs)
def Pr.cs (x : Pr) : List Value := [x.kv, x.vv]
theorem Pr.len (x : Pr) : x.cs.length = 2 := rfl
def saidP (P : List Pr) : List (Bs × Bs) := P.map fun x => (x.k, x.v)
/-- A slice shows these pairs. -/
structure ShowsP (W : World) (v : Value) (P : List Pr) : Prop where
  row : ∃ s cap, v = .slice s P.length cap ∧ (P ≠ [] → ∃ g off, s = some ⟨g, off, none⟩ ∧ g < W.heap.size ∧ ∀ j u, (P.flatMap Pr.cs)[j]? = some u → W.cell? ⟨g, off + j, none⟩ = some u)
  byt : ∀ x ∈ P, Byt W x.kv x.k ∧ Byt W x.vv x.v
theorem ShowsP.later {W W' : World} {v : Value} {P : List Pr} (h : ShowsP W v P) (hb : Below W.heap.size W W') : ShowsP W' v P := by
  refine ⟨?_, fun x hx => ⟨(h.byt x hx).1.later hb, (h.byt x hx).2.later hb⟩⟩
  obtain ⟨s, cap, rfl, hs⟩ := h.row
  refine ⟨s, cap, rfl, fun hne => ?_⟩
  obtain ⟨g, off, rfl, hg, hc⟩ := hs hne
  exact ⟨g, off, rfl, Nat.lt_of_lt_of_le hg hb.size, fun j u hj => (hb.cell (p := ⟨g, off + j, none⟩) hg).trans (hc j u hj)⟩
theorem ShowsP.nil (W : World) (c : Nat) : ShowsP W (.slice none 0 c) [] := ⟨⟨none, c, rfl, fun h => absurd rfl h⟩, by simp⟩
theorem shows_row {W : World} {base : Nat} {v : Value} {P : List Pr} (h : W.ownsRow base 40 2 v P.length (P.flatMap Pr.cs)) (hb : ∀ x ∈ P, Byt W x.kv x.k ∧ Byt W x.vv x.v) : ShowsP W v P := by
  refine ⟨?_, hb⟩
  have hl := h
  rcases h.2 with ⟨rfl, h0⟩ | ⟨g, cap, cur, rfl, _, hg, rest⟩
  · exact ⟨none, 0, by rw [h0], fun hne => absurd (List.eq_nil_of_length_eq_zero h0) hne⟩
  · refine ⟨_, cap, rfl, fun _ => ⟨g, 0, rfl, (Array.getElem?_eq_some_iff.1 hg).1, fun j u hj => ?_⟩⟩
    have := hl.cells (g := g) rfl _ _ hj
    rwa [Addr.add_lit] at this
theorem row_not_bytes {W : World} {base : Nat} {v : Value} {n : Nat} {xs : List Value} (h : W.ownsRow base 40 2 v n xs) : ∀ g, some g = v.ownBlock → ∀ cur fr, W.heap[g]? ≠ some (.cells cur 5 fr) := by
  intro g e cur fr hg
  rcases h.2 with ⟨rfl, _⟩ | ⟨g', cap, cur', rfl, _, hg', _⟩
  · cases e
  · injection e with e
    subst e
    rw [hg] at hg'
    injection hg' with hg'
    injection hg' with _ h2
    exact absurd h2 (by decide)
theorem saidP_take {A B : List Pr} {i : Nat} {x y : Pr} (hx : A[i]? = some x) (hy : B[i]? = some y) (h : saidP (A.take i) = saidP (B.take i)) : saidP (A.take (i + 1)) = saidP (B.take (i + 1)) ↔ x.k = y.k ∧ x.v = y.v := by
  have e1 : A.take (i + 1) = A.take i ++ [x] := by rw [List.take_add_one, hx]; rfl
  have e2 : B.take (i + 1) = B.take i ++ [y] := by rw [List.take_add_one, hy]; rfl
  rw [e1, e2]
  unfold saidP at *
  rw [List.map_append, List.map_append, h]
  simp
theorem saidP_len (P : List Pr) : (saidP P).length = P.length := List.length_map ..

/-! ### the sort -/
theorem flat_gen {α : Type} [Inhabited α] (enc : α → List Value) (k : Nat) (hk0 : 0 < k) (hk : ∀ x, (enc x).length = k) (ts : List α) : Sort.flatK enc k ts.toArray = (ts.flatMap enc).toArray := by
  apply Array.ext_getElem?
  intro t
  by_cases ht : t < ts.length * k
  · have hq : t / k < ts.length := (Nat.div_lt_iff_lt_mul hk0).2 ht
    have hm : t % k < k := Nat.mod_lt _ hk0
    have h1 := getElem?_flat hk (List.getElem?_eq_getElem hq) hm
    rw [show t / k * k + t % k = t by rw [Nat.mul_comm]; exact Nat.div_add_mod t k] at h1
    have h2 : (ts.flatMap enc).toArray[t]? = (ts.flatMap enc)[t]? := List.getElem?_toArray
    rw [h2, h1, Array.getElem?_eq_getElem (by simpa using ht)]
    have := Sort.get_flatK enc k ts.toArray t (by simpa using ht)
    rw [getElem!_pos _ _ (by simpa using ht)] at this
    rw [this, List.getElem?_eq_getElem (by rw [hk]; exact hm)]
    have e1 : ts.toArray[t / k]! = ts[t / k] := by
      rw [getElem!_pos _ _ (by simpa using hq)]
      simp
    rw [e1, getElem!_pos _ _ (by rw [hk]; exact hm)]
  · have h2 : (ts.flatMap enc).toArray[t]? = (ts.flatMap enc)[t]? := List.getElem?_toArray
    rw [h2, Array.getElem?_eq_none (by simp; omega), List.getElem?_eq_none (by rw [length_flat hk]; omega)]
theorem holdsK_gen {α : Type} [Inhabited α] {enc : α → List Value} {k : Nat} (hk0 : 0 < k) (hk : ∀ x, (enc x).length = k) {w : World} {g : Nat} {cur : Array Value} {e : TypeId} {ss : List α} (hb : w.heap[g]? = some (.cells cur e (0, 0))) (ht : cur.toList.take (ss.length * k) = ss.flatMap enc) : Sort.HoldsK enc k w g 0 ss.toArray := by
  unfold Sort.HoldsK
  rw [flat_gen enc k hk0 hk]
  intro j hj
  have hl := length_flat hk ss
  have hj' : j < ss.length * k := by simpa [hl] using hj
  refine ⟨?_, by simp [World.frozen?, hb]⟩
  have h1 : (cur.toList.take (ss.length * k))[j]? = (ss.flatMap enc)[j]? := by rw [ht]
  rw [List.getElem?_take_of_lt hj'] at h1
  simp only [World.cell?, hb, Nat.zero_add]
  simp only [Option.isSome_none, Bool.false_eq_true, if_false]
  rw [← Array.getElem?_toList, h1, List.getElem?_eq_getElem (by rw [hl]; omega)]
  rw [getElem!_pos _ _ (by simpa using hj)]
  simp
set_option maxRecDepth 100000 in
set_option maxHeartbeats 1000000 in
theorem cmp_pair (x y : Pr) (W : World) (hx : Byt W x.kv x.k) (hy : Byt W y.kv y.k) : Calls Try.prog 67 #[.agg x.cs.toArray, .agg y.cs.toArray] W fun e w' => e = .returned (.int .i64 (Lib.compareBytes x.k y.k)) ∧ ∃ q os, w' = Sort.grow (W.drewN q) os := by
  obtain ⟨kv, k, vv, v⟩ := x
  obtain ⟨kv', k', vv', v'⟩ := y
  obtain ⟨s, c, rfl, _⟩ : ∃ s c, kv = .slice s k.length c ∧ True := by obtain ⟨s, c, e, _⟩ := hx; exact ⟨s, c, e, trivial⟩
  obtain ⟨s', c', rfl, _⟩ : ∃ s c, kv' = .slice s k'.length c ∧ True := by obtain ⟨s, c, e, _⟩ := hy; exact ⟨s, c, e, trivial⟩
  have hB : Below W.heap.size W ((W.alloc (.cells #[.slice s k.length c, vv] 40)).alloc (.cells #[.slice s' k'.length c', vv'] 40)) := ((Below.refl _ _).alloc (Nat.le_refl _) _).alloc (by simp) _
  have hc := bytes_compare (Byt.rb (hx.later hB)) (Byt.rb (hy.later hB)) c c'
  simp only [Pr.cs]
  generalize Lib.compareBytes k k' = r at hc ⊢
  replace hc := Lib.hid hc
  clear hx hy hB
  go_enter Try.func67, Try.ntmps67
  go_wp2_with fail
  refine hc.out.mono ?_
  rintro e w' ⟨rfl, rfl⟩
  go_wp2_with fail
  go_ret
  exact ⟨rfl, 0, _, by rw [Sort.alloc_eq_grow, Sort.alloc_eq_grow, Sort.grow_grow]; rfl⟩
theorem isAggP : ∀ w, (isAgg 40).run Try.prog w = .ok true w := fun _ => by kernel_rfl
theorem sizeOfP : ∀ w, (Go.sizeOf 40).run Try.prog w = .ok 2 w := fun _ => by kernel_rfl
theorem eList1 : ∀ args w, (callFunc 67 args).run Try.prog w = .ok (.enter 67 args) w := enters_of Try.func67 (by kernel_rfl) rfl
theorem swoB {α : Type} (f : α → Bs) : Sort.SWO (ltOf fun x y => Lib.compareBytes (f x) (f y)) :=
  ⟨fun x => by simp [ltOf, cmp_self], fun x y z h1 h2 => by
    simp only [ltOf, decide_eq_true_eq] at *
    exact lt_trans h1 h2, fun x y z h1 h2 => by
    simp only [ltOf, decide_eq_false_iff_not] at *
    intro h3
    rcases lt_or (f x) (f y) with h | h | h
    · exact h1 h
    · exact h2 (by rw [← h]; exact h3)
    · exact h2 (lt_trans h h3)⟩

set_option maxHeartbeats 2000000 in
/-- slices.SortFunc AT PAIRS OF DIFFERENT KEYS IN A ROW THAT THE CALL OWNS. -/
theorem sort_pair {w : World} {base : Nat} {v : Value} {P : List Pr} (hr : w.ownsRow base 40 2 v P.length (P.flatMap Pr.cs)) (h1 : ∀ u ∈ P.flatMap Pr.cs, u.oneCell' = true) (hb : ∀ x ∈ P, By w x.kv x.k) (hnd : (P.map (·.k)).Nodup) (hN : P.length ≤ 1000000000) :
    Calls Try.prog 66 #[v, .func (.func 67) #[] #[]] w fun e w' => e = .returned (.tuple #[]) ∧ ∃ T : List Pr, T.Perm P ∧ Rise (saidP T) ∧ w'.ownsRow base 40 2 v T.length (T.flatMap Pr.cs) ∧ w.grownBy w' v.ownBlock := by
  by_cases h0 : P = []
  · subst h0
    obtain ⟨s, cap, rfl⟩ : ∃ s cap, v = .slice s 0 cap := by
      rcases hr.2 with ⟨rfl, _⟩ | ⟨g, cap, cur, rfl, _⟩
      · exact ⟨none, 0, rfl⟩
      · exact ⟨_, cap, rfl⟩
    refine (AnyF.slices_SortFunc_none Try.sortPair s cap _ w).mono ?_
    rintro e w' ⟨rfl, rfl⟩
    exact ⟨rfl, [], List.Perm.nil, List.Pairwise.nil, hr, World.grownBy.refl _ _⟩
  obtain ⟨x0, hx0⟩ := List.exists_mem_of_ne_nil _ h0
  letI : Inhabited {x : Pr // x ∈ P} := ⟨⟨x0, hx0⟩⟩
  have hpos : 0 < P.length := List.length_pos_iff.2 h0
  rcases hr.2 with ⟨_, hz⟩ | ⟨g0, cap, cur, rfl, hbase, hg, h2, h3, h4, h5⟩
  · omega
  have hfl : ∀ ts : List {x : Pr // x ∈ P}, (ts.flatMap fun x => x.1.cs) = (ts.map (·.1)).flatMap Pr.cs := fun ts => by rw [List.flatMap_map]
  have hat : P.attach.map (·.1) = P := List.attach_map_subtype_val P
  have hlen : P.attach.length = P.length := List.length_attach
  have hH := holdsK_gen (enc := fun x : {x : Pr // x ∈ P} => x.1.cs) (k := 2) (by decide) (fun _ => rfl) (ss := P.attach) hg (by rw [hfl, hat, hlen]; exact h5)
  have hsz : P.attach.toArray.size = P.length := by simp
  have hub := row_not_bytes hr
  have hT : ∀ x y : {x : Pr // x ∈ P}, (ltOf fun x y : {x : Pr // x ∈ P} => Lib.compareBytes x.1.k y.1.k) x y = false → (ltOf fun x y : {x : Pr // x ∈ P} => Lib.compareBytes x.1.k y.1.k) y x = false → x = y := fun x y hx hy => by
    simp only [ltOf, decide_eq_false_iff_not] at hx hy
    have hk : x.1.k = y.1.k := by
      rcases lt_or x.1.k y.1.k with h | h | h
      · exact absurd h hx
      · exact h
      · exact absurd h hy
    obtain ⟨i, hi, ei⟩ := List.getElem_of_mem x.2
    obtain ⟨j, hj, ej⟩ := List.getElem_of_mem y.2
    have : i = j := by
      have hi' : i < (P.map (·.k)).length := by simpa using hi
      have hj' : j < (P.map (·.k)).length := by simpa using hj
      refine (List.getElem_inj (h₀ := hi') (h₁ := hj') hnd).1 ?_
      simp [ei, ej, hk]
    subst this
    exact Subtype.ext (ei.symm.trans ej)
  have hcall := AnyQ.slices_SortFunc_total Try.sortPair 2 isAggP sizeOfP (fun x : {x : Pr // x ∈ P} => x.1.cs) (fun _ => rfl) (fun x u hu => h1 u (List.mem_flatMap.2 ⟨x.1, x.2, hu⟩)) (fun x y => Lib.compareBytes x.1.k y.1.k) (swoB _) 67 #[] g0 0 cap P.attach.toArray w eList1 (fun m os dk _ x y => by
    have hgr : w.grownBy (sortWorldK (fun x : {x : Pr // x ∈ P} => x.1.cs) 2 w g0 0 m dk os) (some g0) := by
      unfold sortWorldK Sort.putRowK
      exact grownBy_putRow _
    have hf : Fr w (sortWorldK (fun x : {x : Pr // x ∈ P} => x.1.cs) 2 w g0 0 m dk os) (fun i => i = g0) := (Fr.of_grown hgr).mono (fun i _ e => by injection e)
    exact cmp_pair x.1 y.1 _ ((hb x.1 x.2).fr hf (fun g e => e ▸ hub g0 rfl)).1 ((hb y.1 y.2).fr hf (fun g e => e ▸ hub g0 rfl)).1) hH (Array.getElem?_eq_some_iff.1 hg).1 (by rw [hsz]; omega) hT
  rw [hsz] at hcall
  refine hcall.mono ?_
  rintro e w' ⟨rfl, n, os, rfl⟩
  have hp : (P.attach.mergeSort fun x y => !(ltOf fun x y : {x : Pr // x ∈ P} => Lib.compareBytes x.1.k y.1.k) y x).Perm P.attach := List.mergeSort_perm _ _
  have hs := List.pairwise_mergeSort (le := fun x y => !(ltOf fun x y : {x : Pr // x ∈ P} => Lib.compareBytes x.1.k y.1.k) y x) (fun a b c h1 h2 => by
    simp only [ltOf, Bool.not_eq_eq_eq_not, Bool.not_true, decide_eq_false_iff_not] at *
    exact (swoB (fun x : {x : Pr // x ∈ P} => x.1.k)).3 c b a (by simpa [ltOf] using h2) (by simpa [ltOf] using h1) |> (by simpa [ltOf] using ·)) (fun a b => by
    simp only [ltOf, Bool.or_eq_true, Bool.not_eq_eq_eq_not, Bool.not_true, decide_eq_false_iff_not]
    rcases lt_or a.1.k b.1.k with h | h | h
    · exact Or.inl (lt_asymm h)
    · exact Or.inl (by rw [h]; exact lt_irr _)
    · exact Or.inr (lt_asymm h)) P.attach
  simp only at hs ⊢
  generalize (P.attach.mergeSort fun x y => !(ltOf fun x y : {x : Pr // x ∈ P} => Lib.compareBytes x.1.k y.1.k) y x) = ts at *
  have hpm : (ts.map (·.1)).Perm P := by have := hp.map (·.1); rwa [hat] at this
  have hl : ts.length = P.length := by have := hp.length_eq; omega
  have hlm : (ts.map (·.1)).length = P.length := by rw [List.length_map, hl]
  refine ⟨trivial, ts.map (·.1), hpm, ?_, ?_, ?_⟩
  · have hn' : ((ts.map (·.1)).map (·.k)).Nodup := (hpm.map _).nodup_iff.2 hnd
    unfold Rise saidP
    rw [List.map_map]
    rw [List.map_map] at hn'
    refine List.pairwise_map.2 ((List.Pairwise.and hs (List.pairwise_map.1 hn')).imp (fun {a b} h => ?_))
    have h1 := h.1
    simp only [ltOf, Bool.not_eq_eq_eq_not, Bool.not_true, decide_eq_false_iff_not] at h1
    rcases lt_or a.1.k b.1.k with h3 | h3 | h3
    · exact h3
    · exact absurd h3 h.2
    · exact absurd h3 h1
  · unfold sortWorldK Sort.putRowK
    rw [flat_gen _ 2 (by decide) (fun _ => rfl), hfl, hlm]
    have hfll := length_flat Pr.len (ts.map (·.1))
    rw [hlm] at hfll
    have hcl : P.length * 2 ≤ cur.size := by rw [h4]; exact Nat.mul_le_mul_right _ h2
    refine ⟨hfll, .inr ⟨g0, cap, _, rfl, hbase, heap_putRow _ hg, h2, h3, by simp [Sort.putCells, h4], ?_⟩⟩
    have := take_putCells_id cur ((ts.map (·.1)).flatMap Pr.cs) (by rw [hfll]; exact hcl)
    rw [hfll] at this
    exact this
  · unfold sortWorldK Sort.putRowK
    exact grownBy_putRow _
end Go.Proofs.Yteeghdkejnhjnaa.Kv

/- The walk of a store's List. -/
namespace Go.Proofs.Yteeghdkejnhjnaa.Kv
open Go Go.RowKit Go.Shelf Kt Ad Bo

theorem infoPr : (Try.prog.info? 40).map (fun i => (i.zero, i.size, i.bytes)) = some (some (.agg #[.slice none 0 0, .slice none 0 0]), 2, 48) := by kernel_rfl
theorem run_append_pr {w : World} {base : Nat} {v : Value} {n : Nat} {xs : List Value} (h : w.ownsRow base 40 2 v n xs) (hbase : base ≤ w.heap.size) (hn : n ≤ 1000000) (d : Nat) (x : Pr) (h1 : ∀ u ∈ x.cs, u.oneCell' = true) (hd : ∀ j u, x.cs[j]? = some u → w.cell? ((⟨d, 0, none⟩ : Addr).add j) = some u) (ty : TypeId) :
    ∃ v' w', (Builtin.append_ #[37, 37] ty #[v, .slice (some ⟨d, 0, none⟩) 1 1]).run Try.prog w = .ok v' w' ∧ w'.ownsRow base 40 2 v' (n + 1) (xs ++ x.cs) ∧ w.grownBy w' v.ownBlock := by
  obtain ⟨i0, hi, hz0, hz1, hz2⟩ := info_parts infoPr
  obtain ⟨v', w', hrun, r1, r2, _⟩ := run_append_own (P := Try.prog) w base 37 ty 40 i0 _ 2 48 Try.underlying37 hi hz0 hz1 hz2 rfl (by decide) v n xs h ⟨d, 0, none⟩ 1 1 x.cs rfl hd h1 (by unfold maxLen; omega) (by omega) hbase
  exact ⟨v', w', hrun, r1, r2⟩
theorem wl_append_pr {ops : Array Oper} {rest : List Oper} {o : Oper} {a : Act} {w : World} {Q : Exit → Act → World → Prop} {base : Nat} {v : Value} {n : Nat} {xs : List Value} (h : w.ownsRow base 40 2 v n xs) (hbase : base ≤ w.heap.size) (hn : n ≤ 1000000) (d : Nat) (x : Pr) (h1 : ∀ u ∈ x.cs, u.oneCell' = true) (hd : ∀ j u, x.cs[j]? = some u → w.cell? ((⟨d, 0, none⟩ : Addr).add j) = some u) (p q : Operand) (hgd : o.guard = none)
    (ho : o.op = .call { callee := .builtin .append, args := #[p, q], argTypes := #[37, 37] }) (hp : a.eval p = v) (hq : a.eval q = .slice (some ⟨d, 0, none⟩) 1 1)
    (hK : ∀ v' w', w'.ownsRow base 40 2 v' (n + 1) (xs ++ x.cs) → w.grownBy w' v.ownBlock → wpList Try.prog ops Q rest (a.put o.dst v') w') : wpList Try.prog ops Q (o :: rest) a w := by
  refine wpList_plain hgd fun _ hK' => ?_
  obtain ⟨v', w', hrun, r1, r2⟩ := run_append_pr h hbase hn d x h1 hd o.type
  unfold Oper.wp
  simp [execOp, ho, resolve, invoke, builtin, hp, hq, hrun, Result.andThen]
  exact hK' _ _ (hK v' w' r1 r2)
theorem ones_pr (s s' : Option Addr) (n n' c c' : Nat) (b b' : Bs) : ∀ u ∈ (⟨.slice s n c, b, .slice s' n' c', b'⟩ : Pr).cs, u.oneCell' = true := by
  intro u hu
  simp only [Pr.cs, List.mem_cons, List.not_mem_nil, or_false] at hu
  rcases hu with rfl | rfl <;> rfl
theorem wp_range {α : Type} {ek : α → Value} {b : Nat} {L : List (α × Value)} {P : Program} {k t e : TypeId} {w : World} {o : Oper} {a : Act} {K : Act → World → Prop} {Q : Exit → Act → World → Prop}
    (ht : P.underlying t = some (.map k e)) (h : IsMap ek w b L) (m : Operand) (hop : o.op = Op.range t m) (hm : a.eval m = .map (some b))
    (hK : ∀ w', Ranging ek w' b w.heap.size L L → w.grownBy w' none → w'.heap.size = w.heap.size + 1 → K (a.put o.dst (.pointer (some ⟨w.heap.size, 0, none⟩))) w') : Oper.wp P o a w K Q := by
  obtain ⟨hrun, r1⟩ := h.range (P := P) ht
  unfold Oper.wp
  simp only [execOp, hop, hm, hrun, Sem.run_bind, Result.andThen]
  exact hK _ r1 (World.grownBy_alloc w _ none) (by simp)
/-- What an address has is no more than there is. -/
theorem Bd.lenK {n : Nat} {O : Os} (hb : Bd n (look O)) {a : A8} {m : Nat} {K : Vs} (e : get O a = some (m, K)) (h1 : One K) : K.length ≤ n := by
  obtain ⟨D, h2, h3⟩ := hb
  have := nodup_le (l := K.map fun c => (a, c.1)) (m := D) (by
    rw [show (K.map fun c => (a, c.1)) = (K.map (·.1)).map (fun k => (a, k)) by rw [List.map_map]; rfl]
    exact List.pairwise_map.2 (h1.imp fun hne e => hne (by injection e))) (fun x hx => by
    obtain ⟨c, hc, rfl⟩ := List.mem_map.1 hx
    exact (h3 a c.1 c.2.2 (by unfold look; rw [e, Option.bind_some, h1.get hc]; rfl)).1)
  rw [List.length_map] at this
  omega
theorem own_form2 {w : World} {base sz n : Nat} {t : TypeId} {v : Value} {xs : List Value} (h : w.ownsRow base t sz v n xs) : ∃ (s : Option Addr) (cap : Nat), v = .slice s n cap := by
  rcases h.2 with ⟨rfl, h0⟩ | ⟨g, cap, cur, rfl, _⟩
  · exact ⟨none, 0, by rw [h0]⟩
  · exact ⟨_, cap, rfl⟩
theorem iter_ne_row {W : World} {base : Nat} {v : Value} {n : Nat} {e : TypeId} {sz : Nat} {xs : List Value} {r : Nat} (h : W.ownsRow base e sz v n xs) (hr : ∀ cur t fr, W.heap[r]? ≠ some (.cells cur t fr)) : v.ownBlock ≠ some r := fun e => by
  rcases h.2 with ⟨rfl, _⟩ | ⟨g', cap, cur', rfl, _, hg', _⟩
  · cases e
  · injection e with e
    subst e
    exact hr _ _ _ hg'

set_option maxRecDepth 100000 in
set_option maxHeartbeats 4000000 in
theorem kvlist_none {W : World} {own : Nat → Prop} {bl bo : Nat} {O : Os} (h : Kv W own bl bo O) (a : A8) (e0 : get O a = none) :
    Calls Try.prog 16 #[.pointer (some ⟨bl, 0, none⟩), a.v] W fun e w' => e = .returned (.slice none 0 0) ∧ Below W.heap.size W w' := by
  have hlt := h.cell.lt
  have hc := h.cell.cell 0
  simp only [List.getElem?_toArray, List.getElem?_cons_zero] at hc
  have HMO := Lib.hid (show mapOf O a = .map none from by unfold mapOf; rw [e0])
  have H := Lib.hid h
  clear e0 h
  simp only [A8.v]
  go_enter Try.func16, Try.ntmps16
  go_wp2_with fail
  obtain ⟨W1, hW1⟩ : ∃ W1, W1 = W.alloc (.cells a.cs.toArray 24) := ⟨_, rfl⟩
  have hA1 : Lies W1 W.heap.size 24 a.cs.toArray := hW1 ▸ Lies.new W _ _
  have hB1 : Below W.heap.size W W1 := hW1 ▸ (Below.refl _ _).alloc (Nat.le_refl _) _
  have hK1 := Lib.hid (H.out.later hB1)
  rw [show W.alloc (.cells #[.int .u8 a.x0.toNat, .int .u8 a.x1.toNat, .int .u8 a.x2.toNat, .int .u8 a.x3.toNat, .int .u8 a.x4.toNat, .int .u8 a.x5.toNat, .int .u8 a.x6.toNat, .int .u8 a.x7.toNat] 24) = W1 from hW1.symm]
  clear hW1
  refine RP.region (RP.take 0 (RP.take 1 (RP.take 2 (RP.take 3 (RP.take 4 (RP.take 5 (RP.run 6 RP.done))))))) (fun w' => Lies w' bl 105 #[.map (some bo)] ∧ Kt.IsMap A8.v w' bo (O.map okv) ∧ Lies w' W.heap.size 24 a.cs.toArray) (by as_aux_lemma => kernel_rfl) (by as_aux_lemma => kernel_rfl) (fun _ _ d _ _ h => by cases d <;> exact h) ⟨hK1.out.cell.drew, hK1.out.map.drew, hA1.drew⟩ (fun hS => ?_)
  have HB := Lib.hid hB1.drew
  generalize W1.drew = V at hS HB ⊢
  clear hA1 hK1 hB1 hc
  repeat (first | (refine RP.t_take (v := ?_) rfl rfl (fun w' hw' => ?_) ?_; rotate_left; (focus ((obtain ⟨hLf, hMf, hAf⟩ := hw'; obtain ⟨a0, a1, a2, a3, a4, a5, a6, a7⟩ := lies_addr hAf; have hc := hLf.cell 0; simp only [List.getElem?_toArray, List.getElem?_cons_zero] at hc; have hlA := look_okv hMf a; rw [HMO.out] at hlA; simp only [A8.v] at hlA); go_simp; (try go_bits); (try (with_reducible rfl)))); (try simp only [Act.put, List.setIfInBounds_toArray, List.set_cons_zero, List.set_cons_succ])) | (refine RP.t_skip rfl rfl ?_; (try simp only [Act.put, List.setIfInBounds_toArray, List.set_cons_zero, List.set_cons_succ])))
  have hrn := fun w => run_range_nilMap (P := Try.prog) w 106 _ _ Try.underlying106
  refine RP.t_run rfl (fun KK hKK => ?_)
  go_simp
  refine hKK.out _ _ ⟨hS.1.alloc _, hS.2.1.alloc _, hS.2.2.alloc _⟩ ?_
  clear hKK KK hrn
  (try simp only [Act.put, List.setIfInBounds_toArray, List.set_cons_zero, List.set_cons_succ])
  refine RP.t_done ?_
  have hnx := fun ty => run_next_nilMap (P := Try.prog) V ty 0 0 #[]
  have HB2 := Lib.hid (HB.out.alloc HB.out.size (.mapIter none 0 #[] 0))
  clear hS HMO H HB
  go_wp2_with fail
  go_loopw [5] (fun out wr => out = .slice none 0 0 ∧ wr = V.alloc (.mapIter none 0 #[] 0)) (fun _ _ => 0)
  case atStart => exact ⟨rfl, rfl⟩
  case round =>
  obtain ⟨rfl, rfl⟩ := hrel
  go_wp2_with (go_at_call 66; refine (AnyF.slices_SortFunc_none Try.sortPair none 0 _ _).mono ?_; rintro ex w2 ⟨rfl, rfl⟩)
  go_ret
  exact ⟨rfl, HB2.out⟩

set_option maxRecDepth 100000 in
set_option maxHeartbeats 8000000 in
theorem kvlist_some {W : World} {own : Nat → Prop} {bl bo : Nat} {O : Os} (h : Kv W own bl bo O) (a : A8) {n : Nat} (hBd : Bd n (look O)) (hn : n ≤ 100000) {m : Nat} {K : Vs} (e0 : get O a = some (m, K)) :
    Calls Try.prog 16 #[.pointer (some ⟨bl, 0, none⟩), a.v] W fun e w' => ∃ v' T, e = .returned v' ∧ ShowsP w' v' T ∧ Tells (look O) a (saidP T) ∧ Below W.heap.size W w' := by
  have hlt := h.cell.lt
  have hc := h.cell.cell 0
  simp only [List.getElem?_toArray, List.getElem?_cons_zero] at hc
  have HMO := Lib.hid (show mapOf O a = .map (some m) from by unfold mapOf; rw [e0])
  have hK1 := h.ones (get_mem e0)
  have hlK := hBd.lenK e0 hK1
  have hlk : ∀ k, look O a k = (get K k).map (·.2) := fun k => by unfold look; rw [e0]; rfl
  have hvl : ∀ c ∈ K, c.2.2.length ≤ 1024 := fun c hc => by
    obtain ⟨D, _, h3⟩ := hBd
    exact (h3 a c.1 c.2.2 (by rw [hlk, hK1.get hc]; rfl)).2.2
  obtain ⟨L, hL, hm⟩ := h.vals _ (get_mem e0)
  have hin : ∀ p ∈ L, ∃ c ∈ K, c.1 = p.1.1 ∧ c.2.1 = p.2 := fun p hp => by
    have : vp p ∈ K.map ikv := by rw [hL]; exact List.mem_map.2 ⟨p, hp, rfl⟩
    obtain ⟨c, hc, e⟩ := List.mem_map.1 this
    unfold ikv vp at e
    injection e with e1 e2
    exact ⟨c, hc, e1, e2⟩
  have hkeys : (L.map fun p => p.1.1) = K.map (·.1) := by
    have := congrArg (List.map (·.1)) hL
    rw [List.map_map, List.map_map] at this
    exact this.symm
  have hbK := h.bts _ (get_mem e0)
  have hmlt : m < W.heap.size := hm.lt
  have HIN := Lib.hid hin
  have HKEYS := Lib.hid hkeys
  have HBK := Lib.hid hbK
  have HVL := Lib.hid hvl
  have HLK := Lib.hid hlk
  have HK1 := Lib.hid hK1
  have HM := Lib.hid hm
  have H := Lib.hid h
  have hlL : L.length = K.length := by have := congrArg List.length hkeys; simpa using this
  have HLL := Lib.hid hlL
  clear e0 h hin hkeys hbK hvl hlk hK1 hm hL hBd hlL
  simp only [A8.v]
  go_enter Try.func16, Try.ntmps16
  go_wp2_with fail
  obtain ⟨W1, hW1⟩ : ∃ W1, W1 = W.alloc (.cells a.cs.toArray 24) := ⟨_, rfl⟩
  have hA1 : Lies W1 W.heap.size 24 a.cs.toArray := hW1 ▸ Lies.new W _ _
  have hB1 : Below W.heap.size W W1 := hW1 ▸ (Below.refl _ _).alloc (Nat.le_refl _) _
  have hK1 := Lib.hid (H.out.later hB1)
  rw [show W.alloc (.cells #[.int .u8 a.x0.toNat, .int .u8 a.x1.toNat, .int .u8 a.x2.toNat, .int .u8 a.x3.toNat, .int .u8 a.x4.toNat, .int .u8 a.x5.toNat, .int .u8 a.x6.toNat, .int .u8 a.x7.toNat] 24) = W1 from hW1.symm]
  clear hW1
  have HM1 := Lib.hid (HM.out.of_block (hB1.block _ HM.out.lt))
  refine RP.region (RP.take 0 (RP.take 1 (RP.take 2 (RP.take 3 (RP.take 4 (RP.take 5 (RP.run 6 RP.done))))))) (fun w' => Lies w' bl 105 #[.map (some bo)] ∧ Kt.IsMap A8.v w' bo (O.map okv) ∧ Lies w' W.heap.size 24 a.cs.toArray) (by as_aux_lemma => kernel_rfl) (by as_aux_lemma => kernel_rfl) (fun _ _ d _ _ h => by cases d <;> exact h) ⟨hK1.out.cell.drew, hK1.out.map.drew, hA1.drew⟩ (fun hS => ?_)
  have HB := Lib.hid hB1.drew
  have HM2 := Lib.hid HM1.out.drew
  generalize W1.drew = V at hS HB HM2 ⊢
  clear hA1 hK1 hB1 hc HM1
  repeat (first | (refine RP.t_take (v := ?_) rfl rfl (fun w' hw' => ?_) ?_; rotate_left; (focus ((obtain ⟨hLf, hMf, hAf⟩ := hw'; obtain ⟨a0, a1, a2, a3, a4, a5, a6, a7⟩ := lies_addr hAf; have hc := hLf.cell 0; simp only [List.getElem?_toArray, List.getElem?_cons_zero] at hc; have hlA := look_okv hMf a; rw [HMO.out] at hlA; simp only [A8.v] at hlA); go_simp; (try go_bits); (try (with_reducible rfl)))); (try simp only [Act.put, List.setIfInBounds_toArray, List.set_cons_zero, List.set_cons_succ])) | (refine RP.t_skip rfl rfl ?_; (try simp only [Act.put, List.setIfInBounds_toArray, List.set_cons_zero, List.set_cons_succ])))
  refine t_run1 rfl rfl (fun KK hKK => ?_)
  refine wp_range Try.underlying106 HM2.out _ rfl rfl ?_
  intro V1 hrg hg1 hs1
  have hb1 : Below V.heap.size V V1 := ⟨hg1.os, hg1.tape, hg1.output, hg1.size, fun k hk => hg1.block k hk (by simp)⟩
  refine hKK.out _ _ ⟨hS.1.below hb1 hS.1.lt, hS.2.1.of_block (hb1.block _ hS.2.1.lt), hS.2.2.below hb1 hS.2.2.lt⟩ ?_
  clear hKK KK
  (try simp only [Act.put, List.setIfInBounds_toArray, List.set_cons_zero, List.set_cons_succ])
  refine RP.t_done ?_
  have HRG := Lib.hid hrg
  have HB1 := Lib.hid (HB.out.trans (hb1.mono HB.out.size))
  have hrW : W.heap.size ≤ V.heap.size := HB.out.size
  generalize V.heap.size = r at HRG hrW ⊢
  clear hS HMO HB HM2 hrg hg1 hs1 hb1
  go_wp2_with fail
  go_loopw [5] (fun out wr => ∃ (left : List (Kb × Value)) (Q : List Pr), Ranging sk wr m r L left ∧ wr.ownsRow W.heap.size 40 2 out Q.length (Q.flatMap Pr.cs) ∧ (∀ x ∈ Q, By wr x.kv x.k ∧ By wr x.vv x.v ∧ (get K x.k).map (·.2) = some x.v) ∧ (Q.map (·.k) ++ left.map fun p => p.1.1).Perm (K.map (·.1)) ∧ Below W.heap.size W wr)
    (fun _ wr => wr.rangeLeft m r)
  case atStart => exact ⟨L, [], HRG.out, World.ownsRow_nil _ _ _ _, by simp, by rw [← HKEYS.out]; exact List.Perm.refl _, HB1.out⟩
  case round =>
    clear HRG HB1
    obtain ⟨left, Q, hrg, hrow, hQ, hperm, hB⟩ := hrel
    have hlQ : Q.length + left.length = K.length := by have := hperm.length_eq; simpa using this
    obtain ⟨so, co, rfl⟩ := own_form2 hrow
    have HRG := Lib.hid hrg
    have HROW := Lib.hid hrow
    have HQ := Lib.hid hQ
    have HP := Lib.hid hperm
    have HB := Lib.hid hB
    clear hrow hQ hperm hB
    go_wp2_with (refine wpl_next hrg _ rfl rfl rfl ?_ ?_)
    · intro hd
      clear hrg
      subst hd
      have HP2 := Lib.hid (show (Q.map (·.k)).Perm (K.map (·.1)) from by have := HP.out; simpa using this)
      go_wp2_with fail
      have hnd : (Q.map (·.k)).Nodup := HP2.out.nodup_iff.2 HK1.out
      have hc := sort_pair HROW.out (fun u hu => by
        obtain ⟨x, hx, hu⟩ := List.mem_flatMap.1 hu
        obtain ⟨⟨⟨s1, c1, e1, _⟩, _⟩, ⟨⟨s2, c2, e2, _⟩, _⟩, _⟩ := HQ.out x hx
        simp only [Pr.cs, List.mem_cons, List.not_mem_nil, or_false] at hu
        rcases hu with rfl | rfl
        · rw [e1]; rfl
        · rw [e2]; rfl) (fun x hx => (HQ.out x hx).1) hnd (by have : Q.length + 0 = K.length := hlQ; omega)
      replace hc := Lib.hid hc
      refine hc.out.mono ?_
      rintro ex w6 ⟨rfl, T, hT, hrise, hrow6, hg6⟩
      have hf6 := Fr.of_grown hg6
      have hby : ∀ x ∈ T, By w6 x.kv x.k ∧ By w6 x.vv x.v := fun x hx => by
        have := HQ.out x (hT.mem_iff.1 hx)
        have hnb := row_not_bytes HROW.out
        exact ⟨this.1.fr hf6 hnb, this.2.1.fr hf6 hnb⟩
      have hsz : T.length = Q.length := hT.length_eq
      have HS6 := Lib.hid (shows_row hrow6 (fun x hx => ⟨(hby x hx).1.1, (hby x hx).2.1⟩))
      have HB6 := Lib.hid (HB.out.grown hg6 HB.out.size (fun k hk => (HROW.out.lt k hk).1))
      have HT6 := Lib.hid (show Tells (look O) a (saidP T) from ⟨hrise, fun k v => by
        rw [HLK.out]
        constructor
        · intro hm
          obtain ⟨x, hx, e⟩ := List.mem_map.1 hm
          injection e with e1 e2
          subst e1 e2
          exact (HQ.out x (hT.mem_iff.1 hx)).2.2
        · intro hk
          cases hgk : get K k with
          | none => rw [hgk] at hk; cases hk
          | some u =>
            have hkm : k ∈ Q.map (·.k) := HP2.out.mem_iff.2 (List.mem_map.2 ⟨_, get_mem hgk, rfl⟩)
            obtain ⟨x, hx, rfl⟩ := List.mem_map.1 hkm
            have := (HQ.out x hx).2.2
            rw [hk] at this
            injection this with this
            exact List.mem_map.2 ⟨x, hT.mem_iff.2 hx, by rw [this]⟩⟩)
      clear hc hT hrise hrow6 hg6 hf6 hby hsz hnd
      go_wp2_with fail
      go_ret
      exact ⟨_, T, rfl, HS6.out, HT6.out, HB6.out⟩
    · intro x hxl v left' w2 hp hrg2 hg2 hs2 hen
      obtain ⟨c, hcK, hc1, hc2⟩ := HIN.out ((⟨x, hxl⟩ : Kb), v) (HRG.out.sub _ (hp.mem_iff.2 List.mem_cons_self))
      obtain ⟨ck, cv, cb⟩ := c
      simp only at hc1 hc2
      subst hc1 hc2
      have hb0 := HBK.out _ hcK
      obtain ⟨sv0, cv0, hcv⟩ := hb0.form
      simp only at hcv
      subst hcv
      have hvl := HVL.out _ hcK
      simp only at hvl
      have hgk : (get K ck).map (·.2) = some cb := by rw [HK1.out.get hcK]; rfl
      have hnr : ∀ cur t fr, wr.heap[r]? ≠ some (.cells cur t fr) := fun cur t fr hh => by
        obtain ⟨es, clock, since, seen, c0, _, a2, _⟩ := HRG.out.it
        rw [hh] at a2
        cases a2
      have hf2 : Fr wr w2 (fun i => i = r) := (Fr.of_grown hg2).mono (fun i _ e => by injection e)
      have HROW2 := Lib.hid (ownsRow_kept HROW.out hg2 (Or.inr (iter_ne_row HROW.out hnr)))
      have HQ2 := Lib.hid (show ∀ x ∈ Q, By w2 x.kv x.k ∧ By w2 x.vv x.v ∧ (get K x.k).map (·.2) = some x.v from fun x hx => ⟨(HQ.out x hx).1.fr hf2 (fun g e cur fr => e ▸ hnr cur _ fr), (HQ.out x hx).2.1.fr hf2 (fun g e cur fr => e ▸ hnr cur _ fr), (HQ.out x hx).2.2⟩)
      have HB2 := Lib.hid (HB.out.grown hg2 HB.out.size (fun k hk => by injection hk with hk; omega))
      have HBV := Lib.hid ((HBK.out _ hcK).kept (m := fun _ => False) (Fr.of_below HB2.out _) (fun _ _ h => h)).byt
      have HGK := Lib.hid hgk
      have HRG2 := Lib.hid hrg2
      have HPP := Lib.hid hp
      have hll : left.length = left'.length + 1 := by simpa using hp.length_eq
      simp only [sk, sv] at hen ⊢
      have HLE := Lib.hid HRG.out.left_eq
      clear hrg hb0 hcK hgk hnr hf2 hg2 hs2 hrg2 hp HRG HROW HQ HB
      go_wp2_with (refine wl_tobytes ck _ rfl rfl rfl (fun w3 c3 hb3 hy3 => ?_); have HROW3 := Lib.hid (ownsRow_keep HROW2.out hb3); have HRG3 := Lib.hid (HRG2.out.of_blocks (hb3.block _ HRG2.out.map.lt) (hb3.block _ HRG2.out.lt)); have HB3 := Lib.hid (HB2.out.trans (hb3.mono HB2.out.size)); have HBV3 := Lib.hid (HBV.out.later hb3); have HQ3 := Lib.hid (show ∀ x ∈ Q, By w3 x.kv x.k ∧ By w3 x.vv x.v ∧ (get K x.k).map (·.2) = some x.v from fun x hx => ⟨(HQ2.out x hx).1.later hb3, (HQ2.out x hx).2.1.later hb3, (HQ2.out x hx).2.2⟩); have HY3 := Lib.hid hy3; clear hb3 hy3 HROW2 HRG2 HB2 HBV HQ2 hen; generalize w2.heap.size = g2 at HY3 ⊢; simp only [Act.put, List.setIfInBounds_toArray, List.set_cons_zero, List.set_cons_succ])
      refine (bclone_any HBV3.out (by omega)).mono ?_
      rintro ex w4 ⟨v4, rfl, hT4, hb4⟩
      obtain ⟨s4, c4, rfl⟩ := hT4.form
      have hba : Below w4.heap.size w4 (w4.alloc (.cells (⟨.slice (some ⟨g2, 0, none⟩) ck.length c3, ck, .slice s4 cb.length c4, cb⟩ : Pr).cs.toArray 40)) := (Below.refl _ _).alloc (Nat.le_refl _) _
      have hb5 := hb4.trans (hba.mono hb4.size)
      have HROW5 := Lib.hid (ownsRow_keep HROW3.out hb5)
      have HRG5 := Lib.hid (HRG3.out.of_blocks (hb5.block _ HRG3.out.map.lt) (hb5.block _ HRG3.out.lt))
      have HB5 := Lib.hid (HB3.out.trans (hb5.mono HB3.out.size))
      have HQ5 := Lib.hid (show ∀ x ∈ Q, By _ x.kv x.k ∧ By _ x.vv x.v ∧ (get K x.k).map (·.2) = some x.v from fun x hx => ⟨(HQ3.out x hx).1.later hb5, (HQ3.out x hx).2.1.later hb5, (HQ3.out x hx).2.2⟩)
      have HY5 := Lib.hid (HY3.out.later hb5)
      have HV5 := Lib.hid ((Bts.by hT4).later hba)
      clear hT4 hb4 hba hb5 HROW3 HRG3 HB3 HQ3 HY3 HBV3
      go_wp2_with (refine wl_append_pr HROW5.out (by have := HB5.out.size; exact this) (by omega) w4.heap.size ⟨.slice (some ⟨g2, 0, none⟩) ck.length c3, ck, .slice s4 cb.length c4, cb⟩ (ones_pr _ _ _ _ _ _ _ _) (cells_new _ _ _) _ _ rfl rfl rfl rfl (fun v6 w6 hr6 hg6 => ?_); have HR6 := Lib.hid hr6; have HG6 := Lib.hid hg6; clear hr6 hg6; simp only [Act.put, List.setIfInBounds_toArray, List.set_cons_zero, List.set_cons_succ])
      have hnb := row_not_bytes HROW5.out
      have hf6 := Fr.of_grown HG6.out
      have hrr : ∀ cur t fr, (w4.alloc (.cells (⟨.slice (some ⟨g2, 0, none⟩) ck.length c3, ck, .slice s4 cb.length c4, cb⟩ : Pr).cs.toArray 40)).heap[r]? ≠ some (.cells cur t fr) := fun cur t fr hh => by
        obtain ⟨es, clock, since, seen, c0, _, a2, _⟩ := HRG5.out.it
        rw [hh] at a2
        cases a2
      have hmm : ∀ cur t fr, (w4.alloc (.cells (⟨.slice (some ⟨g2, 0, none⟩) ck.length c3, ck, .slice s4 cb.length c4, cb⟩ : Pr).cs.toArray 40)).heap[m]? ≠ some (.cells cur t fr) := fun cur t fr hh => by
        obtain ⟨es, clock, since, seen, c0, a1, _⟩ := HRG5.out.it
        rw [hh] at a1
        cases a1
      have HRG6 := Lib.hid (HRG5.out.kept HG6.out (fun e => iter_ne_row HROW5.out hmm e.symm) (fun e => iter_ne_row HROW5.out hrr e.symm))
      go_roundw
      case rel =>
        refine ⟨left', Q ++ [⟨.slice (some ⟨g2, 0, none⟩) ck.length c3, ck, .slice s4 cb.length c4, cb⟩], HRG6.out, ?_, fun y hy => ?_, ?_, HB5.out.grown HG6.out HB5.out.size (fun k hk => (HROW5.out.lt k hk).1)⟩
        · rw [List.flatMap_append, List.length_append]
          have := HR6.out
          simpa using this
        · rcases List.mem_append.1 hy with hy | hy
          · exact ⟨(HQ5.out y hy).1.fr hf6 hnb, (HQ5.out y hy).2.1.fr hf6 hnb, (HQ5.out y hy).2.2⟩
          · obtain rfl : y = _ := by simpa using hy
            exact ⟨HY5.out.fr hf6 hnb, HV5.out.fr hf6 hnb, HGK.out⟩
        · have h1 := HPP.out.map fun p => p.1.1
          rw [List.map_cons] at h1
          have h2 := (List.Perm.append_left (Q.map (·.k)) h1).symm.trans HP.out
          rw [List.map_append, List.append_assoc]
          exact h2
      case measure => rw [HRG6.out.left_eq, HLE.out]; omega
end Go.Proofs.Yteeghdkejnhjnaa.Kv
