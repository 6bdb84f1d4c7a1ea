/- The law's known: the chapter's rows; no storage. -/
import Derived.Test.YteeghdkejnhjnaaKvA
import Derived.Deep.CutBlock
namespace Go.Proofs.Yteeghdkejnhjnaa.Kv
open Go Go.RowKit Go.Shelf Kt Ad Bo

def kA : A8 := ⟨1, 0, 0, 0, 0, 0, 0, 0⟩
def kB : A8 := ⟨2, 0, 0, 0, 0, 0, 0, 0⟩
/-! ### bytes of constants, bytes made -/
theorem frz_run {w : World} {g : Nat} {C : Array Value} (h : Lies w g 5 C) (n c : Nat) :
    (convert 25 25 (.slice (some ⟨g, 0, none⟩) n c)).run Try.prog w = .ok (.slice (some ⟨g, 0, none⟩) n c) (w.freeze ⟨g, C.size, none⟩ 1) := by
  have hs : w.shape? g = some (5, C.size) := by unfold World.shape?; rw [show w.heap[g]? = _ from h]
  simp [convert, run_underlying Try.underlying25, run_underlying Try.underlying5, markStringish, shape, freeze, Sem.run, hs]
theorem one_slice (x : UInt8) (w : World) : (Instr.buildSlice 25 1 #[(0, .int .u8 (x.toNat : Int))]).run Try.prog w = .ok (.slice (some ⟨w.heap.size, 0, none⟩) 1 1) (w.alloc (.cells #[.int .u8 (x.toNat : Int)] 5)) := by kernel_rfl
/-- The two steps of a constant of one byte. -/
theorem one_mark (x : UInt8) (w : World) : ∃ w', (convert 25 25 (.slice (some ⟨w.heap.size, 0, none⟩) 1 1)).run Try.prog (w.alloc (.cells #[.int .u8 (x.toNat : Int)] 5)) = .ok (.slice (some ⟨w.heap.size, 0, none⟩) 1 1) w' ∧ Below w.heap.size w w' ∧ Byt w' (.slice (some ⟨w.heap.size, 0, none⟩) 1 1) [x] := by
  have hl : Lies (w.alloc (.cells #[.int .u8 (x.toNat : Int)] 5)) w.heap.size 5 #[.int .u8 (x.toNat : Int)] := Lies.new _ _ _
  obtain ⟨hf, hc⟩ := frz_fr hl
  refine ⟨_, frz_run hl 1 1, ((Below.refl _ _).alloc (Nat.le_refl _) _).trans (hf.below (by simp) (fun k e => Nat.le_of_eq e.symm)), ⟨_, 1, rfl, fun _ => ⟨w.heap.size, 0, rfl, Nat.lt_of_lt_of_le hl.lt hf.size, fun j u hj => ?_⟩⟩⟩
  rw [Nat.zero_add, hc]
  cases j <;> simp_all [u8v]
theorem wl_one (x : UInt8) {ops : Array Oper} {rest : List Oper} {o1 o2 : Oper} {a : Act} {w : World} {Q : Exit → Act → World → Prop} (hw1 : Region.wanted o1 (yielded ops a.tmps) = true) (ho1 : o1.op = .buildSlice 25 1 #[(0, .const (.int .u8 (x.toNat : Int)))]) (p : Operand)
    (hw2 : Region.wanted o2 (yielded ops (a.put o1.dst (.slice (some ⟨w.heap.size, 0, none⟩) 1 1)).tmps) = true) (ho2 : o2.op = .convert 25 25 p) (h0 : (a.put o1.dst (.slice (some ⟨w.heap.size, 0, none⟩) 1 1)).eval p = .slice (some ⟨w.heap.size, 0, none⟩) 1 1)
    (hk : ∀ w', Below w.heap.size w w' → Byt w' (.slice (some ⟨w.heap.size, 0, none⟩) 1 1) [x] → wpList Try.prog ops Q rest ((a.put o1.dst (.slice (some ⟨w.heap.size, 0, none⟩) 1 1)).put o2.dst (.slice (some ⟨w.heap.size, 0, none⟩) 1 1)) w') : wpList Try.prog ops Q (o1 :: o2 :: rest) a w := by
  have hb := one_slice x w
  obtain ⟨w', hm, h1, h2⟩ := one_mark x w
  refine wpList_step fun K hK => ?_
  rw [if_pos hw1]
  unfold Oper.wp execOp
  simp only [ho1, List.map_toArray, List.map_cons, List.map_nil, Act.eval, hb, Sem.run_bind, Sem.run_pure, Result.andThen_ok]
  refine hK _ _ (wpList_step fun K2 hK2 => ?_)
  rw [if_pos hw2]
  unfold Oper.wp execOp
  simp only [ho2, h0, hm, Sem.run_bind, Sem.run_pure, Result.andThen_ok]
  exact hK2 _ _ (hk w' h1 h2)
theorem wp_one (x : UInt8) {o : Oper} {a : Act} {w : World} {K : Act → World → Prop} {Q : Exit → Act → World → Prop} (ho : o.op = .buildSlice 25 1 #[(0, .const (.int .u8 (x.toNat : Int)))])
    (hk : K (a.put o.dst (.slice (some ⟨w.heap.size, 0, none⟩) 1 1)) (w.alloc (.cells #[.int .u8 (x.toNat : Int)] 5))) : Oper.wp Try.prog o a w K Q := by
  have hb := one_slice x w
  unfold Oper.wp execOp
  simp only [ho, List.map_toArray, List.map_cons, List.map_nil, Act.eval, hb, Sem.run_bind, Sem.run_pure, Result.andThen_ok]
  exact hk
theorem wp_onem (x : UInt8) {o : Oper} {a : Act} {w : World} {K : Act → World → Prop} {Q : Exit → Act → World → Prop} (p : Operand) (ho : o.op = .convert 25 25 p) (h0 : a.eval p = .slice (some ⟨w.heap.size, 0, none⟩) 1 1)
    (hk : ∀ w', Below w.heap.size w w' → Byt w' (.slice (some ⟨w.heap.size, 0, none⟩) 1 1) [x] → K (a.put o.dst (.slice (some ⟨w.heap.size, 0, none⟩) 1 1)) w') : Oper.wp Try.prog o a (w.alloc (.cells #[.int .u8 (x.toNat : Int)] 5)) K Q := by
  obtain ⟨w', hm, h1, h2⟩ := one_mark x w
  unfold Oper.wp execOp
  simp only [ho, h0, hm, Sem.run_bind, Sem.run_pure, Result.andThen_ok]
  exact hk w' h1 h2
theorem infoB : (Try.prog.info? 5).map (fun i => (i.zero, i.size, i.bytes)) = some (some (.int .u8 0), 1, 1) := by kernel_rfl
theorem wp_made (n : Nat) (hn : n ≤ 100000) {o : Oper} {a : Act} {w : World} {K : Act → World → Prop} {Q : Exit → Act → World → Prop} (p q : Operand) (ho : o.op = .makeSlice 25 p q) (hp : a.eval p = .int .i64 (n : Int)) (hq : a.eval q = .int .i64 (n : Int))
    (hk : ∀ w', Below w.heap.size w w' → Byt w' (.slice (some ⟨w.heap.size, 0, none⟩) n n) (List.replicate n 0) → K (a.put o.dst (.slice (some ⟨w.heap.size, 0, none⟩) n n)) w') : Oper.wp Try.prog o a w K Q := by
  obtain ⟨i0, hi, hz0, hz1, hz2⟩ := info_parts infoB
  have hr := run_makeSlice (P := Try.prog) (w := w) 25 5 i0 _ Try.underlying25 hi hz0 .i64 .i64 n n (by omega) (Int.le_refl _) (by rw [hz1]; simp; omega) (by rw [hz2]; simp; omega) (by omega)
  simp only [Int.toNat_natCast] at hr
  have hB : Below w.heap.size w (w.alloc (.cells (madeCells (Value.int .u8 0).cells (n * i0.size)) 5)) := (Below.refl _ _).alloc (Nat.le_refl _) _
  unfold Oper.wp execOp
  simp only [ho, hp, hq, hr, Sem.run_bind, Sem.run_pure, Result.andThen_ok]
  refine hk _ hB ⟨_, n, by rw [List.length_replicate], fun _ => ⟨w.heap.size, 0, rfl, by simp, fun j u hj => ?_⟩⟩
  have hl : Lies (w.alloc (.cells (madeCells (Value.int .u8 0).cells (n * i0.size)) 5)) w.heap.size 5 (madeCells (Value.int .u8 0).cells (n * i0.size)) := Lies.new _ _ _
  rw [Nat.zero_add, hl.cell, ← Array.getElem?_toList, show (madeCells (Value.int .u8 0).cells (n * i0.size)).toList = _ from toList_madeCells_one _ _, hz1, Nat.mul_one]
  have hjn : j < n := by simpa using (List.getElem?_eq_some_iff.1 hj).1
  rw [List.getElem?_replicate, if_pos hjn] at hj ⊢
  exact Option.some.inj hj ▸ rfl
theorem bslice_pr (s1 s2 s3 s4 : Option Addr) (n1 n2 n3 n4 c1 c2 c3 c4 : Nat) (w : World) : (Instr.buildSlice 37 2 #[(0, .agg #[.slice s1 n1 c1, .slice s2 n2 c2]), (1, .agg #[.slice s3 n3 c3, .slice s4 n4 c4])]).run Try.prog w = .ok (.slice (some ⟨w.heap.size, 0, none⟩) 2 2) (w.alloc (.cells #[.slice s1 n1 c1, .slice s2 n2 c2, .slice s3 n3 c3, .slice s4 n4 c4] 40)) := by kernel_rfl
theorem wl_pr {ops : Array Oper} {rest : List Oper} {o : Oper} {a : Act} {w : World} {Q : Exit → Act → World → Prop} (s1 s2 s3 s4 : Option Addr) (n1 n2 n3 n4 c1 c2 c3 c4 : Nat) (hw1 : Region.wanted o (yielded ops a.tmps) = true) (p q : Operand) (ho : o.op = .buildSlice 37 2 #[(0, p), (1, q)]) (hp : a.eval p = .agg #[.slice s1 n1 c1, .slice s2 n2 c2]) (hq : a.eval q = .agg #[.slice s3 n3 c3, .slice s4 n4 c4])
    (hk : wpList Try.prog ops Q rest (a.put o.dst (.slice (some ⟨w.heap.size, 0, none⟩) 2 2)) (w.alloc (.cells #[.slice s1 n1 c1, .slice s2 n2 c2, .slice s3 n3 c3, .slice s4 n4 c4] 40))) : wpList Try.prog ops Q (o :: rest) a w := by
  have hb := bslice_pr s1 s2 s3 s4 n1 n2 n3 n4 c1 c2 c3 c4 w
  refine wpList_step fun K hK => ?_
  rw [if_pos hw1]
  unfold Oper.wp execOp
  simp only [ho, List.map_toArray, List.map_cons, List.map_nil, hp, hq, hb, Sem.run_bind, Sem.run_pure, Result.andThen_ok]
  exact hK _ _ hk
theorem shows_lit (w : World) (P : List Pr) (c : Nat) (hb : ∀ x ∈ P, Byt w x.kv x.k ∧ Byt w x.vv x.v) : ShowsP (w.alloc (.cells (P.flatMap Pr.cs).toArray 40)) (.slice (some ⟨w.heap.size, 0, none⟩) P.length c) P := by
  refine ⟨⟨_, c, rfl, fun _ => ⟨w.heap.size, 0, rfl, by simp, fun j u hj => ?_⟩⟩, fun y hy => ⟨(hb y hy).1.later ((Below.refl _ _).alloc (Nat.le_refl _) _), (hb y hy).2.later ((Below.refl _ _).alloc (Nat.le_refl _) _)⟩⟩
  have := cells_new w (P.flatMap Pr.cs) 40 j u hj
  rwa [Addr.add_lit] at this

theorem bslice_a (a : A8) (w : World) : (Instr.buildSlice 67 1 #[(0, a.v)]).run Try.prog w = .ok (.slice (some ⟨w.heap.size, 0, none⟩) 1 1) (w.alloc (.cells a.cs.toArray 24)) := by kernel_rfl
theorem wp_bsliceA (x : A8) {o : Oper} {a : Act} {w : World} {K : Act → World → Prop} {Q : Exit → Act → World → Prop} (p : Operand) (ho : o.op = .buildSlice 67 1 #[(0, p)]) (hp : a.eval p = x.v)
    (hk : K (a.put o.dst (.slice (some ⟨w.heap.size, 0, none⟩) 1 1)) (w.alloc (.cells x.cs.toArray 24))) : Oper.wp Try.prog o a w K Q := by
  have hb := bslice_a x w
  unfold Oper.wp execOp
  simp only [ho, List.map_toArray, List.map_cons, List.map_nil, hp, hb, Sem.run_bind, Sem.run_pure, Result.andThen_ok]
  exact hk
theorem showsA_lit (w : World) (a : A8) (c : Nat) : ShowsA (w.alloc (.cells a.cs.toArray 24)) (.slice (some ⟨w.heap.size, 0, none⟩) 1 c) [a] := by
  refine ⟨_, c, rfl, fun _ => ⟨w.heap.size, 0, rfl, by simp, fun j u hj => ?_⟩⟩
  have := cells_new w a.cs 24 j u (by simpa [addrCells] using hj)
  rwa [Addr.add_lit] at this

/-- A region along a plan that does not panic. -/
def Calm (Q : Exit → Act → World → Prop) : Exit → Act → World → Prop := fun e a w => e = .normal ∧ Q .normal a w
theorem regionN {P : Program} {ops : Array Oper} {Q : Exit → Act → World → Prop} {id : Nat} {a : Act} {w : World} (p : RP) (S : World → Prop) (hm : P.follows .mixedOrders = true)
    (hok : (Region.noSelect ops && (p.ok ops (Array.replicate ops.size false) && decide (p.size ≤ ops.size))) = true) (hS : S w.drew) (h : S w.drew → p.go P ops (Calm Q) S a w.drew) : (Code.region id ops true).wp P Q a w :=
  Code.wp_mono (fun e a w (h : Calm Q e a w) => by obtain ⟨rfl, h⟩ := h; exact h) (RP.region (Q := Calm Q) p S hm hok (fun _ _ _ _ _ h => by cases h.1) hS h)

theorem results_cell1 {P : Program} {fn : Func} {p : Tmp} {ty : TypeId} (h : fn.results = #[.cell p ty]) (tmps : Array Value) (w : World) (g : Nat) (v : Value) (hp : tmps.getD p undef = .pointer (some ⟨g, 0, none⟩)) (hl : (loadVar ty ⟨g, 0, none⟩).run P w = .ok v w) :
    (results fn tmps).run P w = .ok v w := by
  have hp' : tmps[p]?.getD undef = .pointer (some ⟨g, 0, none⟩) := by simpa using hp
  simp [results, h, hp', asAddr, hl]
set_option maxRecDepth 100000 in
/-- The pairs of no store: none. -/
theorem pairs_stops (n : Nat) (p1 p2 : Nat) (a : A8) (w : World) (h1 : Lies w p1 28 #[.pointer none]) (h2 : Lies w p2 24 a.cs.toArray) :
    SeqStopsK Fence.wide n Try.prog 77 #[.pointer (some ⟨p1, 0, none⟩), .pointer (some ⟨p2, 0, none⟩)] (fun x : Value × Value => #[x.1, x.2]) KeepsWalks (fun xs => xs = []) (fun _ => False) 0 w := fun l J Jx W hW hJ _ _ h0 => by
  have hc := (h1.below hW h1.lt).cell 0
  simp only [List.getElem?_toArray, List.getElem?_cons_zero] at hc
  obtain ⟨a0, a1, a2, a3, a4, a5, a6, a7⟩ := lies_addr (h2.below hW h2.lt)
  have HL := Lib.hid (kvlist_nil W a)
  have HJ := Lib.hid hJ
  have H0 := Lib.hid h0
  clear hJ h0 hW h1 h2
  simp only [A8.v] at HL
  refine callsIn_wide.2 ?_
  simp only [List.append_toArray, List.nil_append, List.cons_append]
  go_enter Try.func77, Try.ntmps77
  go_wp2_with fail
  refine HL.out.mono ?_
  rintro e w2 ⟨rfl, hb⟩
  have HB := Lib.hid hb
  clear hb a0 a1 a2 a3 a4 a5 a6 a7 hc HL
  go_wp2_with fail
  go_loopw [10] (fun i wr => i = .int .i64 0 ∧ wr = w2) (fun _ _ => 0)
  case atStart => exact ⟨rfl, rfl⟩
  case round =>
  obtain ⟨rfl, rfl⟩ := hrel
  go_wp2_with fail
  go_end0
  exact ⟨⟨_, rfl⟩, .inl ⟨[], rfl, HJ.out [] _ _ none H0.out (grownBy_below HB.out none) (fun r e => by cases e)⟩⟩
theorem ePairs1 : ∀ args w, (callFunc 77 args).run Try.prog w = .ok (.enter 77 args) w := enters_of Try.func77 (by kernel_rfl) rfl

/-! ### what is kept -/
structure Kw (W w : World) (bl : Nat) (g : St) : Prop where
  r : Lies w W.heap.size 4 #[.bool false]
  a : Lies w (W.heap.size + 1) 24 kA.cs.toArray
  b : Lies w (W.heap.size + 2) 24 kB.cs.toArray
  s : Sto w (fun i => W.heap.size + 3 ≤ i) bl g
  lo : W.heap.size + 3 ≤ w.heap.size
  below : Below W.heap.size W w
section
variable {W w w' : World} {bl : Nat} {g g' : St}
theorem Kw.owned (h : Kw W w bl g) (hk : Sto w' (fun i => W.heap.size + 3 ≤ i) bl g') (hf : Fr w w' (fun i => W.heap.size + 3 ≤ i)) : Kw W w' bl g' :=
  ⟨lies_fr h.r hf (by omega), lies_fr h.a hf (by omega), lies_fr h.b hf (by omega), hk, Nat.le_trans h.lo hf.size, h.below.trans (hf.below h.below.size (fun k hk => by omega))⟩
theorem Kw.later (h : Kw W w bl g) (hb : Below w.heap.size w w') : Kw W w' bl g := h.owned (h.s.later hb) (Fr.of_below hb _)
theorem Kw.drew (h : Kw W w bl g) : Kw W w.drew bl g := h.later (Below.refl _ _).drew
theorem Kw.ho (h : Kw W w bl g) : ∀ i, w.heap.size ≤ i → W.heap.size + 3 ≤ i := fun _ hi => Nat.le_trans h.lo hi
end
abbrev g1 : St := St.nil.put kA [107] (some [118])
abbrev g2 : St := g1.put kA [] (some [119])
abbrev g3 : St := g2.put kA [107] none
theorem bd2 : Bd 2 g2 := (Bd.nil.put kA (by decide) (by decide)).put kA (by decide) (by decide)
theorem bd3 : Bd 2 g3 := bd2.del kA [107]
theorem g2k : g2 kA [107] = some [118] := by decide
theorem g2b : g2 kB [107] = none := by decide
theorem g3k : g3 kA [107] = none := by decide
theorem put_is {g : St} {k v : Bs} (a : A8) (h1 : k.length ≤ 64) (h2 : v.length ≤ 1024) : (if 64 < k.length ∨ 1024 < v.length then g else g.put a k (some v)) = g.put a k (some v) := if_neg (by omega)
theorem put_ok {k v : Bs} (h1 : k.length ≤ 64) (h2 : v.length ≤ 1024) : (((if 64 < k.length ∨ 1024 < v.length then 3 else 0 : Nat)) : Int) = 0 := by rw [if_neg (by omega)]; rfl
theorem tells2 {P : List (Bs × Bs)} (h : Tells g2 kA P) : P = [([], [119]), ([107], [118])] := by
  refine h.uniq ⟨by unfold Rise; simp [nil_lt], fun k v => ?_⟩
  unfold g2 g1 St.put St.nil
  constructor
  · intro hm
    simp only [List.mem_cons, Prod.mk.injEq, List.not_mem_nil, or_false] at hm
    rcases hm with ⟨rfl, rfl⟩ | ⟨rfl, rfl⟩ <;> simp
  · intro hk
    by_cases h1 : k = []
    · subst h1
      simp at hk
      simp [hk]
    · by_cases h2 : k = [107]
      · subst h2
        simp at hk
        simp [hk]
      · simp [h1, h2] at hk
theorem all3 {ts : List A8} (hr : RiseA ts) (h : ∀ a, a ∈ ts ↔ ∃ k v, g3 a k = some v) : ts = [kA] := by
  have hm : ∀ a, a ∈ ts ↔ a ∈ [kA] := fun a => by
    rw [h a, List.mem_singleton]
    unfold g3 g2 g1 St.put St.nil
    constructor
    · rintro ⟨k, v, hk⟩
      by_cases ha : a = kA
      · exact ha
      · simp [ha] at hk
    · rintro rfl
      exact ⟨[], [119], by simp⟩
  have hn : ts.Nodup := hr.imp (fun {x y} hlt e => by rw [e] at hlt; omega)
  exact eq_of_riseA hr (List.pairwise_singleton _ _) ((List.perm_ext_iff_of_nodup hn (by simp)).2 hm)
theorem put_far {k v : Bs} (h : 64 < k.length ∨ 1024 < v.length) : (((if 64 < k.length ∨ 1024 < v.length then 3 else 0 : Nat)) : Int) = 3 := by rw [if_pos h]; rfl
theorem put_fars {g : St} {k v : Bs} (a : A8) (h : 64 < k.length ∨ 1024 < v.length) : (if 64 < k.length ∨ 1024 < v.length then g else g.put a k (some v)) = g := if_pos h
theorem len65 : 64 < (List.replicate 65 (0 : UInt8)).length := by rw [List.length_replicate]; decide
theorem len1025 : 1024 < (List.replicate 1025 (0 : UInt8)).length := by rw [List.length_replicate]; decide
theorem byt_nil (w : World) (n : Nat) : Byt w (.slice none 0 n) [] := ⟨none, n, rfl, fun h => absurd rfl h⟩

set_option maxRecDepth 100000 in
set_option maxHeartbeats 8000000 in
theorem known_any (W : World) : Calls Try.prog 10 #[] W fun e w' => e = .returned (.bool true) ∧ Below W.heap.size W w' := by
  refine (callsIn_wide (n := 9)).1 ?_
  refine callsIn_of_wp_marks Try.func10 rfl trivial ?_ rfl
  refine wpIn_wide.2 ?_
  simp only [Try.ntmps10, List.size_toArray, List.length_nil, Nat.reduceSub, Array.replicate_succ, Array.replicate_zero, List.push_toArray, List.append_toArray, List.nil_append, List.cons_append]
  go_wp2_with fail
  refine (sto_new _).mono ?_
  rintro en w0 ⟨bl, rfl, hK, hB⟩
  have hsz : (((W.alloc (.cells #[.bool false] 4)).alloc (.cells kA.cs.toArray 24)).alloc (.cells kB.cs.toArray 24)).heap.size = W.heap.size + 3 := by simp only [World.size_alloc]
  have hb0 : Below W.heap.size W (((W.alloc (.cells #[.bool false] 4)).alloc (.cells kA.cs.toArray 24)).alloc (.cells kB.cs.toArray 24)) := (((Below.refl _ _).alloc (Nat.le_refl _) _).alloc (by simp only [World.size_alloc]; omega) _).alloc (by simp only [World.size_alloc]; omega) _
  have hB' : Below (W.heap.size + 3) (((W.alloc (.cells #[.bool false] 4)).alloc (.cells kA.cs.toArray 24)).alloc (.cells kB.cs.toArray 24)) w0 := hsz ▸ hB
  have H0 := Lib.hid (show Kw W w0 bl St.nil from
    ⟨(((Lies.new W 4 #[.bool false]).alloc _).alloc _).below hB' (by omega),
     (by have := (Lies.new (W.alloc (.cells #[.bool false] 4)) 24 kA.cs.toArray).alloc (.cells kB.cs.toArray 24); rw [World.size_alloc] at this; exact this.below hB' (by omega)),
     (by have := Lies.new ((W.alloc (.cells #[.bool false] 4)).alloc (.cells kA.cs.toArray 24)) 24 kB.cs.toArray; rw [World.size_alloc, World.size_alloc] at this; exact this.below hB' (by omega)),
     hK.mono (fun k _ h => hsz ▸ h), hsz ▸ hB.size, hb0.trans (hB'.mono (by omega))⟩)
  clear hK hB hsz hb0 hB'
  obtain ⟨a0, a1, a2, a3, a4, a5, a6, a7⟩ := lies_addr H0.out.a
  simp only [kA] at a0 a1 a2 a3 a4 a5 a6 a7
  go_wp2_with (first | (refine wl_one 107 rfl rfl _ rfl rfl rfl (fun w1 hb hy => ?_); have H1 := Lib.hid (H0.out.later hb); have HY107_1 := Lib.hid hy; clear hb hy H0  a0 a1 a2 a3 a4 a5 a6 a7; simp only [Act.put, List.setIfInBounds_toArray, List.set_cons_zero, List.set_cons_succ]) | (refine wl_one 118 rfl rfl _ rfl rfl rfl (fun w2 hb hy => ?_); have H2 := Lib.hid (H1.out.later hb); have HY118_2 := Lib.hid hy; have HY107_2 := Lib.hid (HY107_1.out.later hb); clear hb hy H1 HY107_1; simp only [Act.put, List.setIfInBounds_toArray, List.set_cons_zero, List.set_cons_succ]))
  have hc := sto_put H2.out.s H2.out.ho kA HY107_2.out HY118_2.out
  rw [put_is _ (by decide) (by decide), put_ok (by decide) (by decide)] at hc
  replace hc := Lib.hid hc
  refine hc.out.mono ?_
  rintro ex w3 ⟨rfl, hs, hf⟩
  have H3 := Lib.hid (show Kw W w3 bl g1 from H2.out.owned hs hf)
  clear hc hs hf H2 HY107_2 HY118_2
  obtain ⟨a0, a1, a2, a3, a4, a5, a6, a7⟩ := lies_addr H3.out.a
  simp only [kA] at a0 a1 a2 a3 a4 a5 a6 a7
  go_wp2_with (refine wl_one 119 rfl rfl _ rfl rfl rfl (fun w4 hb hy => ?_); have H4 := Lib.hid (H3.out.later hb); have HY119_4 := Lib.hid hy; clear hb hy H3  a0 a1 a2 a3 a4 a5 a6 a7; simp only [Act.put, List.setIfInBounds_toArray, List.set_cons_zero, List.set_cons_succ])
  have hc := sto_put H4.out.s H4.out.ho kA (byt_nil w4 0) HY119_4.out
  rw [put_is _ (by decide) (by decide), put_ok (by decide) (by decide)] at hc
  replace hc := Lib.hid hc
  refine hc.out.mono ?_
  rintro ex w5 ⟨rfl, hs, hf⟩
  have H5 := Lib.hid (show Kw W w5 bl g2 from H4.out.owned hs hf)
  clear hc hs hf H4 HY119_4
  obtain ⟨a0, a1, a2, a3, a4, a5, a6, a7⟩ := lies_addr H5.out.a
  simp only [kA] at a0 a1 a2 a3 a4 a5 a6 a7
  go_wp2_with (refine wl_one 107 rfl rfl _ rfl rfl rfl (fun w6 hb hy => ?_); have H6 := Lib.hid (H5.out.later hb); have HY107_6 := Lib.hid hy; clear hb hy H5  a0 a1 a2 a3 a4 a5 a6 a7; simp only [Act.put, List.setIfInBounds_toArray, List.set_cons_zero, List.set_cons_succ])
  have hc := sto_get H6.out.s bd2 kA HY107_6.out (by decide)
  rw [g2k] at hc
  simp only [Option.isSome_some, Option.getD_some] at hc
  replace hc := Lib.hid hc
  refine hc.out.mono ?_
  rintro ex w7 ⟨v7, rfl, ht, hb⟩
  obtain ⟨s7, c7, rfl⟩ := ht.form
  have HV_7 := Lib.hid ht.byt
  have H7 := Lib.hid (H6.out.later hb)
  clear hc ht hb H6 HY107_6
  obtain ⟨a0, a1, a2, a3, a4, a5, a6, a7⟩ := lies_addr H7.out.b
  simp only [kB] at a0 a1 a2 a3 a4 a5 a6 a7
  go_wp2_with (refine wl_one 107 rfl rfl _ rfl rfl rfl (fun w8 hb hy => ?_); have H8 := Lib.hid (H7.out.later hb); have HY107_8 := Lib.hid hy; have HV_8 := Lib.hid (HV_7.out.later hb); clear hb hy H7 HV_7 a0 a1 a2 a3 a4 a5 a6 a7; simp only [Act.put, List.setIfInBounds_toArray, List.set_cons_zero, List.set_cons_succ])
  have hc := sto_get H8.out.s bd2 kB HY107_8.out (by decide)
  rw [g2b] at hc
  simp only [Option.isSome_none, Option.getD_none] at hc
  replace hc := Lib.hid hc
  refine hc.out.mono ?_
  rintro ex w9 ⟨v9, rfl, ht, hb⟩
  obtain ⟨s9, c9, rfl⟩ := ht.form
  have HV_9 := Lib.hid (HV_8.out.later hb)
  have H9 := Lib.hid (H8.out.later hb)
  clear hc ht hb H8 HY107_8 HV_8
  obtain ⟨a0, a1, a2, a3, a4, a5, a6, a7⟩ := lies_addr H9.out.a
  simp only [kA] at a0 a1 a2 a3 a4 a5 a6 a7
  have kx := Byt.conv HV_9.out
  simp only [List.length_cons, List.length_nil, Nat.zero_add] at kx
  have hq : (bst [118]).toList = [118] := by rw [ByteArray.toList_eq]; rfl
  go_wp2_with fail
  refine (sto_list H9.out.s bd2 (by decide) kA).mono ?_
  rintro ex w10 ⟨v10, T, rfl, hS, hT, hb⟩
  have hsaid := tells2 hT
  obtain ⟨s10, c10, hv10, _⟩ := hS.row
  subst hv10
  have HT_10 := Lib.hid hS
  have HSD := Lib.hid hsaid
  have H10 := Lib.hid (H9.out.later hb)
  clear hS hT hb hsaid kx hq H9 HV_9 a0 a1 a2 a3 a4 a5 a6 a7
  go_wp2_with (first | (refine wl_one 119 rfl rfl _ rfl rfl rfl (fun w11 hb hy => ?_); have H11 := Lib.hid (H10.out.later hb); have HY119_11 := Lib.hid hy; have HT_11 := Lib.hid (HT_10.out.later hb); clear hb hy H10 HT_10; simp only [Act.put, List.setIfInBounds_toArray, List.set_cons_zero, List.set_cons_succ]) | (refine wl_one 107 rfl rfl _ rfl rfl rfl (fun w12 hb hy => ?_); have H12 := Lib.hid (H11.out.later hb); have HY107_12 := Lib.hid hy; have HT_12 := Lib.hid (HT_11.out.later hb); have HY119_12 := Lib.hid (HY119_11.out.later hb); clear hb hy H11 HT_11 HY119_11; simp only [Act.put, List.setIfInBounds_toArray, List.set_cons_zero, List.set_cons_succ]) | (refine wl_one 118 rfl rfl _ rfl rfl rfl (fun w13 hb hy => ?_); have H13 := Lib.hid (H12.out.later hb); have HY118_13 := Lib.hid hy; have HT_13 := Lib.hid (HT_12.out.later hb); have HY119_13 := Lib.hid (HY119_12.out.later hb); have HY107_13 := Lib.hid (HY107_12.out.later hb); clear hb hy H12 HT_12 HY119_12 HY107_12; simp only [Act.put, List.setIfInBounds_toArray, List.set_cons_zero, List.set_cons_succ]) | (refine wl_pr none (some _) (some _) (some _) 0 1 1 1 0 1 1 1 rfl _ _ rfl rfl rfl ?_; simp only [Act.put, List.setIfInBounds_toArray, List.set_cons_zero, List.set_cons_succ]))
  have hba : Below w13.heap.size w13 (w13.alloc (.cells (([⟨.slice none 0 0, [], .slice (some ⟨w10.heap.size, 0, none⟩) 1 1, [119]⟩, ⟨.slice (some ⟨w11.heap.size, 0, none⟩) 1 1, [107], .slice (some ⟨w12.heap.size, 0, none⟩) 1 1, [118]⟩] : List Pr).flatMap Pr.cs).toArray 40)) := (Below.refl _ _).alloc (Nat.le_refl _) _
  have hl := shows_lit w13 [⟨.slice none 0 0, [], .slice (some ⟨w10.heap.size, 0, none⟩) 1 1, [119]⟩, ⟨.slice (some ⟨w11.heap.size, 0, none⟩) 1 1, [107], .slice (some ⟨w12.heap.size, 0, none⟩) 1 1, [118]⟩] 2 (by
    intro x hx
    rcases List.mem_cons.1 hx with rfl | hx
    · exact ⟨byt_nil _ _, HY119_13.out⟩
    · obtain rfl := List.mem_singleton.1 hx
      exact ⟨HY107_13.out, HY118_13.out⟩)
  have hc := samep_any (HT_13.out.later hba) hl (by rw [← saidP_len, HSD.out]; decide)
  rw [HSD.out, decide_eq_true (show ([([], [119]), ([107], [118])] : List (Bs × Bs)) = saidP _ from rfl)] at hc
  have H13a := Lib.hid (H13.out.later hba)
  replace hc := Lib.hid hc
  clear hba hl H13 HT_13 HY119_13 HY107_13 HY118_13 HSD
  refine hc.out.mono ?_
  rintro ex w14 ⟨rfl, hb⟩
  have H14 := Lib.hid (H13a.out.later hb)
  clear hc hb H13a
  obtain ⟨a0, a1, a2, a3, a4, a5, a6, a7⟩ := lies_addr H14.out.a
  simp only [kA] at a0 a1 a2 a3 a4 a5 a6 a7
  go_wp2_with fail
  clear a0 a1 a2 a3 a4 a5 a6 a7
  refine regionN (RP.take 0 (RP.take 1 (RP.run 2 (RP.run 3 (RP.run 4 (RP.take 5 (RP.take 6 (RP.take 7 (RP.take 8 (RP.run 9 (RP.run 10 (RP.run 11 (RP.take 12 (RP.take 13 (RP.take 14 (RP.take 16 (RP.fork 15 17 (RP.run 17 (RP.run 18 (RP.take 19 (RP.take 20 (RP.take 21 (RP.take 22 (RP.take 23 (RP.run 24 (RP.run 25 (RP.take 26 (RP.take 27 (RP.take 28 (RP.take 29 (RP.take 30 (RP.run 31 (RP.run 32 (RP.take 33 (RP.take 34 RP.done)))))))))))))))))) (RP.run 15 (RP.run 18 (RP.take 19 (RP.take 20 (RP.take 21 (RP.take 22 (RP.take 23 (RP.run 24 (RP.run 25 (RP.take 26 (RP.take 27 (RP.take 28 (RP.take 29 (RP.take 30 (RP.run 31 (RP.run 32 (RP.take 33 (RP.take 34 RP.done))))))))))))))))))))))))))))))))))) (fun w' => Lies w' (W.heap.size + 1) 24 kA.cs.toArray) (by as_aux_lemma => kernel_rfl) (by as_aux_lemma => kernel_rfl) H14.out.a.drew (fun hS => ?_)
  clear hS
  have H := Lib.hid H14.out.drew
  generalize w14.drew = u0 at H ⊢
  clear H14
  repeat (first | (refine RP.t_take (v := ?_) rfl rfl (fun w' hw' => ?_) ?_; rotate_left; (focus ((obtain ⟨a0, a1, a2, a3, a4, a5, a6, a7⟩ := lies_addr hw'; simp only [kA] at a0 a1 a2 a3 a4 a5 a6 a7); go_simp; (try go_bits); (try (with_reducible rfl)))); (try simp only [Act.put, List.setIfInBounds_toArray, List.set_cons_zero, List.set_cons_succ])) | (refine RP.t_skip rfl rfl ?_; (try simp only [Act.put, List.setIfInBounds_toArray, List.set_cons_zero, List.set_cons_succ])))
  refine t_run1 rfl rfl (fun KK hKK => ?_)
  refine wp_one 107 rfl ?_
  refine hKK.out _ _ (H.out.a.alloc _) ?_
  clear hKK KK
  (try simp only [Act.put, List.setIfInBounds_toArray, List.set_cons_zero, List.set_cons_succ])
  refine t_run1 rfl rfl (fun KK hKK => ?_)
  refine wp_onem 107 _ rfl rfl (fun u1 hb hy => ?_)
  replace H := Lib.hid (H.out.later hb)
  have HY := Lib.hid hy
  clear hb hy
  refine hKK.out _ _ H.out.a ?_
  clear hKK KK
  (try simp only [Act.put, List.setIfInBounds_toArray, List.set_cons_zero, List.set_cons_succ])
  repeat (first | (refine RP.t_take (v := ?_) rfl rfl (fun w' hw' => ?_) ?_; rotate_left; (focus ((obtain ⟨a0, a1, a2, a3, a4, a5, a6, a7⟩ := lies_addr hw'; simp only [kA] at a0 a1 a2 a3 a4 a5 a6 a7); go_simp; (try go_bits); (try (with_reducible rfl)))); (try simp only [Act.put, List.setIfInBounds_toArray, List.set_cons_zero, List.set_cons_succ])) | (refine RP.t_skip rfl rfl ?_; (try simp only [Act.put, List.setIfInBounds_toArray, List.set_cons_zero, List.set_cons_succ])))
  refine RP.t_run rfl (fun KK hKK => ?_)
  go_simp
  have hc := sto_del H.out.s bd2 kA HY.out (by decide)
  rw [g2k] at hc
  simp only [Option.isSome_some] at hc
  replace hc := Lib.hid hc
  refine hc.out.mono ?_
  rintro ex u2 ⟨rfl, hs, hf⟩
  replace H := Lib.hid (show Kw W u2 bl g3 from H.out.owned hs hf)
  clear hc hs hf HY
  refine hKK.out _ _ H.out.a ?_
  clear hKK KK
  (try simp only [Act.put, List.setIfInBounds_toArray, List.set_cons_zero, List.set_cons_succ])
  repeat (first | (refine RP.t_take (v := ?_) rfl rfl (fun w' hw' => ?_) ?_; rotate_left; (focus ((obtain ⟨a0, a1, a2, a3, a4, a5, a6, a7⟩ := lies_addr hw'; simp only [kA] at a0 a1 a2 a3 a4 a5 a6 a7); go_simp; (try go_bits); (try (with_reducible rfl)))); (try simp only [Act.put, List.setIfInBounds_toArray, List.set_cons_zero, List.set_cons_succ])) | (refine RP.t_skip rfl rfl ?_; (try simp only [Act.put, List.setIfInBounds_toArray, List.set_cons_zero, List.set_cons_succ])))
  refine t_run1 rfl rfl (fun KK hKK => ?_)
  refine wp_one 107 rfl ?_
  refine hKK.out _ _ (H.out.a.alloc _) ?_
  clear hKK KK
  (try simp only [Act.put, List.setIfInBounds_toArray, List.set_cons_zero, List.set_cons_succ])
  refine t_run1 rfl rfl (fun KK hKK => ?_)
  refine wp_onem 107 _ rfl rfl (fun u3 hb hy => ?_)
  replace H := Lib.hid (H.out.later hb)
  have HY := Lib.hid hy
  clear hb hy
  refine hKK.out _ _ H.out.a ?_
  clear hKK KK
  (try simp only [Act.put, List.setIfInBounds_toArray, List.set_cons_zero, List.set_cons_succ])
  repeat (first | (refine RP.t_take (v := ?_) rfl rfl (fun w' hw' => ?_) ?_; rotate_left; (focus ((obtain ⟨a0, a1, a2, a3, a4, a5, a6, a7⟩ := lies_addr hw'; simp only [kA] at a0 a1 a2 a3 a4 a5 a6 a7); go_simp; (try go_bits); (try (with_reducible rfl)))); (try simp only [Act.put, List.setIfInBounds_toArray, List.set_cons_zero, List.set_cons_succ])) | (refine RP.t_skip rfl rfl ?_; (try simp only [Act.put, List.setIfInBounds_toArray, List.set_cons_zero, List.set_cons_succ])))
  refine RP.t_run rfl (fun KK hKK => ?_)
  go_simp
  have hc := sto_del H.out.s bd3 kA HY.out (by decide)
  rw [g3k, put_none g3k] at hc
  simp only [Option.isSome_none] at hc
  replace hc := Lib.hid hc
  refine hc.out.mono ?_
  rintro ex u4 ⟨rfl, hs, hf⟩
  replace H := Lib.hid (show Kw W u4 bl g3 from H.out.owned hs hf)
  clear hc hs hf HY
  refine hKK.out _ _ H.out.a ?_
  clear hKK KK
  (try simp only [Act.put, List.setIfInBounds_toArray, List.set_cons_zero, List.set_cons_succ])
  repeat (first | (refine RP.t_take (v := ?_) rfl rfl (fun w' hw' => ?_) ?_; rotate_left; (focus ((obtain ⟨a0, a1, a2, a3, a4, a5, a6, a7⟩ := lies_addr hw'; simp only [kA] at a0 a1 a2 a3 a4 a5 a6 a7); go_simp; (try go_bits); (try (with_reducible rfl)))); (try simp only [Act.put, List.setIfInBounds_toArray, List.set_cons_zero, List.set_cons_succ])) | (refine RP.t_skip rfl rfl ?_; (try simp only [Act.put, List.setIfInBounds_toArray, List.set_cons_zero, List.set_cons_succ])))
  refine RP.t_fork rfl rfl (fun KK hKK => ?_) (fun KK hKK => ?_)
  · as_aux_lemma =>
      go_simp
      refine (sto_all H.out.s bd3 (by decide)).mono ?_
      rintro ex u5 ⟨vt, ts, rfl, hA, hR, hM, _, hb⟩
      have hts := all3 hR hM
      subst hts
      have hA2 := hA
      obtain ⟨st, ct, hvt, _⟩ := hA2
      subst hvt
      have HA := Lib.hid hA
      replace H := Lib.hid (H.out.later hb)
      clear hA hR hM hb
      refine hKK.out _ _ H.out.a ?_
      clear hKK KK
      (try simp only [Act.put, List.setIfInBounds_toArray, List.set_cons_zero, List.set_cons_succ])
      repeat (first | (refine RP.t_take (v := ?_) rfl rfl (fun w' hw' => ?_) ?_; rotate_left; (focus ((obtain ⟨a0, a1, a2, a3, a4, a5, a6, a7⟩ := lies_addr hw'; simp only [kA] at a0 a1 a2 a3 a4 a5 a6 a7); go_simp; (try go_bits); (try (with_reducible rfl)))); (try simp only [Act.put, List.setIfInBounds_toArray, List.set_cons_zero, List.set_cons_succ])) | (refine RP.t_skip rfl rfl ?_; (try simp only [Act.put, List.setIfInBounds_toArray, List.set_cons_zero, List.set_cons_succ])))
      refine t_run1 rfl rfl (fun KK hKK => ?_)
      refine wp_bsliceA kA _ rfl rfl ?_
      have hb : Below u5.heap.size u5 (u5.alloc (.cells kA.cs.toArray 24)) := (Below.refl _ _).alloc (Nat.le_refl _) _
      have HG := Lib.hid (showsA_lit u5 kA 1)
      replace HA := Lib.hid (HA.out.later hb)
      replace H := Lib.hid (H.out.later hb)
      refine hKK.out _ _ H.out.a ?_
      clear hKK KK hb
      generalize u5.alloc (.cells kA.cs.toArray 24) = u6 at H HG HA ⊢
      generalize u5.heap.size = d6 at HG ⊢
      (try simp only [Act.put, List.setIfInBounds_toArray, List.set_cons_zero, List.set_cons_succ])
      repeat (first | (refine RP.t_take (v := ?_) rfl rfl (fun w' hw' => ?_) ?_; rotate_left; (focus ((obtain ⟨a0, a1, a2, a3, a4, a5, a6, a7⟩ := lies_addr hw'; simp only [kA] at a0 a1 a2 a3 a4 a5 a6 a7); go_simp; (try go_bits); (try (with_reducible rfl)))); (try simp only [Act.put, List.setIfInBounds_toArray, List.set_cons_zero, List.set_cons_succ])) | (refine RP.t_skip rfl rfl ?_; (try simp only [Act.put, List.setIfInBounds_toArray, List.set_cons_zero, List.set_cons_succ])))
      refine RP.t_run rfl (fun KK hKK => ?_)
      go_simp
      have hc := equal_any HA.out HG.out (by decide)
      rw [decide_eq_true (rfl : ([kA] : List A8) = [kA])] at hc
      replace hc := Lib.hid hc
      refine hc.out.mono ?_
      rintro ex u7 ⟨rfl, hb⟩
      replace H := Lib.hid (H.out.later hb)
      clear hc hb HA HG
      refine hKK.out _ _ H.out.a ?_
      clear hKK KK
      (try simp only [Act.put, List.setIfInBounds_toArray, List.set_cons_zero, List.set_cons_succ])
      repeat (first | (refine RP.t_take (v := ?_) rfl rfl (fun w' hw' => ?_) ?_; rotate_left; (focus ((obtain ⟨a0, a1, a2, a3, a4, a5, a6, a7⟩ := lies_addr hw'; simp only [kA] at a0 a1 a2 a3 a4 a5 a6 a7); go_simp; (try go_bits); (try (with_reducible rfl)))); (try simp only [Act.put, List.setIfInBounds_toArray, List.set_cons_zero, List.set_cons_succ])) | (refine RP.t_skip rfl rfl ?_; (try simp only [Act.put, List.setIfInBounds_toArray, List.set_cons_zero, List.set_cons_succ])))
      refine t_run1 rfl rfl (fun KK hKK => ?_)
      refine wp_made 65 (by decide) _ _ rfl rfl rfl (fun u8 hb hy => ?_)
      replace H := Lib.hid (H.out.later hb)
      have HY := Lib.hid hy
      clear hb hy
      refine hKK.out _ _ H.out.a ?_
      clear hKK KK
      (try simp only [Act.put, List.setIfInBounds_toArray, List.set_cons_zero, List.set_cons_succ])
      repeat (first | (refine RP.t_take (v := ?_) rfl rfl (fun w' hw' => ?_) ?_; rotate_left; (focus ((obtain ⟨a0, a1, a2, a3, a4, a5, a6, a7⟩ := lies_addr hw'; simp only [kA] at a0 a1 a2 a3 a4 a5 a6 a7); go_simp; (try go_bits); (try (with_reducible rfl)))); (try simp only [Act.put, List.setIfInBounds_toArray, List.set_cons_zero, List.set_cons_succ])) | (refine RP.t_skip rfl rfl ?_; (try simp only [Act.put, List.setIfInBounds_toArray, List.set_cons_zero, List.set_cons_succ])))
      refine RP.t_run rfl (fun KK hKK => ?_)
      go_simp
      have hc := sto_put H.out.s H.out.ho kA HY.out (byt_nil _ 0)
      rw [put_far (Or.inl len65), put_fars kA (Or.inl len65)] at hc
      replace hc := Lib.hid hc
      refine hc.out.mono ?_
      rintro ex u9 ⟨rfl, hs, hf⟩
      replace H := Lib.hid (H.out.owned hs hf)
      clear hc hs hf HY
      refine hKK.out _ _ H.out.a ?_
      clear hKK KK
      (try simp only [Act.put, List.setIfInBounds_toArray, List.set_cons_zero, List.set_cons_succ])
      repeat (first | (refine RP.t_take (v := ?_) rfl rfl (fun w' hw' => ?_) ?_; rotate_left; (focus ((obtain ⟨a0, a1, a2, a3, a4, a5, a6, a7⟩ := lies_addr hw'; simp only [kA] at a0 a1 a2 a3 a4 a5 a6 a7); go_simp; (try go_bits); (try (with_reducible rfl)))); (try simp only [Act.put, List.setIfInBounds_toArray, List.set_cons_zero, List.set_cons_succ])) | (refine RP.t_skip rfl rfl ?_; (try simp only [Act.put, List.setIfInBounds_toArray, List.set_cons_zero, List.set_cons_succ])))
      refine t_run1 rfl rfl (fun KK hKK => ?_)
      refine wp_made 1025 (by decide) _ _ rfl rfl rfl (fun u10 hb hy => ?_)
      replace H := Lib.hid (H.out.later hb)
      have HY := Lib.hid hy
      clear hb hy
      refine hKK.out _ _ H.out.a ?_
      clear hKK KK
      (try simp only [Act.put, List.setIfInBounds_toArray, List.set_cons_zero, List.set_cons_succ])
      repeat (first | (refine RP.t_take (v := ?_) rfl rfl (fun w' hw' => ?_) ?_; rotate_left; (focus ((obtain ⟨a0, a1, a2, a3, a4, a5, a6, a7⟩ := lies_addr hw'; simp only [kA] at a0 a1 a2 a3 a4 a5 a6 a7); go_simp; (try go_bits); (try (with_reducible rfl)))); (try simp only [Act.put, List.setIfInBounds_toArray, List.set_cons_zero, List.set_cons_succ])) | (refine RP.t_skip rfl rfl ?_; (try simp only [Act.put, List.setIfInBounds_toArray, List.set_cons_zero, List.set_cons_succ])))
      refine RP.t_run rfl (fun KK hKK => ?_)
      go_simp
      have hc := sto_put H.out.s H.out.ho kA (byt_nil _ 0) HY.out
      rw [put_far (Or.inr len1025), put_fars kA (Or.inr len1025)] at hc
      replace hc := Lib.hid hc
      refine hc.out.mono ?_
      rintro ex u11 ⟨rfl, hs, hf⟩
      replace H := Lib.hid (H.out.owned hs hf)
      clear hc hs hf HY
      refine hKK.out _ _ H.out.a ?_
      clear hKK KK
      (try simp only [Act.put, List.setIfInBounds_toArray, List.set_cons_zero, List.set_cons_succ])
      repeat (first | (refine RP.t_take (v := ?_) rfl rfl (fun w' hw' => ?_) ?_; rotate_left; (focus ((obtain ⟨a0, a1, a2, a3, a4, a5, a6, a7⟩ := lies_addr hw'; simp only [kA] at a0 a1 a2 a3 a4 a5 a6 a7); go_simp; (try go_bits); (try (with_reducible rfl)))); (try simp only [Act.put, List.setIfInBounds_toArray, List.set_cons_zero, List.set_cons_succ])) | (refine RP.t_skip rfl rfl ?_; (try simp only [Act.put, List.setIfInBounds_toArray, List.set_cons_zero, List.set_cons_succ])))
      refine RP.t_done ⟨rfl, ?_⟩
      obtain ⟨a0, a1, a2, a3, a4, a5, a6, a7⟩ := lies_addr H.out.a
      simp only [kA] at a0 a1 a2 a3 a4 a5 a6 a7
      go_wp2_with fail
      refine (kvget_nil _ kA _).mono ?_
      rintro ex u12 ⟨rfl, hb⟩
      replace H := Lib.hid (H.out.later hb)
      clear hb a0 a1 a2 a3 a4 a5 a6 a7
      have hlo := H.out.lo
      obtain ⟨a0, a1, a2, a3, a4, a5, a6, a7⟩ := lies_addr H.out.a
      simp only [kA] at a0 a1 a2 a3 a4 a5 a6 a7
      go_wp2_with fail
      refine (kvpairs_nil _ kA).mono ?_
      rintro ex u13 ⟨rfl, rfl⟩
      clear a0 a1 a2 a3 a4 a5 a6 a7
      go_wp2_with fail
      have hbz : Below u12.heap.size u12 ((u12.alloc (.cells #[.pointer none] 28)).alloc (.cells kA.cs.toArray 24)) := ((Below.refl _ _).alloc (Nat.le_refl _) _).alloc (by simp) _
      have h1z : Lies ((u12.alloc (.cells #[.pointer none] 28)).alloc (.cells kA.cs.toArray 24)) u12.heap.size 28 #[.pointer none] := (Lies.new u12 _ _).alloc _
      have h2z : Lies ((u12.alloc (.cells #[.pointer none] 28)).alloc (.cells kA.cs.toArray 24)) (u12.heap.size + 1) 24 kA.cs.toArray := by have := Lies.new (u12.alloc (.cells #[.pointer none] 28)) 24 kA.cs.toArray; rw [World.size_alloc] at this; exact this
      replace H := Lib.hid (H.out.later hbz)
      have HZ := Lib.hid (pairs_stops 8 _ _ kA _ h1z h2z)
      clear hbz h1z h2z
      refine (wpIn_wide (n := 9)).1 ?_
      refine wpIn_rangeFunc_ownH rfl (by decide) (gf := 77) (lb := #[.pointer (some ⟨u12.heap.size, 0, none⟩), .pointer (some ⟨u12.heap.size + 1, 0, none⟩)]) rfl trivial ePairs1
        (w0 := ((u12.alloc (.cells #[.pointer none] 28)).alloc (.cells kA.cs.toArray 24))) HZ.out walksK_t walksK_b (Below.refl _ _) (fun _ => rfl)
        (fun _ Wi => Below ((u12.alloc (.cells #[.pointer none] 28)).alloc (.cells kA.cs.toArray 24)).heap.size ((u12.alloc (.cells #[.pointer none] 28)).alloc (.cells kA.cs.toArray 24)) Wi) (fun _ _ _ => False) (ownFrom_below (Nat.le_refl _) (Nat.le_refl _)) (fun _ _ _ _ _ hs _ _ => hs) (Below.refl _ _)
        (fun _ _ _ => True) (fun _ _ _ _ _ _ _ _ _ => trivial) ?assign ?body ?done ?stop
      case assign =>
        rintro l pre x Wi K2 hI hK2
        gi_wp2
        exact hK2 _ _ ((KeepsOthers.refl _).from _) (KeepsWalks.refl _) hI trivial
      case body =>
        intro l pre x a' Wi _ _ _ _ hlt
        exact absurd hlt (by omega)
      case stop =>
        rintro D c pre Wi _ hs _ _
        exact hs.elim
      case done =>
        rintro D ys Wi hD hS hI hK
        have HK := Lib.hid hK
        replace H := Lib.hid (H.out.later hI)
        have HD := Lib.hid hD
        clear hD hS hI hK HZ
        obtain ⟨a0, a1, a2, a3, a4, a5, a6, a7⟩ := lies_addr H.out.a
        simp only [kA] at a0 a1 a2 a3 a4 a5 a6 a7
        go_wp2_with fail
        refine (kvput_nil _ kA _ _).mono ?_
        rintro ex u14 ⟨rfl, hb⟩
        replace HK := Lib.hid ((hb.block D (Array.getElem?_eq_some_iff.1 HK.out).1).trans HK.out)
        replace H := Lib.hid (H.out.later hb)
        clear hb a0 a1 a2 a3 a4 a5 a6 a7
        obtain ⟨a0, a1, a2, a3, a4, a5, a6, a7⟩ := lies_addr H.out.a
        simp only [kA] at a0 a1 a2 a3 a4 a5 a6 a7
        go_wp2_with fail
        refine (kvdel_nil _ kA _).mono ?_
        rintro ex u15 ⟨rfl, hb⟩
        replace HK := Lib.hid ((hb.block D (Array.getElem?_eq_some_iff.1 HK.out).1).trans HK.out)
        replace H := Lib.hid (H.out.later hb)
        clear hb a0 a1 a2 a3 a4 a5 a6 a7
        obtain ⟨a0, a1, a2, a3, a4, a5, a6, a7⟩ := lies_addr H.out.a
        simp only [kA] at a0 a1 a2 a3 a4 a5 a6 a7
        go_wp2_with fail
        refine (kvlist_nil _ kA).mono ?_
        rintro ex u16 ⟨rfl, hb⟩
        replace HK := Lib.hid ((hb.block D (Array.getElem?_eq_some_iff.1 HK.out).1).trans HK.out)
        replace H := Lib.hid (H.out.later hb)
        clear hb a0 a1 a2 a3 a4 a5 a6 a7
        obtain ⟨a0, a1, a2, a3, a4, a5, a6, a7⟩ := lies_addr H.out.a
        simp only [kA] at a0 a1 a2 a3 a4 a5 a6 a7
        go_wp2_with fail
        refine (kvall_nil _).mono ?_
        rintro ex u17 ⟨rfl, rfl⟩
        go_wp2_with fail
        refine (kvcopy_nil _).mono ?_
        rintro ex u18 ⟨rfl, rfl⟩
        have hr0 := H.out.r.cell 0
        simp only [List.getElem?_toArray, List.getElem?_cons_zero] at hr0
        have hf0 := H.out.r.frozen 0
        go_wp2_with fail
        have hD := HD.out
        simp only [World.size_alloc] at hD
        have hDn : D ≠ W.heap.size := by omega
        have hK2 : (u18.setCell ⟨W.heap.size, 0, none⟩ (.bool true)).heap[D]? = some (.deferred (some [])) := (Below.heap_setCell _ _ _ D hDn).trans HK.out
        have hr : Lies ((u18.setCell ⟨W.heap.size, 0, none⟩ (.bool true)).putObj D (.deferred none)) W.heap.size 4 #[.bool true] := (show Lies (u18.setCell ⟨W.heap.size, 0, none⟩ (.bool true)) W.heap.size 4 #[.bool true] from H.out.r.set 0 (.bool true)).kept (grownBy_putObj' _ D _) (fun e => hDn (by injection e with e; exact e.symm))
        have hc := hr.cell 0
        simp only [List.getElem?_toArray, List.getElem?_cons_zero] at hc
        have hB2 : Below W.heap.size W ((u18.setCell ⟨W.heap.size, 0, none⟩ (.bool true)).putObj D (.deferred none)) := (H.out.below.setCell (Nat.le_refl _) _).trans (belowK_b (w := W) (Nat.le_refl _) _ D _ _ (by omega) hK2 rfl rfl)
        refine ⟨by simp, .inl ⟨_, _, rfl, run_takeDeferred hK2, ?_⟩⟩
        refine ⟨_, results_cell1 rfl _ _ W.heap.size (.bool true) rfl ?_, rfl, hB2⟩
        simp [loadVar, go_sem, hc]
  · as_aux_lemma =>
      refine if_go rfl ?_
      refine wp_bsliceA kA _ rfl rfl ?_
      have hb : Below u4.heap.size u4 (u4.alloc (.cells kA.cs.toArray 24)) := (Below.refl _ _).alloc (Nat.le_refl _) _
      have HG := Lib.hid (showsA_lit u4 kA 1)
      replace H := Lib.hid (H.out.later hb)
      refine hKK.out _ _ H.out.a ?_
      clear hKK KK hb
      generalize u4.alloc (.cells kA.cs.toArray 24) = u19 at H HG ⊢
      generalize u4.heap.size = d19 at HG ⊢
      (try simp only [Act.put, List.setIfInBounds_toArray, List.set_cons_zero, List.set_cons_succ])
      repeat (first | (refine RP.t_take (v := ?_) rfl rfl (fun w' hw' => ?_) ?_; rotate_left; (focus ((obtain ⟨a0, a1, a2, a3, a4, a5, a6, a7⟩ := lies_addr hw'; simp only [kA] at a0 a1 a2 a3 a4 a5 a6 a7); go_simp; (try go_bits); (try (with_reducible rfl)))); (try simp only [Act.put, List.setIfInBounds_toArray, List.set_cons_zero, List.set_cons_succ])) | (refine RP.t_skip rfl rfl ?_; (try simp only [Act.put, List.setIfInBounds_toArray, List.set_cons_zero, List.set_cons_succ])))
      refine RP.t_run rfl (fun KK hKK => ?_)
      go_simp
      refine (sto_all H.out.s bd3 (by decide)).mono ?_
      rintro ex u20 ⟨vt, ts, rfl, hA, hR, hM, _, hb⟩
      have hts := all3 hR hM
      subst hts
      have hA2 := hA
      obtain ⟨st, ct, hvt, _⟩ := hA2
      subst hvt
      have HA := Lib.hid hA
      replace H := Lib.hid (H.out.later hb)
      replace HG := Lib.hid (HG.out.later hb)
      clear hA hR hM hb
      refine hKK.out _ _ H.out.a ?_
      clear hKK KK
      (try simp only [Act.put, List.setIfInBounds_toArray, List.set_cons_zero, List.set_cons_succ])
      repeat (first | (refine RP.t_take (v := ?_) rfl rfl (fun w' hw' => ?_) ?_; rotate_left; (focus ((obtain ⟨a0, a1, a2, a3, a4, a5, a6, a7⟩ := lies_addr hw'; simp only [kA] at a0 a1 a2 a3 a4 a5 a6 a7); go_simp; (try go_bits); (try (with_reducible rfl)))); (try simp only [Act.put, List.setIfInBounds_toArray, List.set_cons_zero, List.set_cons_succ])) | (refine RP.t_skip rfl rfl ?_; (try simp only [Act.put, List.setIfInBounds_toArray, List.set_cons_zero, List.set_cons_succ])))
      refine RP.t_run rfl (fun KK hKK => ?_)
      go_simp
      have hc := equal_any HA.out HG.out (by decide)
      rw [decide_eq_true (rfl : ([kA] : List A8) = [kA])] at hc
      replace hc := Lib.hid hc
      refine hc.out.mono ?_
      rintro ex u21 ⟨rfl, hb⟩
      replace H := Lib.hid (H.out.later hb)
      clear hc hb HA HG
      refine hKK.out _ _ H.out.a ?_
      clear hKK KK
      (try simp only [Act.put, List.setIfInBounds_toArray, List.set_cons_zero, List.set_cons_succ])
      repeat (first | (refine RP.t_take (v := ?_) rfl rfl (fun w' hw' => ?_) ?_; rotate_left; (focus ((obtain ⟨a0, a1, a2, a3, a4, a5, a6, a7⟩ := lies_addr hw'; simp only [kA] at a0 a1 a2 a3 a4 a5 a6 a7); go_simp; (try go_bits); (try (with_reducible rfl)))); (try simp only [Act.put, List.setIfInBounds_toArray, List.set_cons_zero, List.set_cons_succ])) | (refine RP.t_skip rfl rfl ?_; (try simp only [Act.put, List.setIfInBounds_toArray, List.set_cons_zero, List.set_cons_succ])))
      refine t_run1 rfl rfl (fun KK hKK => ?_)
      refine wp_made 65 (by decide) _ _ rfl rfl rfl (fun u22 hb hy => ?_)
      replace H := Lib.hid (H.out.later hb)
      have HY := Lib.hid hy
      clear hb hy
      refine hKK.out _ _ H.out.a ?_
      clear hKK KK
      (try simp only [Act.put, List.setIfInBounds_toArray, List.set_cons_zero, List.set_cons_succ])
      repeat (first | (refine RP.t_take (v := ?_) rfl rfl (fun w' hw' => ?_) ?_; rotate_left; (focus ((obtain ⟨a0, a1, a2, a3, a4, a5, a6, a7⟩ := lies_addr hw'; simp only [kA] at a0 a1 a2 a3 a4 a5 a6 a7); go_simp; (try go_bits); (try (with_reducible rfl)))); (try simp only [Act.put, List.setIfInBounds_toArray, List.set_cons_zero, List.set_cons_succ])) | (refine RP.t_skip rfl rfl ?_; (try simp only [Act.put, List.setIfInBounds_toArray, List.set_cons_zero, List.set_cons_succ])))
      refine RP.t_run rfl (fun KK hKK => ?_)
      go_simp
      have hc := sto_put H.out.s H.out.ho kA HY.out (byt_nil _ 0)
      rw [put_far (Or.inl len65), put_fars kA (Or.inl len65)] at hc
      replace hc := Lib.hid hc
      refine hc.out.mono ?_
      rintro ex u23 ⟨rfl, hs, hf⟩
      replace H := Lib.hid (H.out.owned hs hf)
      clear hc hs hf HY
      refine hKK.out _ _ H.out.a ?_
      clear hKK KK
      (try simp only [Act.put, List.setIfInBounds_toArray, List.set_cons_zero, List.set_cons_succ])
      repeat (first | (refine RP.t_take (v := ?_) rfl rfl (fun w' hw' => ?_) ?_; rotate_left; (focus ((obtain ⟨a0, a1, a2, a3, a4, a5, a6, a7⟩ := lies_addr hw'; simp only [kA] at a0 a1 a2 a3 a4 a5 a6 a7); go_simp; (try go_bits); (try (with_reducible rfl)))); (try simp only [Act.put, List.setIfInBounds_toArray, List.set_cons_zero, List.set_cons_succ])) | (refine RP.t_skip rfl rfl ?_; (try simp only [Act.put, List.setIfInBounds_toArray, List.set_cons_zero, List.set_cons_succ])))
      refine t_run1 rfl rfl (fun KK hKK => ?_)
      refine wp_made 1025 (by decide) _ _ rfl rfl rfl (fun u24 hb hy => ?_)
      replace H := Lib.hid (H.out.later hb)
      have HY := Lib.hid hy
      clear hb hy
      refine hKK.out _ _ H.out.a ?_
      clear hKK KK
      (try simp only [Act.put, List.setIfInBounds_toArray, List.set_cons_zero, List.set_cons_succ])
      repeat (first | (refine RP.t_take (v := ?_) rfl rfl (fun w' hw' => ?_) ?_; rotate_left; (focus ((obtain ⟨a0, a1, a2, a3, a4, a5, a6, a7⟩ := lies_addr hw'; simp only [kA] at a0 a1 a2 a3 a4 a5 a6 a7); go_simp; (try go_bits); (try (with_reducible rfl)))); (try simp only [Act.put, List.setIfInBounds_toArray, List.set_cons_zero, List.set_cons_succ])) | (refine RP.t_skip rfl rfl ?_; (try simp only [Act.put, List.setIfInBounds_toArray, List.set_cons_zero, List.set_cons_succ])))
      refine RP.t_run rfl (fun KK hKK => ?_)
      go_simp
      have hc := sto_put H.out.s H.out.ho kA (byt_nil _ 0) HY.out
      rw [put_far (Or.inr len1025), put_fars kA (Or.inr len1025)] at hc
      replace hc := Lib.hid hc
      refine hc.out.mono ?_
      rintro ex u25 ⟨rfl, hs, hf⟩
      replace H := Lib.hid (H.out.owned hs hf)
      clear hc hs hf HY
      refine hKK.out _ _ H.out.a ?_
      clear hKK KK
      (try simp only [Act.put, List.setIfInBounds_toArray, List.set_cons_zero, List.set_cons_succ])
      repeat (first | (refine RP.t_take (v := ?_) rfl rfl (fun w' hw' => ?_) ?_; rotate_left; (focus ((obtain ⟨a0, a1, a2, a3, a4, a5, a6, a7⟩ := lies_addr hw'; simp only [kA] at a0 a1 a2 a3 a4 a5 a6 a7); go_simp; (try go_bits); (try (with_reducible rfl)))); (try simp only [Act.put, List.setIfInBounds_toArray, List.set_cons_zero, List.set_cons_succ])) | (refine RP.t_skip rfl rfl ?_; (try simp only [Act.put, List.setIfInBounds_toArray, List.set_cons_zero, List.set_cons_succ])))
      refine RP.t_done ⟨rfl, ?_⟩
      obtain ⟨a0, a1, a2, a3, a4, a5, a6, a7⟩ := lies_addr H.out.a
      simp only [kA] at a0 a1 a2 a3 a4 a5 a6 a7
      go_wp2_with fail
      refine (kvget_nil _ kA _).mono ?_
      rintro ex u26 ⟨rfl, hb⟩
      replace H := Lib.hid (H.out.later hb)
      clear hb a0 a1 a2 a3 a4 a5 a6 a7
      have hlo := H.out.lo
      obtain ⟨a0, a1, a2, a3, a4, a5, a6, a7⟩ := lies_addr H.out.a
      simp only [kA] at a0 a1 a2 a3 a4 a5 a6 a7
      go_wp2_with fail
      refine (kvpairs_nil _ kA).mono ?_
      rintro ex u27 ⟨rfl, rfl⟩
      clear a0 a1 a2 a3 a4 a5 a6 a7
      go_wp2_with fail
      have hbz : Below u26.heap.size u26 ((u26.alloc (.cells #[.pointer none] 28)).alloc (.cells kA.cs.toArray 24)) := ((Below.refl _ _).alloc (Nat.le_refl _) _).alloc (by simp) _
      have h1z : Lies ((u26.alloc (.cells #[.pointer none] 28)).alloc (.cells kA.cs.toArray 24)) u26.heap.size 28 #[.pointer none] := (Lies.new u26 _ _).alloc _
      have h2z : Lies ((u26.alloc (.cells #[.pointer none] 28)).alloc (.cells kA.cs.toArray 24)) (u26.heap.size + 1) 24 kA.cs.toArray := by have := Lies.new (u26.alloc (.cells #[.pointer none] 28)) 24 kA.cs.toArray; rw [World.size_alloc] at this; exact this
      replace H := Lib.hid (H.out.later hbz)
      have HZ := Lib.hid (pairs_stops 8 _ _ kA _ h1z h2z)
      clear hbz h1z h2z
      refine (wpIn_wide (n := 9)).1 ?_
      refine wpIn_rangeFunc_ownH rfl (by decide) (gf := 77) (lb := #[.pointer (some ⟨u26.heap.size, 0, none⟩), .pointer (some ⟨u26.heap.size + 1, 0, none⟩)]) rfl trivial ePairs1
        (w0 := ((u26.alloc (.cells #[.pointer none] 28)).alloc (.cells kA.cs.toArray 24))) HZ.out walksK_t walksK_b (Below.refl _ _) (fun _ => rfl)
        (fun _ Wi => Below ((u26.alloc (.cells #[.pointer none] 28)).alloc (.cells kA.cs.toArray 24)).heap.size ((u26.alloc (.cells #[.pointer none] 28)).alloc (.cells kA.cs.toArray 24)) Wi) (fun _ _ _ => False) (ownFrom_below (Nat.le_refl _) (Nat.le_refl _)) (fun _ _ _ _ _ hs _ _ => hs) (Below.refl _ _)
        (fun _ _ _ => True) (fun _ _ _ _ _ _ _ _ _ => trivial) ?assign ?body ?done ?stop
      case assign =>
        rintro l pre x Wi K2 hI hK2
        gi_wp2
        exact hK2 _ _ ((KeepsOthers.refl _).from _) (KeepsWalks.refl _) hI trivial
      case body =>
        intro l pre x a' Wi _ _ _ _ hlt
        exact absurd hlt (by omega)
      case stop =>
        rintro D c pre Wi _ hs _ _
        exact hs.elim
      case done =>
        rintro D ys Wi hD hS hI hK
        have HK := Lib.hid hK
        replace H := Lib.hid (H.out.later hI)
        have HD := Lib.hid hD
        clear hD hS hI hK HZ
        obtain ⟨a0, a1, a2, a3, a4, a5, a6, a7⟩ := lies_addr H.out.a
        simp only [kA] at a0 a1 a2 a3 a4 a5 a6 a7
        go_wp2_with fail
        refine (kvput_nil _ kA _ _).mono ?_
        rintro ex u28 ⟨rfl, hb⟩
        replace HK := Lib.hid ((hb.block D (Array.getElem?_eq_some_iff.1 HK.out).1).trans HK.out)
        replace H := Lib.hid (H.out.later hb)
        clear hb a0 a1 a2 a3 a4 a5 a6 a7
        obtain ⟨a0, a1, a2, a3, a4, a5, a6, a7⟩ := lies_addr H.out.a
        simp only [kA] at a0 a1 a2 a3 a4 a5 a6 a7
        go_wp2_with fail
        refine (kvdel_nil _ kA _).mono ?_
        rintro ex u29 ⟨rfl, hb⟩
        replace HK := Lib.hid ((hb.block D (Array.getElem?_eq_some_iff.1 HK.out).1).trans HK.out)
        replace H := Lib.hid (H.out.later hb)
        clear hb a0 a1 a2 a3 a4 a5 a6 a7
        obtain ⟨a0, a1, a2, a3, a4, a5, a6, a7⟩ := lies_addr H.out.a
        simp only [kA] at a0 a1 a2 a3 a4 a5 a6 a7
        go_wp2_with fail
        refine (kvlist_nil _ kA).mono ?_
        rintro ex u30 ⟨rfl, hb⟩
        replace HK := Lib.hid ((hb.block D (Array.getElem?_eq_some_iff.1 HK.out).1).trans HK.out)
        replace H := Lib.hid (H.out.later hb)
        clear hb a0 a1 a2 a3 a4 a5 a6 a7
        obtain ⟨a0, a1, a2, a3, a4, a5, a6, a7⟩ := lies_addr H.out.a
        simp only [kA] at a0 a1 a2 a3 a4 a5 a6 a7
        go_wp2_with fail
        refine (kvall_nil _).mono ?_
        rintro ex u31 ⟨rfl, rfl⟩
        go_wp2_with fail
        refine (kvcopy_nil _).mono ?_
        rintro ex u32 ⟨rfl, rfl⟩
        have hr0 := H.out.r.cell 0
        simp only [List.getElem?_toArray, List.getElem?_cons_zero] at hr0
        have hf0 := H.out.r.frozen 0
        go_wp2_with fail
        have hD := HD.out
        simp only [World.size_alloc] at hD
        have hDn : D ≠ W.heap.size := by omega
        have hK2 : (u32.setCell ⟨W.heap.size, 0, none⟩ (.bool true)).heap[D]? = some (.deferred (some [])) := (Below.heap_setCell _ _ _ D hDn).trans HK.out
        have hr : Lies ((u32.setCell ⟨W.heap.size, 0, none⟩ (.bool true)).putObj D (.deferred none)) W.heap.size 4 #[.bool true] := (show Lies (u32.setCell ⟨W.heap.size, 0, none⟩ (.bool true)) W.heap.size 4 #[.bool true] from H.out.r.set 0 (.bool true)).kept (grownBy_putObj' _ D _) (fun e => hDn (by injection e with e; exact e.symm))
        have hc := hr.cell 0
        simp only [List.getElem?_toArray, List.getElem?_cons_zero] at hc
        have hB2 : Below W.heap.size W ((u32.setCell ⟨W.heap.size, 0, none⟩ (.bool true)).putObj D (.deferred none)) := (H.out.below.setCell (Nat.le_refl _) _).trans (belowK_b (w := W) (Nat.le_refl _) _ D _ _ (by omega) hK2 rfl rfl)
        refine ⟨by simp, .inl ⟨_, _, rfl, run_takeDeferred hK2, ?_⟩⟩
        refine ⟨_, results_cell1 rfl _ _ W.heap.size (.bool true) rfl ?_, rfl, hB2⟩
        simp [loadVar, go_sem, hc]
end Go.Proofs.Yteeghdkejnhjnaa.Kv
