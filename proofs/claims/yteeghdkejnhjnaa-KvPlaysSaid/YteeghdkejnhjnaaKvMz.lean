/- A range over a function whose iterator only makes new memory between the rounds, and offers with each round what is known of its value. Over any program. -/
import Derived.RangeFuncNested
import Derived.Test.YteeghdkejnhjnaaBx
import Derived.Test.YteeghdkejnhjnaaRt
import Derived.RangeFuncCalls
import Derived.OrdersIn
import Derived.Test.YteeghdkejnhjnaaKvA
import Derived.Test.YteeghdkejnhjnaaKvH
import Derived.Test.YteeghdkejnhjnaaKvK
import Derived.Test.YteeghdkejnhjnaaKvW
namespace Go.Proofs.Yteeghdkejnhjnaa.Kt
open Go Go.RowKit

variable {F : Fence} {n : Nat} {P : Program} {α : Type}

/-- AN ITERATOR THAT OFFERS: each round is called with an x of which 'Of' holds there; a round keeps what 'Kp' says; S tells what was handed on in all; between the rounds memory is made and nothing else. -/
def SeqOff (F : Fence) (n : Nat) (P : Program) (g : Nat) (lb : Array Value) (encs : α → Array Value) (Of : List α → α → World → Prop) (Kp : World → World → Prop) (S : List α → Prop) (w : World) : Prop :=
  ∀ (l : Nat) (J Jx : List α → World → Prop) (W : World), Below w.heap.size w W →
    (∀ s A B, J s A → Below A.heap.size A B → J s B) → (∀ s A B, Jx s A → Below A.heap.size A B → Jx s B) →
    (∀ pre x W1, J pre W1 → Of pre x W1 → YieldAt F (n - 1) P l (encs x) W1 fun e W' => (e = .returned (.bool true) ∧ J (pre ++ [x]) W' ∧ Kp W1 W') ∨ (e = .returned (.bool false) ∧ Jx (pre ++ [x]) W')) →
    J [] W → CallsIn F n P g (#[.func (.yield l) #[] #[]] ++ lb) W fun e W' => (∃ v, e = .returned v) ∧ ((∃ xs, S xs ∧ J xs W') ∨ (∃ pre, Jx pre W'))

/-- What a round leaves: the loop's own two blocks (from b on) as they lay; its invariant, and what it must keep, if it goes on. -/
def offPost (b : Nat) (Kp : World → World → Prop) (I : World → Prop) (Ix : Code → World → Prop) (W : World) : Exit → Act → World → Prop
  | .normal, _, W' => (W'.heap[b]? = W.heap[b]? ∧ W'.heap[b + 1]? = W.heap[b + 1]?) ∧ Kp W W' ∧ I W'
  | .ret, _, W' => (W'.heap[b]? = W.heap[b]? ∧ W'.heap[b + 1]? = W.heap[b + 1]?) ∧ Ix .ret W'
  | .exit id, _, W' => (W'.heap[b]? = W.heap[b]? ∧ W'.heap[b + 1]? = W.heap[b + 1]?) ∧ Ix (.exit id) W'
  | .goto t, _, W' => (W'.heap[b]? = W.heap[b]? ∧ W'.heap[b + 1]? = W.heap[b + 1]?) ∧ Ix (.goto t) W'
  | .panic _, _, _ => False
  | .outgrown, _, _ => False

theorem wpIn_rangeFunc_off {g : Operand} {ps : Array Tmp} {assign body : Code} {Q : Exit → Act → World → Prop} {a : Act} {w : World}
    (hro : F.round = none) (h1 : 1 ≤ n) {gf : Nat} {lb : Array Value} (hg : a.eval g = .func (.func gf) #[] lb) (hFg : F.fn gf) (eg : ∀ args w, (callFunc gf args).run P w = .ok (.enter gf args) w)
    {encs : α → Array Value} {Of : List α → α → World → Prop} {Kp : World → World → Prop} {S : List α → Prop} {w0 : World} (hseq : SeqOff F (n - 1) P gf lb encs Of Kp S w0) (hb0 : Below w0.heap.size w0 w) (hps : ∀ x, (encs x).size = ps.size)
    (I : List α → World → Prop) (Ix : Code → List α → World → Prop) (hI : ∀ s A B, I s A → Below A.heap.size A B → I s B) (hIx : ∀ c s A B, Ix c s A → Below A.heap.size A B → Ix c s B)
    (hIp : ∀ s A l o o', I s A → w.heap.size ≤ l → l < w.heap.size + 2 → A.heap[l]? = some o → o.isCells = false → o.isWalk = false → I s (A.putObj l o'))
    (hIxp : ∀ c s A l o o', Ix c s A → w.heap.size ≤ l → l < w.heap.size + 2 → A.heap[l]? = some o → o.isCells = false → o.isWalk = false → Ix c s (A.putObj l o'))
    (hOp : ∀ s x A l o o', Of s x A → A.heap[l]? = some o → o.isCells = false → o.isWalk = false → Of s x (A.putObj l o'))
    (hKt : ∀ {A B C : World}, Kp A B → Kp B C → Kp A C) (hKp : ∀ A l o o', A.heap[l]? = some o → o.isCells = false → o.isWalk = false → Kp A (A.putObj l o'))
    (h0 : I [] w) (a1 : α → Act)
    (hassign : ∀ (l : Nat) (x : α) (W : World) (K : Act → World → Prop), K (a1 x) W →
      assign.wpIn (F.inRound l) (n - 1 - 1) P (Exit.then K (fun _ _ _ => False)) { tmps := (ps.zip (encs x)).foldl (fun t (p, v) => t.setIfInBounds p v) a.tmps, defers := [] } W)
    (hbody : ∀ (l : Nat) (pre : List α) (x : α) (W : World), w.heap.size + 2 ≤ W.heap.size → I pre W → Of pre x W → body.wpIn (F.inRound l) (n - 1 - 1) P (offPost w.heap.size Kp (I (pre ++ [x])) (fun c => Ix c (pre ++ [x])) W) (a1 x) W)
    (hdone : ∀ (xs : List α) (W : World), S xs → I xs W → W.heap[w.heap.size]? = some (.deferred (some [])) → Q .normal { a with defers := { target := .collected w.heap.size, args := #[] } :: a.defers } W)
    (hstop : ∀ (c : Code) (pre : List α) (W : World), Ix c pre W → W.heap[w.heap.size]? = some (.deferred (some [])) → c.wpIn F n P Q { a with defers := { target := .collected w.heap.size, args := #[] } :: a.defers } W) :
    (Code.rangeFunc g ps assign body).wpIn F n P Q a w := by
  refine wpIn_rangeFunc fun fn hfn => ?_
  rw [hro]
  obtain ⟨b, hb⟩ : ∃ b, b = w.heap.size := ⟨_, rfl⟩
  obtain ⟨R, hR⟩ : ∃ R : LoopState → Option Code → Loop, R = fun st pe => { state := st, pending := pe, fn, tmps := a.tmps, params := ps, assign, body, defers := w.heap.size } := ⟨_, rfl⟩
  obtain ⟨W1, hW1⟩ : ∃ W1, W1 = (w.alloc (.deferred (some []))).alloc (.loop (R .ready none)) := ⟨_, rfl⟩
  have hbelow : Below w.heap.size w W1 := hW1 ▸ (((Below.refl _ w).alloc (Nat.le_refl _) _).alloc (by simp) _)
  have hlay : W1.heap[b]? = some (.deferred (some [])) ∧ W1.heap[b + 1]? = some (.loop (R .ready none)) := by
    rw [hW1, hb]
    have e2 := World.alloc_heap_new (w.alloc (.deferred (some []))) (.loop (R .ready none))
    rw [World.size_alloc] at e2
    exact ⟨(Below.heap_alloc _ _ _ (by simp)).trans (World.alloc_heap_new w _), e2⟩
  have lt_of : ∀ {A : World} {k : Nat} {o : Obj}, A.heap[k]? = some o → k < A.heap.size := fun h => (Array.getElem?_eq_some_iff.1 h).1
  refine ⟨w.heap.size + 1, [{ target := .collected w.heap.size, args := #[] }], W1, { target := .fn (.func gf) lb, args := #[.func (.yield (w.heap.size + 1)) #[] #[]] }, W1, gf, #[.func (.yield (w.heap.size + 1)) #[] #[]] ++ lb, W1, ?_, ?_, ?_, ?_, fun _ => h1, ?_⟩
  · rw [hW1, hR]; exact run_enterLoop_outer _ _ _ _ _
  · simp only [resolve, hg]; simp [go_sem]
  · intro f' hf'
    simp [Target.leads] at hf'
    subst hf'
    exact hFg
  · simp [invoke, go_sem, eg]
  rw [← hb] at hdone hstop hbody hIp hIxp ⊢
  refine (hseq (b + 1) (fun pre W => I pre W ∧ W.heap[b + 1]? = some (.loop (R .ready none)) ∧ W.heap[b]? = some (.deferred (some [])))
    (fun pre W => ∃ c, Ix c pre W ∧ W.heap[b + 1]? = some (.loop (R .done (some c))) ∧ W.heap[b]? = some (.deferred (some []))) W1 (hb0.trans (hbelow.mono hb0.size))
    (fun s A B h hAB => ⟨hI s A B h.1 hAB, (hAB.block _ (lt_of h.2.1)).trans h.2.1, (hAB.block _ (lt_of h.2.2)).trans h.2.2⟩)
    (fun s A B h hAB => by obtain ⟨c, h1, h2, h3⟩ := h; exact ⟨c, hIx c s A B h1 hAB, (hAB.block _ (lt_of h2)).trans h2, (hAB.block _ (lt_of h3)).trans h3⟩) ?_ ⟨hI _ _ _ h0 hbelow, hlay.2, hlay.1⟩).mono ?_
  · rintro pre x W ⟨hi, hl, hd⟩ hof
    have hlt := lt_of hl
    have hy := run_yield (P := P) (args := encs x) hl (by rw [hR]; exact hps x)
    rw [hR] at hy
    refine ⟨fn, _, assign, body, hy, roundIn_of_wpIn hfn (hassign _ x W _ ⟨_, run_beginRound hl (by rw [hR]), ?_⟩)⟩
    clear hy
    obtain ⟨V, hV⟩ : ∃ V, V = W.putObj (b + 1) (.loop { R .ready none with state := .busy }) := ⟨_, rfl⟩
    rw [← hV]
    have hlV : V.heap[b + 1]? = some (.loop { R .ready none with state := .busy }) := hV ▸ World.putObj_heap_same hlt
    have hdV : V.heap[b]? = some (.deferred (some [])) := hV ▸ ((World.putObj_heap_other (by omega)).trans hd)
    have hKV : Kp W V := hV ▸ hKp _ _ _ _ hl rfl rfl
    have hsz : b + 2 ≤ V.heap.size := by have := lt_of hlV; omega
    refine wpIn_mono (hbody _ pre x V hsz (hV ▸ hIp _ _ _ _ _ hi (by omega) (by omega) hl rfl rfl) (hV ▸ hOp _ _ _ _ _ _ hof hl rfl rfl)) ?_
    have fin : ∀ (jump : Option Code) (X : World), (X.heap[b]? = V.heap[b]? ∧ X.heap[b + 1]? = V.heap[b + 1]?) →
        (Instr.endRound (b + 1) jump).run P X = .ok (.bool jump.isNone) (X.putObj (b + 1) (.loop (R (if jump.isNone then .ready else .done) jump))) ∧ X.heap[b + 1]? = some (.loop { R .ready none with state := .busy }) ∧
        (X.putObj (b + 1) (.loop (R (if jump.isNone then .ready else .done) jump))).heap[b + 1]? = some (.loop (R (if jump.isNone then .ready else .done) jump)) ∧
        (X.putObj (b + 1) (.loop (R (if jump.isNone then .ready else .done) jump))).heap[b]? = some (.deferred (some [])) := fun jump X hX => by
      have hlX := hX.2.trans hlV
      have hr := run_endRound (P := P) jump hlX
      refine ⟨?_, hlX, World.putObj_heap_same (lt_of hlX), (World.putObj_heap_other (by omega)).trans (hX.1.trans hdV)⟩
      rw [hR] at hr ⊢
      exact hr
    rintro e a3 X hp
    cases e with
    | normal =>
      obtain ⟨hX, hk, hi3⟩ := hp
      obtain ⟨f1, f2, f3, f4⟩ := fin none X hX
      exact ⟨_, _, f1, .inl ⟨rfl, ⟨hIp _ _ _ _ _ hi3 (by omega) (by omega) f2 rfl rfl, f3, f4⟩, hKt hKV (hKt hk (hKp _ _ _ _ f2 rfl rfl))⟩⟩
    | ret =>
      obtain ⟨hX, hi3⟩ := hp
      obtain ⟨f1, f2, f3, f4⟩ := fin (some .ret) X hX
      exact ⟨_, _, f1, .inr ⟨rfl, .ret, hIxp _ _ _ _ _ _ hi3 (by omega) (by omega) f2 rfl rfl, f3, f4⟩⟩
    | exit id =>
      obtain ⟨hX, hi3⟩ := hp
      obtain ⟨f1, f2, f3, f4⟩ := fin (some (.exit id)) X hX
      exact ⟨_, _, f1, .inr ⟨rfl, .exit id, hIxp _ _ _ _ _ _ hi3 (by omega) (by omega) f2 rfl rfl, f3, f4⟩⟩
    | goto t =>
      obtain ⟨hX, hi3⟩ := hp
      obtain ⟨f1, f2, f3, f4⟩ := fin (some (.goto t)) X hX
      exact ⟨_, _, f1, .inr ⟨rfl, .goto t, hIxp _ _ _ _ _ _ hi3 (by omega) (by omega) f2 rfl rfl, f3, f4⟩⟩
    | panic c => exact hp.elim
    | outgrown => exact hp.elim
  · rintro e W2 ⟨⟨v, rfl⟩, (⟨xs, hS, hi, hl, hd⟩ | ⟨pre, c, hi, hl, hd⟩)⟩
    · have he := run_endLoop (P := P) hl (by rw [hR]; simp)
      refine ⟨none, _, by rw [hR] at he; exact he, ?_⟩
      exact hdone xs _ hS (hIp _ _ _ _ _ hi (by omega) (by omega) hl rfl rfl) ((World.putObj_heap_other (by omega)).trans hd)
    · have he := run_endLoop (P := P) hl (by rw [hR]; simp)
      refine ⟨some c, _, by rw [hR] at he; exact he, ?_⟩
      exact hstop c pre _ (hIxp _ _ _ _ _ _ hi (by omega) (by omega) hl rfl rfl) ((World.putObj_heap_other (by omega)).trans hd)
end Go.Proofs.Yteeghdkejnhjnaa.Kt

/- A region that draws its order in the body of a range over a function: what the plans (RP) show of it outside a round holds within. Over any program. -/
namespace Go.Proofs.Yteeghdkejnhjnaa.Kt
open Go Go.RowKit

variable {P : Program} {ops : Array Oper} {Q : Exit → Act → World → Prop} {n : Nat}
theorem op_round (l : Nat) {o : Oper} {a : Act} {w : World} {K : Act → World → Prop} (hd : ∀ c, o.op ≠ .defer c) (h : Oper.wp P o a w K Q) : Oper.wpIn (Fence.wide.inRound l) n P o a w K Q := by
  refine ⟨fun _ _ => trivial, ?_⟩
  rw [Oper.semAt_eq _ _ _ hd]
  unfold Oper.wp at h
  generalize (execOp a.eval o).run P w = r at *
  cases r with
  | ok x w' =>
    cases x with
    | value v => exact h
    | skip => exact h
    | defer d => exact h
    | enter f args => exact ⟨fun e => by simp [Fence.wide] at e, CallsIn.inRound l (callsIn_wide.2 h)⟩
    | row r args =>
      refine ⟨fun e => by simp [Fence.wide] at e, fun c cs _ => ?_⟩
      obtain ⟨v, w'', hr, hs⟩ := h c cs
      exact ⟨v, w'', hr, stepsIn_wide.2 hs⟩
    | _ => exact h.elim
  | halt x w' =>
    cases x <;> exact h

def noDefer (ops : Array Oper) : Bool := ops.all fun o => match o.op with | .defer _ => false | _ => true
theorem noDefer_spec (h : noDefer ops = true) {i : Nat} {o : Oper} (hi : ops[i]? = some o) : ∀ c, o.op ≠ .defer c := by
  intro c hc
  have := (Array.all_eq_true_iff_forall_mem.1 h) o (Array.mem_of_getElem? hi)
  rw [hc] at this
  cases this
theorem wpAny_round (l : Nat) (hd : noDefer ops = true) (hL : ¬ LetsOut Q) : ∀ (m : Nat) (L : Array Bool) (a : Act) (w : World), wpAny P .any ops Q m L a w → wpAnyIn (Fence.wide.inRound l) n P .any ops Q m L a w
  | 0, _, _, _, h => h
  | m + 1, L, a, w, h => by
    refine ⟨h.1, fun i hi => ?_⟩
    have h2 := h.2 i hi
    unfold wpOp at h2
    unfold wpOpIn
    split
    · rename_i ho
      simp only [ho] at h2
      exact wpAny_round l hd hL m _ _ _ h2
    · rename_i o ho
      simp only [ho] at h2
      split
      · rename_i hw
        simp only [hw, if_true] at h2
        rcases h2 with h2 | h2
        · exact Oper.wpIn_mono (fun a w => wpAny_round l hd hL m _ a w) (op_round l (noDefer_spec hd ho) h2)
        · exact absurd h2.2 hL
      · rename_i hw
        simp only [hw] at h2
        exact ⟨fun _ _ => trivial, wpAny_round l hd hL m _ _ _ h2⟩

/-- THE REGION WITHIN A ROUND, ALONG A PLAN. -/
theorem RP.region_round {l : Nat} {id : Nat} {a : Act} {w : World} (p : RP) (S : World → Prop) (hm : P.follows .mixedOrders = true)
    (hok : (Region.noSelect ops && (p.ok ops (Array.replicate ops.size false) && decide (p.size ≤ ops.size))) = true) (hd : noDefer ops = true) (hL : ¬ LetsOut Q)
    (hQ : ∀ (c : List PanicEntry) (a : Act) (d : Option Tmp) (v : Value) (w : World), Q (.panic c) (a.put d v) w → Q (.panic c) a w)
    (hS : S w.drew) (h : S w.drew → p.go P ops Q S a w.drew) : (Code.region id ops true).wpIn (Fence.wide.inRound l) n P Q a w := by
  simp only [Bool.and_eq_true, decide_eq_true_eq] at hok
  exact wpIn_region_any hm (wpAny_round l hd hL _ _ _ _ (wpAny_of_held _ _ _ _ (RP.held hok.1 hQ p _ _ _ _ hok.2.2 hok.2.1 hS (h hS))))
end Go.Proofs.Yteeghdkejnhjnaa.Kt

/- The walk of a store's Copy: a new map of new maps; the values' bytes are the old one's. -/
namespace Go.Proofs.Yteeghdkejnhjnaa.Kv
open Go Go.RowKit Kt Ad Bo

/-- What is one's own and no map, or new. -/
def OwnC (W : World) (own : Nat → Prop) (i : Nat) : Prop := (own i ∧ ∀ es c, W.heap[i]? ≠ some (.map es c)) ∨ W.heap.size ≤ i
section
variable {W W' : World} {own own2 : Nat → Prop} {bl bo : Nat} {O : Os}
/-- An address has a map that is there. -/
theorem Kv.addK (h : Kv W own bl bo O) {a : A8} (e : get O a = none) {m : Nat} {K : Vs} (hK : KMap W m (K.map ikv)) (hb : ∀ c ∈ K, Bts W own c.2.1 c.2.2) (hom : own m) (hne : m ≠ bo) (hnm : ∀ p ∈ O, p.2.1 ≠ m) (hf : Fr W W' (fun i => i = bo)) (hm : Kt.IsMap A8.v W' bo (putAt (O.map okv) a (.map (some m)))) : Kv W' own bl bo (put O a (m, K)) := by
  have hm' : Kt.IsMap A8.v W' bo ((put O a (m, K)).map okv) := by
    unfold putAt at hm
    rw [strike_okv] at hm
    exact hm
  have hty : ∀ k, k = bo → ∀ cur, ¬ Lies W k 5 cur := fun k e cur hl => IsMap.not_lies h.map (e ▸ hl)
  refine ⟨lies_fr h.cell hf h.ne, hm', fun p hp => ?_, fun p hp c hc => ?_, fun p hp => ?_, ?_, h.obl, h.obo⟩
  · rcases List.mem_cons.1 hp with rfl | hp
    · exact hK.fr hf hne
    · exact (h.vals p (mem_cut.1 hp).1).fr hf (h.own' p (mem_cut.1 hp).1).2
  · rcases List.mem_cons.1 hp with rfl | hp
    · exact (hb c hc).kept_ty hf hty
    · exact (h.bts p (mem_cut.1 hp).1 c hc).kept_ty hf hty
  · rcases List.mem_cons.1 hp with rfl | hp
    · exact ⟨hom, hne⟩
    · exact h.own' p (mem_cut.1 hp).1
  · unfold put
    rw [cut_none e, List.map_cons, List.nodup_cons]
    exact ⟨fun hx => by obtain ⟨p, hp, e'⟩ := List.mem_map.1 hx; exact hnm p hp e', h.apart⟩
/-- Bytes that are one's own are in no map's block. -/
theorem bts_no_map {v : Value} {b : Bs} (h : Bts W own v b) : Bts W (OwnC W own) v b := by
  refine ⟨h.1, fun g e => Or.inl ⟨h.2 g e, fun es c hh => ?_⟩⟩
  rcases h.1.2 with ⟨e1, _⟩ | ⟨g', cap, cur, e1, _, hg, _⟩
  · rw [e1] at e; cases e
  · rw [e1] at e
    injection e with e
    subst e
    rw [hh] at hg
    cases hg
end
theorem clone_bytes {W : World} {b : Nat} {L : List (Bs × Value)} (h : KMap W b L) :
    Calls Try.prog 78 #[.map (some b)] W fun e w' => e = .returned (.map (some W.heap.size)) ∧ KMap w' W.heap.size L ∧ Below W.heap.size W w' := by
  obtain ⟨L', rfl, h⟩ := h
  refine (clone_kv h).mono ?_
  rintro e w' ⟨rfl, h1, o, rfl⟩
  exact ⟨rfl, ⟨L', rfl, h1⟩, (Below.refl _ _).alloc (Nat.le_refl _) _⟩

def CopyP (W : World) (own : Nat → Prop) (O : Os) (e : Ending) (w' : World) : Prop := ∃ bl2 bo2 O2, e = .returned (.pointer (some ⟨bl2, 0, none⟩)) ∧ Kv w' (OwnC W own) bl2 bo2 O2 ∧ (∀ p ∈ O2, ∃ m, (p.1, (m, p.2.2)) ∈ O) ∧ (O2.map (·.1)).Perm (O.map (·.1)) ∧ Below W.heap.size W w'
set_option maxRecDepth 100000 in
set_option maxHeartbeats 4000000 in
theorem kvcopy_any {W : World} {own : Nat → Prop} {bl bo : Nat} {O : Os} (h : Kv W own bl bo O) :
    Calls Try.prog 42 #[.pointer (some ⟨bl, 0, none⟩)] W (CopyP W own O) := by
  have H := Lib.hid h
  clear h
  go_enter Try.func42, Try.ntmps42
  go_wp2_with fail
  refine (kvnew_any W).mono ?_
  rintro en w1 ⟨bl2, bo2, rfl, hk1, hb1⟩
  have HB1 := Lib.hid hb1
  have HK1 := Lib.hid (hk1.mono (own2 := OwnC W own) (fun i _ hi => Or.inr hi))
  have HLO := Lib.hid (show W.heap.size ≤ bl2 ∧ W.heap.size ≤ bo2 from ⟨hk1.obl, hk1.obo⟩)
  have H1 := Lib.hid (H.out.later hb1)
  have hc := H1.out.cell.cell 0
  simp only [List.getElem?_toArray, List.getElem?_cons_zero] at hc
  have HM1 := Lib.hid H1.out.map
  clear hk1 hb1
  go_wp2_with (refine wpl_range Try.underlying103 HM1.out _ rfl rfl rfl ?_)
  intro w2 hrg hg2 hs2
  have hb2 : Below w1.heap.size w1 w2 := ⟨hg2.os, hg2.tape, hg2.output, hg2.size, fun k hk => hg2.block k hk (by simp)⟩
  have HRG := Lib.hid hrg
  have HB2 := Lib.hid (HB1.out.trans (hb2.mono HB1.out.size))
  have HK2 := Lib.hid (HK1.out.later hb2)
  have hrW : W.heap.size ≤ w1.heap.size := HB1.out.size
  have HRN := Lib.hid (show ¬ OwnC W own w1.heap.size ∨ w1.heap.size ≠ bo2 from Or.inr (fun e => by have := HK1.out.map.lt; omega))
  have hne : w1.heap.size ≠ bo2 := fun e => by have := HK1.out.map.lt; omega
  have hne2 : w1.heap.size ≠ bl2 := fun e => by have := HK1.out.cell.lt; omega
  have hnv : ∀ es c, w2.heap[w1.heap.size]? ≠ some (.map es c) := fun es c hh => by
    obtain ⟨es', clock, since, seen, c0, _, a2, _⟩ := hrg.it
    rw [hh] at a2
    cases a2
  generalize w1.heap.size = r at HRG hrW hne hne2 hnv ⊢
  have HNE := Lib.hid (And.intro hne hne2)
  clear HM1 H1 hc HB1 HK1 hrg hg2 hs2 hb2 HRN hne hne2 hnv
  go_wp2_with fail
  go_loopw [5] (fun _ wr => ∃ (left : List (A8 × Value)) (O2 : Os), Ranging A8.v wr bo r (O.map okv) left ∧ Kv wr (OwnC W own) bl2 bo2 O2 ∧ (∀ p ∈ O2, ∃ m, (p.1, (m, p.2.2)) ∈ O) ∧ (O2.map (·.1) ++ left.map (·.1)).Perm (O.map (·.1)) ∧ Below W.heap.size W wr)
    (fun _ wr => wr.rangeLeft bo r)
  case atStart => exact ⟨O.map okv, [], HRG.out, HK2.out, by simp, by rw [List.map_map]; exact List.Perm.refl _, HB2.out⟩
  case round =>
    clear HRG HK2 HB2
    obtain ⟨left, O2, hrg, hk, hO, hperm, hB⟩ := hrel
    have HRG := Lib.hid hrg
    have HK := Lib.hid hk
    have HO := Lib.hid hO
    have HP := Lib.hid hperm
    have HB := Lib.hid hB
    clear hk hO hperm hB
    go_wp2_with (refine wpl_next hrg _ rfl rfl rfl ?_ ?_)
    · intro hd
      clear hrg
      subst hd
      have HP2 := Lib.hid (show (O2.map (·.1)).Perm (O.map (·.1)) from by have := HP.out; simpa using this)
      go_wp2_with fail
      go_ret
      exact ⟨bl2, bo2, O2, rfl, HK.out, HO.out, HP2.out, HB.out⟩
    · intro x v left' w3 hp hrg3 hg3 hs3 hen
      obtain ⟨p, hpO, hpe⟩ := List.mem_map.1 (HRG.out.sub _ (hp.mem_iff.2 List.mem_cons_self))
      obtain ⟨pa, m, K⟩ := p
      unfold okv at hpe
      injection hpe with e1 e2
      simp only at e1 e2
      subst e1 e2
      have hf3 : Fr wr w3 (fun i => i = r) := (Fr.of_grown hg3).mono (fun i _ e => by injection e)
      have hro : ∀ es c, wr.heap[r]? ≠ some (.map es c) := fun es c hh => by
        obtain ⟨es', clock, since, seen, c0, _, a2, _⟩ := HRG.out.it
        rw [hh] at a2
        cases a2
      have hrc : ∀ cur t fr, wr.heap[r]? ≠ some (.cells cur t fr) := fun cur t fr hh => by
        obtain ⟨es', clock, since, seen, c0, _, a2, _⟩ := HRG.out.it
        rw [hh] at a2
        cases a2
      have hB3 := HB.out.grown hg3 HB.out.size (fun k hk => by injection hk with hk; omega)
      have hk3 : Kv w3 (OwnC W own) bl2 bo2 O2 := ⟨lies_fr HK.out.cell hf3 (fun e => HNE.out.2 e.symm), map_fr HK.out.map hf3 (fun e => HNE.out.1 e.symm), fun q hq => (HK.out.vals q hq).fr hf3 (fun e => by
          obtain ⟨es, c, hh⟩ := (HK.out.vals q hq).block
          exact hro es c (e ▸ hh)), fun q hq c hc => (HK.out.bts q hq c hc).kept_ty hf3 (fun k e cur hl => hrc cur _ _ (e ▸ hl)), HK.out.own', HK.out.apart, HK.out.obl, HK.out.obo⟩
      have HK3 := Lib.hid hk3
      have HB3 := Lib.hid hB3
      have HRG3 := Lib.hid hrg3
      have HPP := Lib.hid hp
      have HPO := Lib.hid hpO
      have HLE := Lib.hid HRG.out.left_eq
      have hll : left.length = left'.length + 1 := by simpa using hp.length_eq
      clear hrg hg3 hs3 hrg3 hp hpO hf3 hro hrc hB3 hk3 HK HB HRG
      simp only [A8.v] at hen ⊢
      go_wp2_with fail
      obtain ⟨W1, hW1⟩ : ∃ W1, W1 = w3.alloc (.cells pa.cs.toArray 24) := ⟨_, rfl⟩
      have hA1 : Lies W1 w3.heap.size 24 pa.cs.toArray := hW1 ▸ Lies.new w3 _ _
      have hB1 : Below w3.heap.size w3 W1 := hW1 ▸ (Below.refl _ _).alloc (Nat.le_refl _) _
      have hK1 := HK3.out.later hB1
      have HRG4 := Lib.hid (HRG3.out.of_blocks (hB1.block _ HRG3.out.map.lt) (hB1.block _ HRG3.out.lt))
      have HB4 := Lib.hid (HB3.out.trans (hB1.mono HB3.out.size))
      have HAW := Lib.hid (show W.heap.size ≤ w3.heap.size from HB3.out.size)
      rw [show w3.alloc (.cells #[.int .u8 pa.x0.toNat, .int .u8 pa.x1.toNat, .int .u8 pa.x2.toNat, .int .u8 pa.x3.toNat, .int .u8 pa.x4.toNat, .int .u8 pa.x5.toNat, .int .u8 pa.x6.toNat, .int .u8 pa.x7.toNat] 24) = W1 from hW1.symm]
      have HV1 := Lib.hid (show KMap W1 m (K.map ikv) from (H.out.later HB4.out).vals _ HPO.out)
      have HAB := Lib.hid (show w3.heap.size ≠ bo2 from fun e => by have := HK3.out.map.lt; omega)
      generalize w3.heap.size = ab at hA1 HAW HAB ⊢
      clear hW1 hen HRG3 HB3 HK3
      refine RP.region (RP.take 0 (RP.take 1 (RP.take 2 (RP.take 3 (RP.take 4 (RP.take 5 (RP.run 6 (RP.run 7 RP.done)))))))) (fun w' => Lies w' bl2 105 #[.map (some bo2)] ∧ Lies w' ab 24 pa.cs.toArray ∧ True) (by as_aux_lemma => kernel_rfl) (by as_aux_lemma => kernel_rfl) (fun _ _ d _ _ h => by cases d <;> exact h) ⟨hK1.cell.drew, hA1.drew, trivial⟩ (fun hS => ?_)
      have HK5 := Lib.hid hK1.drew
      have HRG5 := Lib.hid HRG4.out.drew
      have HB5 := Lib.hid HB4.out.drew
      have HV5 := Lib.hid (HV1.out.of_block (W' := W1.drew) rfl)
      generalize W1.drew = V at hS HK5 HRG5 HB5 HV5 ⊢
      clear hA1 hB1 hK1 HRG4 HB4 HV1
      repeat (first | (refine RP.t_take (v := ?_) rfl rfl (fun w' hw' => ?_) ?_; rotate_left; (focus ((obtain ⟨hLf, hAf, hBx⟩ := hw'; obtain ⟨a0, a1, a2, a3, a4, a5, a6, a7⟩ := lies_addr hAf; have hc := hLf.cell 0; simp only [List.getElem?_toArray, List.getElem?_cons_zero] at hc); go_simp; (try go_bits); (try (with_reducible rfl)))); (try simp only [Act.put, List.setIfInBounds_toArray, List.set_cons_zero, List.set_cons_succ])) | (refine RP.t_skip rfl rfl ?_; (try simp only [Act.put, List.setIfInBounds_toArray, List.set_cons_zero, List.set_cons_succ])))
      refine RP.t_run rfl (fun KK hKK => ?_)
      go_simp
      refine (clone_bytes HV5.out).mono ?_
      rintro ex V1 ⟨rfl, hm6, hb6⟩
      have hS6 := And.intro (hS.1.below hb6 hS.1.lt) (And.intro (hS.2.1.below hb6 hS.2.1.lt) trivial)
      have HK6 := Lib.hid (HK5.out.later hb6)
      have HRG6 := Lib.hid (HRG5.out.of_blocks (hb6.block _ HRG5.out.map.lt) (hb6.block _ HRG5.out.lt))
      have HB6 := Lib.hid (HB5.out.trans (hb6.mono HB5.out.size))
      have HM6 := Lib.hid hm6
      have HMN := Lib.hid (show (∀ q ∈ O2, q.2.1 ≠ V.heap.size) ∧ V.heap.size ≠ bo2 ∧ W.heap.size ≤ V.heap.size from ⟨fun q hq e => by have := (HK5.out.vals q hq).lt; omega, fun e => by have := HK5.out.map.lt; omega, HB5.out.size⟩)
      generalize V.heap.size = m2 at HM6 HMN hKK ⊢
      refine hKK.out _ _ hS6 ?_
      clear hKK KK hb6 hm6 hS HK5 HRG5 HB5 HV5
      (try simp only [Act.put, List.setIfInBounds_toArray, List.set_cons_zero, List.set_cons_succ])
      refine t_run1 rfl rfl (fun KK hKK => ?_)
      refine wp_mapset encAddr Try.underlying103 HK6.out.map pa _ _ _ rfl rfl rfl (.map (some m2)) rfl ?_
      intro V2 m1 g1 s1
      have hf : Fr V1 V2 (fun i => i = bo2) := (Fr.of_grown g1).mono (fun k _ e => by injection e)
      have hnone : get O2 pa = none := get_none.2 (fun q hq e => by
        have hnd : (O.map (·.1)).Nodup := H.out.one
        have h1 := HPP.out.map (·.1)
        have h2 := (List.Perm.append_left (O2.map (·.1)) h1).symm.trans HP.out
        have h3 := h2.nodup_iff.2 hnd
        rw [List.nodup_append] at h3
        exact h3.2.2 _ (List.mem_map.2 ⟨q, hq, e⟩) _ (by rw [List.map_cons]; exact List.mem_cons_self) rfl)
      have hk7 := HK6.out.addK hnone HM6.out (fun c hc => ((bts_no_map (H.out.bts _ HPO.out c hc)).kept (m := fun _ => False) (Fr.of_below HB6.out _) (fun _ _ h => h))) (Or.inr HMN.out.2.2) HMN.out.2.1 HMN.out.1 hf m1
      have hbm : ∀ k, k = bo2 → W.heap.size ≤ k := fun k e => by rw [e]; exact HLO.out.2
      have HK7 := Lib.hid hk7
      have HRG7 := Lib.hid (HRG6.out.kept g1 (fun e => by
        injection e with e
        have h1 := H.out.map.lt
        have h2 := HLO.out.2
        omega) (fun e => by injection e with e; exact HNE.out.1 e))
      have HB7 := Lib.hid (HB6.out.grown g1 HB6.out.size (fun k hk => by injection hk with hk; exact hbm _ hk.symm))
      refine hKK.out _ _ ⟨lies_fr hS6.1 hf HK6.out.ne, lies_fr hS6.2.1 hf HAB.out, trivial⟩ ?_
      clear hKK KK m1 g1 s1 hf hk7 HK6 HRG6 HB6 hS6 hbm
      simp only [Act.put]
      refine RP.t_done ?_
      have HLE2 := Lib.hid HRG7.out.left_eq
      go_wp2_with fail
      go_roundw
      case rel =>
        refine ⟨left', put O2 pa (m2, K), HRG7.out, HK7.out, fun q hq => ?_, ?_, HB7.out⟩
        · rcases List.mem_cons.1 hq with rfl | hq
          · exact ⟨m, HPO.out⟩
          · exact HO.out q (mem_cut.1 hq).1
        · unfold put
          rw [cut_none hnone]
          have h1 := HPP.out.map (·.1)
          have h2 := (List.Perm.append_left (O2.map (·.1)) h1).symm.trans HP.out
          rw [List.map_cons] at h2 ⊢
          exact (List.perm_middle.symm.trans (List.Perm.refl _)).trans h2
      case measure => rw [HLE2.out, HLE.out]; omega

theorem sto_copy {W : World} {own : Nat → Prop} {bl : Nat} {g : St} (h : Sto W own bl g) :
    Calls Try.prog 42 #[.pointer (some ⟨bl, 0, none⟩)] W fun e w' => ∃ bl2, e = .returned (.pointer (some ⟨bl2, 0, none⟩)) ∧ Sto w' (OwnC W own) bl2 g ∧ Below W.heap.size W w' := by
  obtain ⟨bo, O, h1, h2, rfl⟩ := h
  refine (kvcopy_any h1).mono ?_
  rintro e w' ⟨bl2, bo2, O2, rfl, hk, hO, hp, hb⟩
  refine ⟨bl2, rfl, ⟨bo2, O2, hk, fun p hp' => ?_, ?_⟩, hb⟩
  · obtain ⟨m, hm⟩ := hO p hp'
    exact h2 (p.1, (m, p.2.2)) hm
  · funext a k
    unfold look
    cases e2 : get O2 a with
    | some p =>
      obtain ⟨m, hm⟩ := hO _ (get_mem e2)
      rw [h1.one.get hm]
      (try rfl)
    | none =>
      have : get O a = none := get_none.2 (fun q hq e => by
        have hm : a ∈ O2.map (·.1) := hp.mem_iff.2 (List.mem_map.2 ⟨q, hq, e⟩)
        obtain ⟨q2, hq2, e3⟩ := List.mem_map.1 hm
        exact get_none.1 e2 q2 hq2 e3)
      rw [this]
      (try rfl)
end Go.Proofs.Yteeghdkejnhjnaa.Kv

/- The pairs of a store, one after the other: what the iterator hands on, whatever is done with the store meanwhile. -/
namespace Go.Proofs.Yteeghdkejnhjnaa.Kv
open Go Go.RowKit Go.Shelf Kt Ad Bo

/-- What is known of a pair that is handed on behind those of 'pre': P0 are all. -/
def PairOf (P0 : List (Bs × Bs)) (pre : List Pr) (x : Pr) (W : World) : Prop := (∃ rest, saidP pre ++ (x.k, x.v) :: rest = P0) ∧ Byt W x.kv x.k ∧ Byt W x.vv x.v
/-- What a round keeps: whatever shows pairs. -/
def KeepsP (A B : World) : Prop := (∀ v T, ShowsP A v T → ShowsP B v T) ∧ ∀ v b, Byt A v b → Byt B v b
theorem KeepsP.trans {A B C : World} (h : KeepsP A B) (k : KeepsP B C) : KeepsP A C := ⟨fun v T hT => k.1 v T (h.1 v T hT), fun v b hb => k.2 v b (h.2 v b hb)⟩
theorem KeepsP.later {A B : World} (h : Below A.heap.size A B) : KeepsP A B := ⟨fun _ _ hT => hT.later h, fun _ _ hb => hb.later h⟩
/-- Pairs' cells and bytes are cells. -/
theorem byt_off {W W' : World} {v : Value} {b : Bs} (h : Byt W v b) {m : Nat → Prop} (hf : Fr W W' m) (hm : ∀ i, m i → ∀ j (u : UInt8), W.cell? ⟨i, j, none⟩ ≠ some (u8v u)) : Byt W' v b := by
  obtain ⟨s, c, rfl, h⟩ := h
  refine ⟨s, c, rfl, fun hne => ?_⟩
  obtain ⟨g, off, rfl, h1, h2⟩ := h hne
  obtain ⟨x, hx⟩ : ∃ x, b[0]? = some x := ⟨_, List.getElem?_eq_getElem (List.length_pos_iff.2 hne)⟩
  have hg : ¬ m g := fun e => hm g e _ _ (h2 0 x hx)
  refine ⟨g, off, rfl, Nat.lt_of_lt_of_le h1 hf.size, fun j u hj => ?_⟩
  rw [← h2 j u hj]
  unfold World.cell?
  rw [hf.block g h1 hg]
theorem shows_off {W W' : World} {v : Value} {T : List Pr} (h : ShowsP W v T) {m : Nat → Prop} (hf : Fr W W' m) (hm : ∀ i, m i → ∀ j (u : UInt8), W.cell? ⟨i, j, none⟩ ≠ some (u8v u)) (hm2 : ∀ i, m i → ∀ j, j ≠ 0 → W.cell? ⟨i, j, none⟩ = none) : ShowsP W' v T := by
  obtain ⟨⟨s, c, rfl, h⟩, hb⟩ := h
  refine ⟨⟨s, c, rfl, fun hne => ?_⟩, fun x hx => ⟨byt_off (hb x hx).1 hf hm, byt_off (hb x hx).2 hf hm⟩⟩
  obtain ⟨g, off, rfl, h1, h2⟩ := h hne
  have hg : ¬ m g := fun e => by
    cases T with
    | nil => exact hne rfl
    | cons x r =>
      have := h2 1 x.vv (by rw [List.flatMap_cons]; rfl)
      rw [hm2 g e _ (by omega)] at this
      cases this
  refine ⟨g, off, rfl, Nat.lt_of_lt_of_le h1 hf.size, fun j u hj => ?_⟩
  rw [← h2 j u hj]
  unfold World.cell?
  rw [hf.block g h1 hg]

theorem keepsP_fr {W W' : World} {m : Nat → Prop} (hf : Fr W W' m) (hm : ∀ i, m i → ∀ j (u : UInt8), W.cell? ⟨i, j, none⟩ ≠ some (u8v u)) (hm2 : ∀ i, m i → ∀ j, j ≠ 0 → W.cell? ⟨i, j, none⟩ = none) : KeepsP W W' := ⟨fun _ _ h => shows_off h hf hm hm2, fun _ _ h => byt_off h hf hm⟩
theorem ePairs : ∀ args w, (callFunc 77 args).run Try.prog w = .ok (.enter 77 args) w := enters_of Try.func77 (by kernel_rfl) rfl
theorem saidP_app (A B : List Pr) : saidP (A ++ B) = saidP A ++ saidP B := List.map_append ..

set_option maxRecDepth 100000 in
set_option maxHeartbeats 4000000 in
theorem pairs_off (n : Nat) (hn : 1 ≤ n) (p1 p2 : Nat) (a : A8) {w : World} {own : Nat → Prop} {bl : Nat} {g : St} {N : Nat} (h1 : Lies w p1 28 #[.pointer (some ⟨bl, 0, none⟩)]) (h2 : Lies w p2 24 a.cs.toArray)
    (hs : Sto w own bl g) (hB : Bd N g) (hN : N ≤ 100000) {P0 : List (Bs × Bs)} (hP : Tells g a P0) :
    SeqOff Fence.wide n Try.prog 77 #[.pointer (some ⟨p1, 0, none⟩), .pointer (some ⟨p2, 0, none⟩)] (fun x : Pr => #[x.kv, x.vv]) (PairOf P0) KeepsP (fun xs => saidP xs = P0) w := fun l J Jx W hW hJ hJx hY h0 => by
  have hc := (h1.below hW h1.lt).cell 0
  simp only [List.getElem?_toArray, List.getElem?_cons_zero] at hc
  obtain ⟨a0, a1, a2, a3, a4, a5, a6, a7⟩ := lies_addr (h2.below hW h2.lt)
  have HL := Lib.hid (sto_list (hs.later hW) hB hN a)
  have hlP := hP.len hB
  have HP := Lib.hid hP
  have HJ := Lib.hid hJ
  have HY := Lib.hid hY
  have H0 := Lib.hid h0
  clear hJ hJx hY h0 hW h1 h2 hs hB hP
  simp only [A8.v] at HL
  have hf1 : Fence.wide.fn 16 := trivial
  refine callsIn_of_wp Try.func77 rfl trivial ?_ rfl
  simp only [Try.ntmps77, List.size_toArray, List.length_cons, List.length_nil, Nat.reduceAdd, Nat.reduceSub, Array.replicate_succ, Array.replicate_zero, List.push_toArray, List.append_toArray, List.nil_append, List.cons_append]
  gi_wp2_with (gi_at_call 16; refine (callsIn_wide.2 HL.out).mono ?_; rintro e w1 ⟨v, T, rfl, hT, hTl, hb⟩; have hlT : T.length = P0.length := (by rw [← hTl.uniq HP.out, saidP_len]); have HS := Lib.hid (hTl.uniq HP.out); have HT := Lib.hid hT; have HJ1 := Lib.hid (HJ.out _ _ _ H0.out hb); clear hT hTl hb H0 HL a0 a1 a2 a3 a4 a5 a6 a7 hc; obtain ⟨⟨sT, cT, hv, hvs⟩, _⟩ := HT.out; subst hv; have HVS := Lib.hid hvs; clear hvs)
  gi_loopw [10] (fun i wr => ∃ k : Nat, k ≤ T.length ∧ i = .int .i64 k ∧ ShowsP wr (.slice sT T.length cT) T ∧ J (T.take k) wr)
    (fun i _ => T.length - (intOf i).toNat)
  case atStart => exact ⟨0, by omega, rfl, HT.out, HJ1.out⟩
  case round =>
    clear HT HJ1
    obtain ⟨k, hk, rfl, hT, hj⟩ := hrel
    have HT := Lib.hid hT
    have HJ1 := Lib.hid hj
    clear hT hj
    by_cases hlt : k < T.length
    · obtain ⟨x, hx⟩ : ∃ x, T[k]? = some x := ⟨_, List.getElem?_eq_getElem hlt⟩
      obtain ⟨⟨s', c', hv', hvs'⟩, hby⟩ := HT.out
      injection hv' with e1 _ e2
      subst e1 e2
      obtain ⟨g0, off0, rfl, hg0, hcs⟩ := hvs' (by intro e; rw [e] at hlt; simp at hlt)
      obtain ⟨c1, c2⟩ := prat hcs hx
      have hbx := hby x (List.mem_of_getElem? hx)
      have htk : T.take (k + 1) = T.take k ++ [x] := by rw [List.take_add_one, hx]; rfl
      have hrest : saidP (T.take k) ++ (x.k, x.v) :: saidP (T.drop (k + 1)) = P0 := by
        rw [← HS.out]
        conv => rhs; rw [← List.take_append_drop k T, List.drop_eq_getElem_cons hlt]
        rw [saidP_app]
        rw [List.getElem?_eq_getElem hlt] at hx
        injection hx with hx
        rw [hx]
        rfl
      obtain ⟨xkv, xk, xvv, xv⟩ := x
      obtain ⟨sx, cx, hvx⟩ : ∃ s c, xkv = .slice s xk.length c := by obtain ⟨s, c, e, _⟩ := hbx.1; exact ⟨s, c, e⟩
      obtain ⟨sy, cy, hvy⟩ : ∃ s c, xvv = .slice s xv.length c := by obtain ⟨s, c, e, _⟩ := hbx.2; exact ⟨s, c, e⟩
      subst hvx hvy
      have HTK := Lib.hid htk
      have HBX := Lib.hid hbx
      have HR := Lib.hid hrest
      simp only at c1 c2
      clear hvs' hby hcs hx hbx htk hrest
      have hba : Below wr.heap.size wr (wr.alloc (.cells #[.slice sx xk.length cx, .slice sy xv.length cy] 40)) := (Below.refl _ _).alloc (Nat.le_refl _) _
      obtain ⟨fn, tmps, assign, body, hy, hR⟩ := HY.out (T.take k) ⟨.slice sx xk.length cx, xk, .slice sy xv.length cy, xv⟩ _ (HJ.out _ _ _ HJ1.out hba) ⟨⟨_, HR.out⟩, HBX.out.1.later hba, HBX.out.2.later hba⟩
      have HT2 := Lib.hid (HT.out.later hba)
      dsimp only at hy
      clear hba HT HJ1 HBX HR HY
      gi_wp2
      refine hR.mono ?_
      rintro e W3 (⟨rfl, hJ4, hk3⟩ | ⟨rfl, hJ4⟩)
      · gi_wp2
        go_roundw
        case rel => exact ⟨k + 1, by omega, by go_num, hk3.1 _ _ HT2.out, by rw [HTK.out]; exact hJ4⟩
        case measure => simp [intOf]; omega
      · gi_wp2
        refine bodyPost_ret (results_none rfl _ _ _) rfl ?_
        exact ⟨⟨_, rfl⟩, .inr ⟨_, hJ4⟩⟩
    · obtain rfl : k = T.length := by omega
      gi_wp2
      go_end0
      have := HJ1.out
      rw [List.take_length] at this
      exact ⟨⟨_, rfl⟩, .inl ⟨T, HS.out, this⟩⟩
end Go.Proofs.Yteeghdkejnhjnaa.Kv

/- Both stores beside one another: what each call does to them, and to nothing else. -/
namespace Go.Proofs.Yteeghdkejnhjnaa.Kv
open Go Go.RowKit Kt Ad Bo

/-! ### the document's store by what it has -/
def Dto (W : World) (own : Nat → Prop) (br : Nat) (g : St) : Prop := ∃ vl L, Dk W own br vl L ∧ Sorted L ∧ dst L = g
section
variable {W W' : World} {own own2 m : Nat → Prop} {br : Nat} {g : St} {n : Nat}
theorem Dto.kept (h : Dto W own br g) (hf : Fr W W' m) (hn : ∀ k, own k → ¬ m k) : Dto W' own br g := by
  obtain ⟨vl, L, h1, h2⟩ := h
  exact ⟨vl, L, h1.kept hf hn, h2⟩
theorem Dto.later (h : Dto W own br g) (hb : Below W.heap.size W W') : Dto W' own br g := h.kept (m := fun _ => False) (Fr.of_below hb _) (fun _ _ h => h)
theorem Dto.mono (h : Dto W own br g) (ho : ∀ k, k < W.heap.size → own k → own2 k) : Dto W own2 br g := by
  obtain ⟨vl, L, h1, h2⟩ := h
  exact ⟨vl, L, h1.mono ho, h2⟩
theorem Dto.lt (h : Dto W own br g) : br < W.heap.size ∧ own br := by obtain ⟨vl, L, h1, h2⟩ := h; exact ⟨h1.cell.lt, h1.obr⟩
theorem sorted_short {L : List En} (h : Sorted L) (hB : Bd n (dst L)) : L.length ≤ n ∧ ∀ x ∈ L, x.k.length ≤ 64 := by
  obtain ⟨D, h1, h2⟩ := hB
  have hin : ∀ x ∈ L, (x.a, x.k) ∈ D ∧ x.k.length ≤ 64 := fun x hx => by
    have := h2 x.a x.k x.v ((dst_iff h _ _ _).2 ⟨x, hx, rfl, rfl, rfl⟩)
    exact ⟨this.1, this.2.1⟩
  refine ⟨?_, fun x hx => (hin x hx).2⟩
  have := nodup_le (l := L.map fun x => (x.a, x.k)) (m := D) (List.pairwise_map.2 (List.Pairwise.imp (fun {x y} hlt e => by
    injection e with e1 e2
    unfold EnLt at hlt
    rw [e1, e2] at hlt
    exact ahk_irr _ _ hlt) h)) (fun p hp => by
    obtain ⟨x, hx, rfl⟩ := List.mem_map.1 hp
    exact (hin x hx).1)
  rw [List.length_map] at this
  omega
set_option maxRecDepth 100000 in
set_option maxHeartbeats 2000000 in
theorem dput_long {W : World} {br : Nat} (a : A8) {vk vv : Value} {k v : Bs} (hk : Byt W vk k) (hv : Byt W vv v) (hn : 64 < k.length ∨ 1024 < v.length) :
    Calls Try.prog 37 #[.pointer (some ⟨br, 0, none⟩), a.v, vk, vv] W fun e w' => e = .returned (.int .i64 3) ∧ Below W.heap.size W w' := by
  obtain ⟨sk0, ck0, rfl⟩ : ∃ s c, vk = .slice s k.length c := by obtain ⟨s, c, e, _⟩ := hk; exact ⟨s, c, e⟩
  obtain ⟨sv0, cv0, rfl⟩ : ∃ s c, vv = .slice s v.length c := by obtain ⟨s, c, e, _⟩ := hv; exact ⟨s, c, e⟩
  clear hk hv
  simp only [A8.v]
  by_cases h0 : 64 < k.length
  · clear hn
    go_enter Try.func37, Try.ntmps37
    go_wp2_with fail
    go_ret
    exact ⟨rfl, (Below.refl _ _).alloc (Nat.le_refl _) _⟩
  · have h1 : 1024 < v.length := by omega
    clear hn
    go_enter Try.func37, Try.ntmps37
    go_wp2_with fail
    go_ret
    exact ⟨rfl, (Below.refl _ _).alloc (Nat.le_refl _) _⟩
theorem dto_put (h : Dto W own br g) (ho : ∀ i, W.heap.size ≤ i → own i) (hB : Bd n g) (hn : n ≤ 100000) (a : A8) {vk vv : Value} {k v : Bs} (hk : Byt W vk k) (hv : Byt W vv v) :
    Calls Try.prog 37 #[.pointer (some ⟨br, 0, none⟩), a.v, vk, vv] W fun e w' => e = .returned (.int .i64 ((if 64 < k.length ∨ 1024 < v.length then 3 else 0 : Nat) : Int)) ∧ Dto w' own br (if 64 < k.length ∨ 1024 < v.length then g else g.put a k (some v)) ∧ Fr W w' own := by
  by_cases hl : 64 < k.length ∨ 1024 < v.length
  · rw [if_pos hl, if_pos hl]
    refine (dput_long a hk hv hl).mono ?_
    rintro e w' ⟨rfl, hb⟩
    exact ⟨rfl, h.later hb, Fr.of_below hb _⟩
  · rw [if_neg hl, if_neg hl]
    obtain ⟨vl, L, h1, h2, rfl⟩ := h
    obtain ⟨hL, hS⟩ := sorted_short h2 hB
    refine (dput_any h1 ho (by omega) (fun x hx => Nat.le_trans (hS x hx) (by decide)) a hk hv (by omega)).mono ?_
    rintro e w' ⟨vn, x, rfl, rfl, rfl, rfl, hd, hf⟩
    obtain ⟨i1, i2⟩ := dst_ins h2 x
    exact ⟨rfl, ⟨vn, _, hd, i1, i2⟩, hf⟩
theorem dto_del (h : Dto W own br g) (ho : ∀ i, W.heap.size ≤ i → own i) (hB : Bd n g) (hn : n ≤ 100000) (a : A8) {vk : Value} {k : Bs} (hk : Byt W vk k) :
    Calls Try.prog 38 #[.pointer (some ⟨br, 0, none⟩), a.v, vk] W fun e w' => e = .returned (.bool (g a k).isSome) ∧ Dto w' own br (g.put a k none) ∧ Fr W w' (fun i => i = br) ∧ KeepsP W w' := by
  obtain ⟨vl, L, h1, h2, rfl⟩ := h
  have hL := (sorted_short h2 hB).1
  refine (ddel_any h1 ho (by omega) a hk).mono ?_
  rintro e w' ⟨vn, rfl, hd, hf⟩
  rw [ddel_len]
  refine ⟨rfl, ⟨vn, _, hd, h2.del a k, dst_del h2 a k⟩, hf, keepsP_fr hf (fun i e j u hu => ?_) (fun i e j hj => ?_)⟩
  · subst e
    rw [h1.cell.cell j] at hu
    obtain ⟨s, c, rfl, _⟩ := h1.row.form
    rcases j with _ | j
    · simp [u8v] at hu
    · simp at hu
  · subst e
    rw [h1.cell.cell j]
    rcases j with _ | j
    · exact absurd rfl hj
    · simp
theorem dto_get (h : Dto W own br g) (hB : Bd n g) (hn : n ≤ 100000) (a : A8) {vk : Value} {k : Bs} (hk : Byt W vk k) :
    Calls Try.prog 39 #[.pointer (some ⟨br, 0, none⟩), a.v, vk] W fun e w' => ∃ v', e = .returned (.tuple #[v', .bool (g a k).isSome]) ∧ Byt w' v' ((g a k).getD []) ∧ Below W.heap.size W w' := by
  obtain ⟨vl, L, h1, h2, rfl⟩ := h
  have hL := (sorted_short h2 hB).1
  refine (dget_any h1 (by omega) a hk).mono ?_
  rintro e w' ⟨v', rfl, hb, hw⟩
  rw [dst_is]
  exact ⟨v', rfl, hb, hw⟩
theorem dto_list (h : Dto W own br g) (hB : Bd n g) (hn : n ≤ 100000) (a : A8) :
    Calls Try.prog 40 #[.pointer (some ⟨br, 0, none⟩), a.v] W fun e w' => ∃ v' T, e = .returned v' ∧ ShowsP w' v' T ∧ Tells g a (saidP T) ∧ Below W.heap.size W w' := by
  obtain ⟨vl, L, h1, h2, rfl⟩ := h
  have hL := (sorted_short h2 hB).1
  refine (dlist_any h1 (by omega) a).mono ?_
  rintro e w' ⟨v', rfl, hs, hw⟩
  exact ⟨v', _, rfl, hs, dlist_tells h2 a, hw⟩
theorem dto_all (h : Dto W own br g) (hB : Bd n g) (hn : n ≤ 100000) :
    Calls Try.prog 45 #[.pointer (some ⟨br, 0, none⟩)] W fun e w' => ∃ v ts, e = .returned v ∧ ShowsA w' v ts ∧ RiseA ts ∧ (∀ a, a ∈ ts ↔ ∃ k v, g a k = some v) ∧ Below W.heap.size W w' := by
  obtain ⟨vl, L, h1, h2, rfl⟩ := h
  have hL := (sorted_short h2 hB).1
  refine (dall_any h1 (by omega)).mono ?_
  rintro e w' ⟨v', rfl, hs, hw⟩
  obtain ⟨r1, r2⟩ := dall_rise h2
  exact ⟨v', _, rfl, showsA_row hs, r1, r2, hw⟩
theorem ownM_keeps {w' : World} (hf : Fr W w' (OwnM W own)) : KeepsP W w' := by
  refine keepsP_fr hf (fun i e j u hu => ?_) (fun i e j hj => ?_)
  · obtain ⟨_, es, c, hh⟩ := e
    simp [World.cell?, hh] at hu
  · obtain ⟨_, es, c, hh⟩ := e
    simp [World.cell?, hh]
end

/-! ### both -/
/-- A block that is neither store's. -/
def Off (w : World) (own ownr : Nat → Prop) (b : Nat) : Prop := b < w.heap.size ∧ ¬ own b ∧ ¬ ownr b
/-- What is neither store's lies as it lay, and is neither's. -/
structure Keep (w : World) (own ownr : Nat → Prop) (w' : World) (own' ownr' : Nat → Prop) : Prop where
  size : w.heap.size ≤ w'.heap.size
  off : ∀ b, Off w own ownr b → Off w' own' ownr' b
  same : ∀ b, Off w own ownr b → w'.heap[b]? = w.heap[b]?
section
variable {w w' w'' : World} {own own' own'' ownr ownr' ownr'' : Nat → Prop}
theorem Keep.refl (w : World) (own ownr : Nat → Prop) : Keep w own ownr w own ownr := ⟨Nat.le_refl _, fun _ h => h, fun _ _ => rfl⟩
theorem Keep.trans (h : Keep w own ownr w' own' ownr') (k : Keep w' own' ownr' w'' own'' ownr'') : Keep w own ownr w'' own'' ownr'' :=
  ⟨Nat.le_trans h.size k.size, fun b hb => k.off b (h.off b hb), fun b hb => (k.same b (h.off b hb)).trans (h.same b hb)⟩
theorem Keep.of_fr {m : Nat → Prop} (hf : Fr w w' m) (hm : ∀ i, m i → own i ∨ ownr i ∨ w.heap.size ≤ i) (h1 : ∀ i, own' i → own i ∨ w.heap.size ≤ i) (h2 : ∀ i, ownr' i → ownr i ∨ w.heap.size ≤ i) : Keep w own ownr w' own' ownr' := by
  refine ⟨hf.size, fun b hb => ⟨Nat.lt_of_lt_of_le hb.1 hf.size, fun e => ?_, fun e => ?_⟩, fun b hb => hf.block b hb.1 (fun e => ?_)⟩
  · rcases h1 b e with e | e
    · exact hb.2.1 e
    · have := hb.1; omega
  · rcases h2 b e with e | e
    · exact hb.2.2 e
    · have := hb.1; omega
  · rcases hm b e with e | e | e
    · exact hb.2.1 e
    · exact hb.2.2 e
    · have := hb.1; omega
theorem Keep.below (hb : Below w.heap.size w w') (own ownr : Nat → Prop) : Keep w own ownr w' own ownr :=
  Keep.of_fr (m := fun _ => False) (Fr.of_below hb _) (fun _ h => h.elim) (fun _ h => Or.inl h) (fun _ h => Or.inl h)
theorem Keep.lies {b : Nat} {t : TypeId} {cs : Array Value} (h : Keep w own ownr w' own' ownr') (ho : Off w own ownr b) (hl : Lies w b t cs) : Lies w' b t cs := (h.same b ho).trans hl
/-- Bytes in a block that is neither store's. -/
def Mine (w : World) (own ownr : Nat → Prop) (v : Value) (b : Bs) : Prop := Bts w (Off w own ownr) v b
theorem Keep.mine {v : Value} {b : Bs} (h : Keep w own ownr w' own' ownr') (hv : Mine w own ownr v b) : Mine w' own' ownr' v b := by
  refine ⟨?_, fun g e => h.off g (hv.2 g e)⟩
  refine ⟨hv.1.1, ?_⟩
  rcases hv.1.2 with h0 | ⟨g, cap, cur, rfl, hbg, hg, rest⟩
  · exact .inl h0
  · exact .inr ⟨g, cap, cur, rfl, hbg, (h.same g (hv.2 g rfl)).trans hg, rest⟩
end
/-- BOTH STORES. -/
structure Pz (W0 w : World) (own ownr : Nat → Prop) (bl br : Nat) (g gr : St) : Prop where
  s : Sto w own bl g
  d : Dto w ownr br gr
  sep : ∀ i, own i → ¬ ownr i
  lo : ∀ i, own i → W0.heap.size ≤ i
  lor : ∀ i, ownr i → W0.heap.size ≤ i
  lt : ∀ i, own i → i < w.heap.size
  ltr : ∀ i, ownr i → i < w.heap.size
  below : Below W0.heap.size W0 w
section
variable {W0 w w' : World} {own ownr : Nat → Prop} {bl br : Nat} {g gr : St} {n : Nat}
theorem Pz.later (h : Pz W0 w own ownr bl br g gr) (hb : Below w.heap.size w w') : Pz W0 w' own ownr bl br g gr :=
  ⟨h.s.later hb, h.d.later hb, h.sep, h.lo, h.lor, fun i hi => Nat.lt_of_lt_of_le (h.lt i hi) hb.size, fun i hi => Nat.lt_of_lt_of_le (h.ltr i hi) hb.size, h.below.trans (hb.mono h.below.size)⟩
/-- What is neither store's may turn. -/
theorem Pz.aside {m : Nat → Prop} (h : Pz W0 w own ownr bl br g gr) (hf : Fr w w' m) (hm : ∀ i, m i → (¬ own i ∧ ¬ ownr i) ∧ W0.heap.size ≤ i) : Pz W0 w' own ownr bl br g gr :=
  ⟨h.s.kept hf (fun k hk e => (hm k e).1.1 hk), h.d.kept hf (fun k hk e => (hm k e).1.2 hk), h.sep, h.lo, h.lor, fun i hi => Nat.lt_of_lt_of_le (h.lt i hi) hf.size, fun i hi => Nat.lt_of_lt_of_le (h.ltr i hi) hf.size, h.below.trans (hf.below h.below.size (fun k e => (hm k e).2))⟩
theorem Pz.news (h : Pz W0 w own ownr bl br g gr) {own' : Nat → Prop} {g' : St} (hs : Sto w' (fun i => own i ∨ w.heap.size ≤ i) bl g') (hf : Fr w w' (fun i => own i ∨ w.heap.size ≤ i)) (ho : own' = fun i => (own i ∨ w.heap.size ≤ i) ∧ i < w'.heap.size) : Pz W0 w' own' ownr bl br g' gr ∧ Keep w own ownr w' own' ownr := by
  subst ho
  refine ⟨⟨hs.mono (fun i hl hi => ⟨hi, hl⟩), h.d.kept hf (fun i hi e => e.elim (fun e => h.sep i e hi) (fun e => by have := h.ltr i hi; omega)), fun i hi e => hi.1.elim (fun k => h.sep i k e) (fun k => by have := h.ltr i e; omega), fun i hi => hi.1.elim (h.lo i) (fun k => Nat.le_trans h.below.size k), h.lor, fun i hi => hi.2, fun i hi => Nat.lt_of_lt_of_le (h.ltr i hi) hf.size, h.below.trans (hf.below h.below.size (fun k e => e.elim (h.lo k) (fun e => Nat.le_trans h.below.size e)))⟩, ?_⟩
  exact Keep.of_fr hf (fun i hi => hi.elim Or.inl (fun e => Or.inr (Or.inr e))) (fun i hi => hi.1) (fun i hi => Or.inl hi)
theorem Pz.newd (h : Pz W0 w own ownr bl br g gr) {ownr' : Nat → Prop} {g' : St} (hs : Dto w' (fun i => ownr i ∨ w.heap.size ≤ i) br g') (hf : Fr w w' (fun i => ownr i ∨ w.heap.size ≤ i)) (ho : ownr' = fun i => (ownr i ∨ w.heap.size ≤ i) ∧ i < w'.heap.size) : Pz W0 w' own ownr' bl br g g' ∧ Keep w own ownr w' own ownr' := by
  subst ho
  refine ⟨⟨h.s.kept hf (fun i hi e => e.elim (fun e => h.sep i hi e) (fun e => by have := h.lt i hi; omega)), hs.mono (fun i hl hi => ⟨hi, hl⟩), fun i hi e => e.1.elim (fun k => h.sep i hi k) (fun k => by have := h.lt i hi; omega), h.lo, fun i hi => hi.1.elim (h.lor i) (fun k => Nat.le_trans h.below.size k), fun i hi => Nat.lt_of_lt_of_le (h.lt i hi) hf.size, fun i hi => hi.2, h.below.trans (hf.below h.below.size (fun k e => e.elim (h.lor k) (fun e => Nat.le_trans h.below.size e)))⟩, ?_⟩
  exact Keep.of_fr hf (fun i hi => hi.elim (fun e => Or.inr (Or.inl e)) (fun e => Or.inr (Or.inr e))) (fun i hi => Or.inl hi) (fun i hi => hi.1)
theorem pz_put (h : Pz W0 w own ownr bl br g gr) (a : A8) {vk vv : Value} {k v : Bs} (hk : Byt w vk k) (hv : Byt w vv v) :
    Calls Try.prog 13 #[.pointer (some ⟨bl, 0, none⟩), a.v, vk, vv] w fun e w' => ∃ own', e = .returned (.int .i64 ((if 64 < k.length ∨ 1024 < v.length then 3 else 0 : Nat) : Int)) ∧ Pz W0 w' own' ownr bl br (if 64 < k.length ∨ 1024 < v.length then g else g.put a k (some v)) gr ∧ Keep w own ownr w' own' ownr := by
  refine (sto_put (h.s.mono (own2 := fun i => own i ∨ w.heap.size ≤ i) (fun i _ hi => Or.inl hi)) (fun i hi => Or.inr hi) a hk hv).mono ?_
  rintro e w' ⟨rfl, hs, hf⟩
  obtain ⟨h1, h2⟩ := h.news hs hf rfl
  exact ⟨_, rfl, h1, h2⟩
theorem pz_dput (h : Pz W0 w own ownr bl br g gr) (hB : Bd n gr) (hn : n ≤ 100000) (a : A8) {vk vv : Value} {k v : Bs} (hk : Byt w vk k) (hv : Byt w vv v) :
    Calls Try.prog 37 #[.pointer (some ⟨br, 0, none⟩), a.v, vk, vv] w fun e w' => ∃ ownr', e = .returned (.int .i64 ((if 64 < k.length ∨ 1024 < v.length then 3 else 0 : Nat) : Int)) ∧ Pz W0 w' own ownr' bl br g (if 64 < k.length ∨ 1024 < v.length then gr else gr.put a k (some v)) ∧ Keep w own ownr w' own ownr' := by
  refine (dto_put (h.d.mono (own2 := fun i => ownr i ∨ w.heap.size ≤ i) (fun i _ hi => Or.inl hi)) (fun i hi => Or.inr hi) hB hn a hk hv).mono ?_
  rintro e w' ⟨rfl, hs, hf⟩
  obtain ⟨h1, h2⟩ := h.newd hs hf rfl
  exact ⟨_, rfl, h1, h2⟩
theorem pz_del (h : Pz W0 w own ownr bl br g gr) (hB : Bd n g) (a : A8) {vk : Value} {k : Bs} (hk : Byt w vk k) (hkl : k.length ≤ maxLen) :
    Calls Try.prog 14 #[.pointer (some ⟨bl, 0, none⟩), a.v, vk] w fun e w' => ∃ own', e = .returned (.bool (g a k).isSome) ∧ Pz W0 w' own' ownr bl br (g.put a k none) gr ∧ Keep w own ownr w' own' ownr ∧ KeepsP w w' := by
  refine (sto_del2 h.s hB a hk hkl).mono ?_
  rintro e w' ⟨rfl, hs, hf⟩
  obtain ⟨h1, h2⟩ := h.news (hs.mono (fun i _ hi => Or.inl hi)) (hf.mono (fun i _ hi => Or.inl hi.1)) rfl
  exact ⟨_, rfl, h1, h2, ownM_keeps hf⟩
theorem pz_ddel (h : Pz W0 w own ownr bl br g gr) (hB : Bd n gr) (hn : n ≤ 100000) (a : A8) {vk : Value} {k : Bs} (hk : Byt w vk k) :
    Calls Try.prog 38 #[.pointer (some ⟨br, 0, none⟩), a.v, vk] w fun e w' => ∃ ownr', e = .returned (.bool (gr a k).isSome) ∧ Pz W0 w' own ownr' bl br g (gr.put a k none) ∧ Keep w own ownr w' own ownr' ∧ KeepsP w w' := by
  refine (dto_del (h.d.mono (own2 := fun i => ownr i ∨ w.heap.size ≤ i) (fun i _ hi => Or.inl hi)) (fun i hi => Or.inr hi) hB hn a hk).mono ?_
  rintro e w' ⟨rfl, hs, hf, hk⟩
  obtain ⟨h1, h2⟩ := h.newd hs (hf.mono (fun i _ hi => Or.inl (hi ▸ h.d.lt.2))) rfl
  exact ⟨_, rfl, h1, h2, hk⟩
end

/-! ### a copy goes on, the old store does something else -/
structure Tz (W0 w : World) (own own2 ownr : Nat → Prop) (bl bl2 br : Nat) (g' g gr : St) : Prop where
  o : Sto w own bl g'
  p : Pz W0 w own2 ownr bl2 br g gr
  away : ∀ i, own2 i → ¬ OwnM w own i
  awayr : ∀ i, own i → ¬ ownr i
  lt : ∀ i, own i → i < w.heap.size
  lo : ∀ i, own i → W0.heap.size ≤ i
def Or2 (own own2 : Nat → Prop) (i : Nat) : Prop := own i ∨ own2 i
section
variable {W0 w w' : World} {own own2 ownr : Nat → Prop} {bl bl2 br : Nat} {g g' gr : St} {n : Nat}
theorem Keep.drop {w'' : World} (h : Keep w own ownr w'' (Or2 own own2) ownr) {b : Nat} (hb : Off w own ownr b) : Off w'' own2 ownr b := by
  obtain ⟨h1, h2, h3⟩ := h.off b hb
  exact ⟨h1, fun e => h2 (Or.inr e), h3⟩
theorem pz_copy (h : Pz W0 w own ownr bl br g gr) :
    Calls Try.prog 42 #[.pointer (some ⟨bl, 0, none⟩)] w fun e w' => ∃ bl2 own2, e = .returned (.pointer (some ⟨bl2, 0, none⟩)) ∧ Tz W0 w' own own2 ownr bl bl2 br g g gr ∧ Keep w own ownr w' (Or2 own own2) ownr := by
  refine (sto_copy h.s).mono ?_
  rintro e w' ⟨bl2, rfl, hs, hb⟩
  have hn : ∀ i, OwnC w own i → own i ∨ w.heap.size ≤ i := fun i hi => hi.elim (fun e => Or.inl e.1) Or.inr
  refine ⟨bl2, fun i => OwnC w own i ∧ i < w'.heap.size, rfl, ⟨h.s.later hb, ⟨hs.mono (fun i hl hi => ⟨hi, hl⟩), h.d.later hb, fun i hi e => (hn i hi.1).elim (fun k => h.sep i k e) (fun k => by have := h.ltr i e; omega), fun i hi => (hn i hi.1).elim (h.lo i) (fun k => Nat.le_trans h.below.size k), h.lor, fun i hi => hi.2, fun i hi => Nat.lt_of_lt_of_le (h.ltr i hi) hb.size, h.below.trans (hb.mono h.below.size)⟩, fun i hi hm => ?_, h.sep, fun i hi => Nat.lt_of_lt_of_le (h.lt i hi) hb.size, h.lo⟩, ?_⟩
  · obtain ⟨ho, es, c, hh⟩ := hm
    have hlt := h.lt i ho
    rcases hi.1 with ⟨_, hc⟩ | hc
    · rw [hb.block i hlt] at hh
      exact hc es c hh
    · omega
  · exact Keep.of_fr (m := fun _ => False) (Fr.of_below hb _) (fun _ e => e.elim) (fun i hi => hi.elim Or.inl (fun e => hn i e.1)) (fun i hi => Or.inl hi)
theorem Tz.later (h : Tz W0 w own own2 ownr bl bl2 br g' g gr) (hb : Below w.heap.size w w') : Tz W0 w' own own2 ownr bl bl2 br g' g gr :=
  ⟨h.o.later hb, h.p.later hb, fun i hi hm => h.away i hi ⟨hm.1, by obtain ⟨es, c, hh⟩ := hm.2; exact ⟨es, c, (hb.block i (h.lt i hm.1)).symm.trans hh⟩⟩, h.awayr, fun i hi => Nat.lt_of_lt_of_le (h.lt i hi) hb.size, h.lo⟩
theorem Tz.step (h : Tz W0 w own own2 ownr bl bl2 br g' g gr) {g'' : St} (hs : Sto w' (fun i => own i ∨ w.heap.size ≤ i) bl g'') (hf : Fr w w' (fun i => OwnM w (fun i => own i ∨ w.heap.size ≤ i) i ∨ w.heap.size ≤ i)) :
    Tz W0 w' (fun i => (own i ∨ w.heap.size ≤ i) ∧ i < w'.heap.size) own2 ownr bl bl2 br g'' g gr ∧ Keep w (Or2 own own2) ownr w' (Or2 (fun i => (own i ∨ w.heap.size ≤ i) ∧ i < w'.heap.size) own2) ownr := by
  have hm : ∀ i, (OwnM w (fun i => own i ∨ w.heap.size ≤ i) i ∨ w.heap.size ≤ i) → ¬ own2 i ∧ ¬ ownr i ∧ W0.heap.size ≤ i := fun i hi => by
    rcases hi with ⟨hi, hh⟩ | hi
    · rcases hi with hi | hi
      · exact ⟨fun e => h.away i e ⟨hi, hh⟩, h.awayr i hi, h.lo i hi⟩
      · exact ⟨fun e => by have := h.p.lt i e; omega, fun e => by have := h.p.ltr i e; omega, Nat.le_trans h.p.below.size hi⟩
    · exact ⟨fun e => by have := h.p.lt i e; omega, fun e => by have := h.p.ltr i e; omega, Nat.le_trans h.p.below.size hi⟩
  refine ⟨⟨hs.mono (fun i hl hi => ⟨hi, hl⟩), h.p.aside hf (fun i hi => ⟨⟨(hm i hi).1, (hm i hi).2.1⟩, (hm i hi).2.2⟩), fun i hi hM => ?_, fun i hi e => hi.1.elim (fun k => h.awayr i k e) (fun k => by have := h.p.ltr i e; omega), fun i hi => hi.2, fun i hi => hi.1.elim (h.lo i) (fun k => Nat.le_trans h.p.below.size k)⟩, ?_⟩
  · obtain ⟨⟨ho, _⟩, es, c, hh⟩ := hM
    have hlt := h.p.lt i hi
    rcases ho with ho | ho
    · have hno : ¬ (OwnM w (fun i => own i ∨ w.heap.size ≤ i) i ∨ w.heap.size ≤ i) := fun e => (hm i e).1 hi
      rw [hf.block i hlt hno] at hh
      exact h.away i hi ⟨ho, es, c, hh⟩
    · omega
  · exact Keep.of_fr hf (fun i hi => hi.elim (fun e => e.1.elim (fun k => Or.inl (Or.inl k)) (fun k => Or.inr (Or.inr k))) (fun k => Or.inr (Or.inr k))) (fun i hi => hi.elim (fun e => e.1.elim (fun k => Or.inl (Or.inl k)) Or.inr) (fun e => Or.inl (Or.inr e))) (fun i hi => Or.inl hi)
theorem tz_put (h : Tz W0 w own own2 ownr bl bl2 br g' g gr) (a : A8) {vk vv : Value} {k v : Bs} (hk : Byt w vk k) (hv : Byt w vv v) :
    Calls Try.prog 13 #[.pointer (some ⟨bl, 0, none⟩), a.v, vk, vv] w fun e w' => ∃ (er : Nat) (own' : Nat → Prop), e = .returned (.int .i64 (er : Int)) ∧ Tz W0 w' own' own2 ownr bl bl2 br (if 64 < k.length ∨ 1024 < v.length then g' else g'.put a k (some v)) g gr ∧ Keep w (Or2 own own2) ownr w' (Or2 own' own2) ownr := by
  refine (sto_put2 (h.o.mono (own2 := fun i => own i ∨ w.heap.size ≤ i) (fun i _ hi => Or.inl hi)) (fun i hi => Or.inr hi) a hk hv).mono ?_
  rintro e w' ⟨rfl, hs, hf⟩
  obtain ⟨h1, h2⟩ := h.step hs hf
  exact ⟨_, _, rfl, h1, h2⟩
theorem tz_del (h : Tz W0 w own own2 ownr bl bl2 br g' g gr) (hB : Bd n g') (a : A8) {vk : Value} {k : Bs} (hk : Byt w vk k) (hkl : k.length ≤ maxLen) :
    Calls Try.prog 14 #[.pointer (some ⟨bl, 0, none⟩), a.v, vk] w fun e w' => ∃ (er : Bool) (own' : Nat → Prop), e = .returned (.bool er) ∧ Tz W0 w' own' own2 ownr bl bl2 br (g'.put a k none) g gr ∧ Keep w (Or2 own own2) ownr w' (Or2 own' own2) ownr := by
  refine (sto_del2 (h.o.mono (own2 := fun i => own i ∨ w.heap.size ≤ i) (fun i _ hi => Or.inl hi)) hB a hk hkl).mono ?_
  rintro e w' ⟨rfl, hs, hf⟩
  obtain ⟨h1, h2⟩ := h.step hs (hf.mono (fun i _ hi => Or.inl hi))
  exact ⟨_, _, rfl, h1, h2⟩
end
end Go.Proofs.Yteeghdkejnhjnaa.Kv

/- The law's memory: both stores, the three boxes, the marks of the loops over pairs; what deletes behind one another leave; a constant's bytes; bytes cleared. -/
namespace Go.Proofs.Yteeghdkejnhjnaa.Kv
open Go Go.RowKit Kt Ad Bo

/-! ### marks -/
def markOf (D : Nat) : Deferred := { target := .collected D, args := #[] }
/-- THE MARKS: each of a block of its own. -/
def Marks (w : World) (own ownr : Nat → Prop) (B : Nat) (ds : List Deferred) : Prop := ∃ Ds : List Nat, ds = Ds.map markOf ∧ Ds.Nodup ∧ ∀ D ∈ Ds, B ≤ D ∧ Off w own ownr D ∧ w.heap[D]? = some (.deferred (some []))
section
variable {w w' : World} {own own' ownr ownr' : Nat → Prop} {B : Nat} {ds : List Deferred}
theorem Marks.nil : Marks w own ownr B [] := ⟨[], rfl, List.nodup_nil, by simp⟩
theorem Marks.keep (h : Marks w own ownr B ds) (k : Keep w own ownr w' own' ownr') : Marks w' own' ownr' B ds := by
  obtain ⟨Ds, h1, h2, h3⟩ := h
  exact ⟨Ds, h1, h2, fun D hD => ⟨(h3 D hD).1, k.off D (h3 D hD).2.1, (k.same D (h3 D hD).2.1).trans (h3 D hD).2.2⟩⟩
theorem Marks.add (h : Marks w own ownr B ds) (k : Keep w own ownr w' own' ownr') (hB : B ≤ w.heap.size) (ho : Off w' own' ownr' w.heap.size) (hd : w'.heap[w.heap.size]? = some (.deferred (some []))) : Marks w' own' ownr' B (markOf w.heap.size :: ds) := by
  obtain ⟨Ds, h1, h2, h3⟩ := h
  refine ⟨w.heap.size :: Ds, by rw [h1]; rfl, List.nodup_cons.2 ⟨fun e => Nat.lt_irrefl _ (h3 _ e).2.1.1, h2⟩, fun D hD => ?_⟩
  rcases List.mem_cons.1 hD with rfl | hD
  · exact ⟨hB, ho, hd⟩
  · exact ⟨(h3 D hD).1, k.off D (h3 D hD).2.1, (k.same D (h3 D hD).2.1).trans (h3 D hD).2.2⟩
/-- Out of the function, mark by mark. -/
theorem leaves_marks {F : Fence} {n : Nat} {P : Program} {fn : Func} {tmps : Array Value} {R : Ending → World → Prop} : ∀ (Ds : List Nat) (w : World), Ds.Nodup → (∀ D ∈ Ds, w.heap[D]? = some (.deferred (some []))) →
    (∀ w', Fr w w' (fun i => i ∈ Ds) → ∃ v, (results fn tmps).run P w' = .ok v w' ∧ R (.returned v) w') → LeavesInM F n P fn tmps R (Ds.map markOf) .returning w
  | [], w, _, _, h => h w (Fr.refl _ _)
  | D :: Ds, w, hn, hd, h => by
    obtain ⟨h1, h2⟩ := List.nodup_cons.1 hn
    have hD := hd D List.mem_cons_self
    refine ⟨by simp, .inl ⟨D, _, rfl, run_takeDeferred hD, ?_⟩⟩
    have hf : Fr w (w.putObj D (.deferred none)) (fun i => i ∈ D :: Ds) := (Fr.of_grown (grownBy_putObj' w D _)).mono (fun k _ e => by injection e with e; rw [e]; exact List.mem_cons_self)
    refine leaves_marks Ds _ h2 (fun E hE => ?_) (fun w' hw' => h w' (hf.trans (hw'.mono (fun k _ e => List.mem_cons_of_mem _ e))))
    exact (World.putObj_heap_other (fun e => h1 (by rw [← e]; exact hE))).trans (hd E (List.mem_cons_of_mem _ hE))
end

/-! ### the law's memory -/
abbrev Box := Nat × TypeId × Array Value
/-- Boxes that are neither store's, and the marks. -/
structure Bz (W0 w : World) (own ownr : Nat → Prop) (xs : List Box) (ds : List Deferred) : Prop where
  bx : ∀ p ∈ xs, (Off w own ownr p.1 ∧ Lies w p.1 p.2.1 p.2.2) ∧ W0.heap.size ≤ p.1
  nd : (xs.map (·.1)).Nodup
  m : Marks w own ownr W0.heap.size ds
section
variable {W0 w w' : World} {own own' ownr ownr' : Nat → Prop} {bl br : Nat} {g gr : St} {ds : List Deferred} {xs ys : List Box}
theorem Bz.keep (h : Bz W0 w own ownr xs ds) (k : Keep w own ownr w' own' ownr') : Bz W0 w' own' ownr' xs ds :=
  ⟨fun p hp => ⟨⟨k.off _ (h.bx p hp).1.1, k.lies (h.bx p hp).1.1 (h.bx p hp).1.2⟩, (h.bx p hp).2⟩, h.nd, h.m.keep k⟩
theorem Bz.later (h : Bz W0 w own ownr xs ds) (hb : Below w.heap.size w w') : Bz W0 w' own ownr xs ds := h.keep (Keep.below hb _ _)
theorem Bz.lies (h : Bz W0 w own ownr xs ds) {b : Nat} {t : TypeId} {cs : Array Value} (hm : (b, t, cs) ∈ xs) : Lies w b t cs := (h.bx _ hm).1.2
theorem Bz.off (h : Bz W0 w own ownr xs ds) {b : Nat} {t : TypeId} {cs : Array Value} (hm : (b, t, cs) ∈ xs) : Off w own ownr b := (h.bx _ hm).1.1
theorem Bz.perm (h : Bz W0 w own ownr xs ds) (hp : ys.Perm xs) : Bz W0 w own ownr ys ds := ⟨fun p hm => h.bx p (hp.mem_iff.1 hm), (hp.map _).nodup_iff.2 h.nd, h.m⟩
theorem Bz.tail {p : Box} (h : Bz W0 w own ownr (p :: xs) ds) : Bz W0 w own ownr xs ds := ⟨fun q hq => h.bx q (List.mem_cons_of_mem _ hq), (List.nodup_cons.1 h.nd).2, h.m⟩
theorem Bz.add (h : Bz W0 w own ownr xs ds) (k : Keep w own ownr w' own ownr) {b : Nat} {t : TypeId} {cs : Array Value} (ho : Off w' own ownr b) (hl : Lies w' b t cs) (hb : w.heap.size ≤ b) (hB : W0.heap.size ≤ w.heap.size) : Bz W0 w' own ownr ((b, t, cs) :: xs) ds := by
  refine ⟨fun p hp => ?_, ?_, h.m.keep k⟩
  · rcases List.mem_cons.1 hp with rfl | hp
    · exact ⟨⟨ho, hl⟩, Nat.le_trans hB hb⟩
    · exact (h.keep k).bx p hp
  · rw [List.map_cons, List.nodup_cons]
    refine ⟨fun hm => ?_, h.nd⟩
    obtain ⟨q, hq, e⟩ := List.mem_map.1 hm
    have := (h.bx q hq).1.1.1
    simp only at e
    omega
theorem Marks.set (h : Marks w own ownr W0.heap.size ds) {b : Nat} {t : TypeId} {cs : Array Value} (hl : Lies w b t cs) (i : Nat) (u : Value) : Marks (w.setCell ⟨b, i, none⟩ u) own ownr W0.heap.size ds := by
  obtain ⟨Ds, h1, h2, h3⟩ := h
  refine ⟨Ds, h1, h2, fun D hD => ⟨(h3 D hD).1, ⟨by simpa [World.setCell] using (h3 D hD).2.1.1, (h3 D hD).2.1.2⟩, ?_⟩⟩
  exact (Below.heap_setCell w ⟨b, i, none⟩ u D (fun e => by
    have h4 := (h3 D hD).2.2
    rw [show D = b from e, show w.heap[b]? = _ from hl] at h4
    cases h4)).trans (h3 D hD).2.2
/-- A box is laid anew. -/
theorem Bz.set {b : Nat} {t : TypeId} {cs : Array Value} (h : Bz W0 w own ownr ((b, t, cs) :: xs) ds) (i : Nat) (u : Value) : Bz W0 (w.setCell ⟨b, i, none⟩ u) own ownr ((b, t, cs.setIfInBounds i u) :: xs) ds := by
  have hf := Fr.setCell w ⟨b, i, none⟩ u
  have off : ∀ c, Off w own ownr c → Off (w.setCell ⟨b, i, none⟩ u) own ownr c := fun c hc => ⟨Nat.lt_of_lt_of_le hc.1 hf.size, hc.2⟩
  have hd := h.bx _ List.mem_cons_self
  have hn := (List.nodup_cons.1 h.nd).1
  refine ⟨fun p hp => ?_, h.nd, h.m.set hd.1.2 i u⟩
  rcases List.mem_cons.1 hp with rfl | hp
  · exact ⟨⟨off _ hd.1.1, hd.1.2.set i u⟩, hd.2⟩
  · have hq := h.bx p (List.mem_cons_of_mem _ hp)
    exact ⟨⟨off _ hq.1.1, lies_fr hq.1.2 hf (fun e => hn (List.mem_map.2 ⟨p, hp, e⟩))⟩, hq.2⟩
theorem Bz.setp {b : Nat} {t : TypeId} {cs : Array Value} (h : Bz W0 w own ownr ((b, t, cs) :: xs) ds) (hp : Pz W0 w own ownr bl br g gr) (i : Nat) (u : Value) : Pz W0 (w.setCell ⟨b, i, none⟩ u) own ownr bl br g gr :=
  hp.aside (Fr.setCell w ⟨b, i, none⟩ u) (fun j hj => by
    subst hj
    have := h.bx _ List.mem_cons_self
    exact ⟨this.1.1.2, this.2⟩)
/-- A block that was made just now is neither store's. -/
theorem Pz.fresh (h : Pz W0 w own ownr bl br g gr) {i : Nat} (h1 : w.heap.size ≤ i) (h2 : i < w'.heap.size) : Off w' own ownr i := ⟨h2, fun e => by have := h.lt i e; omega, fun e => by have := h.ltr i e; omega⟩
theorem Pz.mine (h : Pz W0 w own ownr bl br g gr) {v : Value} {b : Bs} (hv : Bts w' (fun i => w.heap.size ≤ i) v b) : Mine w' own ownr v b := by
  refine ⟨hv.1, fun i e => h.fresh (hv.2 i e) ?_⟩
  rcases hv.1.2 with ⟨rfl, _⟩ | ⟨g', cap, cur, rfl, _, hg, _⟩
  · cases e
  · injection e with e
    subst e
    exact (Array.getElem?_eq_some_iff.1 hg).1
theorem ublock {own : Nat → Prop} {v : Value} {b : Bs} (hv : Bts w own v b) {i : Nat} (e : some i = v.ownBlock) : ∃ cur, Lies w i 5 cur := by
  rcases hv.1.2 with ⟨rfl, _⟩ | ⟨g', cap, cur, rfl, _, hg, _⟩
  · cases e
  · injection e with e
    subst e
    exact ⟨cur, hg⟩
theorem Mine.by {v : Value} {b : Bs} (hv : Mine w own ownr v b) : Byt w v b := Bts.byt hv
theorem Mine.aside {m : Nat → Prop} {v : Value} {b : Bs} (hv : Mine w own ownr v b) (hf : Fr w w' m) (hm : ∀ i, some i = v.ownBlock → ¬ m i) : Mine w' own ownr v b := by
  have h2 : Bts w (fun i => some i = v.ownBlock) v b := ⟨hv.1, fun g e => e.symm⟩
  have h3 := h2.kept hf hm
  exact ⟨h3.1, fun i e => ⟨Nat.lt_of_lt_of_le (hv.2 i e).1 hf.size, (hv.2 i e).2⟩⟩
/-- Bytes are cleared that are neither store's. -/
theorem Bz.clear (h : Bz W0 w own ownr xs ds) {v : Value} {b : Bs} (hv : Mine w own ownr v b) (hf : Fr w w' (fun i => some i = v.ownBlock)) (ht : ∀ p ∈ xs, p.2.1 ≠ 5) : Bz W0 w' own ownr xs ds := by
  have off : ∀ c, Off w own ownr c → Off w' own ownr c := fun c hc => ⟨Nat.lt_of_lt_of_le hc.1 hf.size, hc.2⟩
  refine ⟨fun p hp => ⟨⟨off _ (h.bx p hp).1.1, lies_fr (h.bx p hp).1.2 hf (fun e => ?_)⟩, (h.bx p hp).2⟩, h.nd, ?_⟩
  · obtain ⟨cur, hl⟩ := ublock hv e
    exact (h.bx p hp).1.2.ne hl (ht p hp) rfl
  · obtain ⟨Ds, h1, h2, h3⟩ := h.m
    refine ⟨Ds, h1, h2, fun D hD => ⟨(h3 D hD).1, off _ (h3 D hD).2.1, ?_⟩⟩
    refine (hf.block D (h3 D hD).2.1.1 (fun e => ?_)).trans (h3 D hD).2.2
    obtain ⟨cur, hl⟩ := ublock hv e
    have h4 := (h3 D hD).2.2
    rw [show w.heap[D]? = _ from hl] at h4
    cases h4
theorem Pz.clear (h : Pz W0 w own ownr bl br g gr) {v : Value} {b : Bs} (hv : Mine w own ownr v b) (hlo : ∀ i, some i = v.ownBlock → W0.heap.size ≤ i) (hf : Fr w w' (fun i => some i = v.ownBlock)) : Pz W0 w' own ownr bl br g gr :=
  h.aside hf (fun i hi => ⟨(hv.2 i hi.symm).2, hlo i hi⟩)
/-- What bytes that were just made lie in. -/
theorem made_block {v : Value} {b : Bs} (hv : Bts w' (fun i => w.heap.size ≤ i) v b) {i : Nat} (e : some i = v.ownBlock) : w.heap.size ≤ i ∧ i < w'.heap.size := by
  obtain ⟨cur, hl⟩ := ublock hv e
  exact ⟨hv.2 i e.symm, hl.lt⟩
/-- The boxes and the marks beside a copy and what it was made of. -/
theorem Bz.drop {own2 : Nat → Prop} (h : Bz W0 w (Or2 own own2) ownr xs ds) : Bz W0 w own2 ownr xs ds := by
  have off : ∀ c, Off w (Or2 own own2) ownr c → Off w own2 ownr c := fun c hc => ⟨hc.1, fun e => hc.2.1 (Or.inr e), hc.2.2⟩
  refine ⟨fun p hp => ⟨⟨off _ (h.bx p hp).1.1, (h.bx p hp).1.2⟩, (h.bx p hp).2⟩, h.nd, ?_⟩
  obtain ⟨Ds, h1, h2, h3⟩ := h.m
  exact ⟨Ds, h1, h2, fun D hD => ⟨(h3 D hD).1, off _ (h3 D hD).2.1, (h3 D hD).2.2⟩⟩
theorem Bz.sett {own2 : Nat → Prop} {bl2 : Nat} {g' : St} {b : Nat} {t : TypeId} {cs : Array Value} (h : Bz W0 w (Or2 own own2) ownr ((b, t, cs) :: xs) ds) (hp : Tz W0 w own own2 ownr bl bl2 br g' g gr) (i : Nat) (u : Value) : Tz W0 (w.setCell ⟨b, i, none⟩ u) own own2 ownr bl bl2 br g' g gr := by
  have hf := Fr.setCell w ⟨b, i, none⟩ u
  have hb := h.bx _ List.mem_cons_self
  have hno : ∀ j, j = b → ¬ own j ∧ ¬ own2 j ∧ ¬ ownr j ∧ W0.heap.size ≤ j := fun j e => by
    subst e
    exact ⟨fun e => hb.1.1.2.1 (Or.inl e), fun e => hb.1.1.2.1 (Or.inr e), hb.1.1.2.2, hb.2⟩
  refine ⟨hp.o.kept hf (fun k hk e => (hno k e).1 hk), hp.p.aside hf (fun j hj => ⟨⟨(hno j hj).2.1, (hno j hj).2.2.1⟩, (hno j hj).2.2.2⟩), fun j hj hM => ?_, hp.awayr, fun j hj => Nat.lt_of_lt_of_le (hp.lt j hj) hf.size, hp.lo⟩
  obtain ⟨ho, es, c, hh⟩ := hM
  refine hp.away j hj ⟨ho, es, c, ?_⟩
  rw [← hh]
  exact (hf.block j (hp.lt j ho) (fun e => (hno j e).1 ho)).symm
end

section
variable {W0 w w' : World} {own own' ownr ownr' : Nat → Prop} {bl br : Nat} {g gr : St} {ds : List Deferred} {xs ys : List Box}
theorem put_fr {A : World} {l : Nat} (o' : Obj) : Fr A (A.putObj l o') (fun i => i = l) := (Fr.of_grown (grownBy_putObj' A l o')).mono (fun k _ e => by injection e)
theorem no_cell {A : World} {l : Nat} {o : Obj} (h : A.heap[l]? = some o) (hc : o.isCells = false) (j : Nat) : A.cell? ⟨l, j, none⟩ = none := by
  unfold World.cell?
  rw [h]
  cases o <;> first | rfl | cases hc
theorem keepsP_put {A : World} {l : Nat} {o : Obj} (o' : Obj) (h : A.heap[l]? = some o) (hc : o.isCells = false) : KeepsP A (A.putObj l o') :=
  keepsP_fr (put_fr o') (fun i e j u hu => by subst e; rw [no_cell h hc] at hu; cases hu) (fun i e j _ => by subst e; exact no_cell h hc j)
theorem Bz.put (h : Bz W0 w own ownr xs ds) {l : Nat} (o' : Obj) (hx : ∀ p ∈ xs, p.1 ≠ l) (hd : ∀ D, markOf D ∈ ds → D ≠ l) : Bz W0 (w.putObj l o') own ownr xs ds := by
  have off : ∀ c, Off w own ownr c → Off (w.putObj l o') own ownr c := fun c hc => ⟨by rw [World.putObj_size]; exact hc.1, hc.2⟩
  refine ⟨fun p hp => ⟨⟨off _ (h.bx p hp).1.1, (World.putObj_heap_other (hx p hp)).trans (h.bx p hp).1.2⟩, (h.bx p hp).2⟩, h.nd, ?_⟩
  obtain ⟨Ds, h1, h2, h3⟩ := h.m
  exact ⟨Ds, h1, h2, fun D hD => ⟨(h3 D hD).1, off _ (h3 D hD).2.1, (World.putObj_heap_other (hd D (by rw [h1]; exact List.mem_map.2 ⟨D, hD, rfl⟩))).trans (h3 D hD).2.2⟩⟩
theorem Bz.mark (h : Bz W0 w own ownr xs ds) {l : Nat} (hB : W0.heap.size ≤ l) (ho : Off w own ownr l) (hl : w.heap[l]? = some (.deferred (some []))) (hd : ∀ D, markOf D ∈ ds → D ≠ l) : Bz W0 w own ownr xs (markOf l :: ds) := by
  refine ⟨h.bx, h.nd, ?_⟩
  obtain ⟨Ds, h1, h2, h3⟩ := h.m
  refine ⟨l :: Ds, by rw [h1]; rfl, List.nodup_cons.2 ⟨fun e => hd l (by rw [h1]; exact List.mem_map.2 ⟨l, e, rfl⟩) rfl, h2⟩, fun D hD => ?_⟩
  rcases List.mem_cons.1 hD with rfl | hD
  · exact ⟨hB, ho, hl⟩
  · exact h3 D hD
theorem mark_inj {D E : Nat} (h : markOf D = markOf E) : D = E := by
  unfold markOf at h
  injection h with h
  injection h
theorem Bz.lt (h : Bz W0 w own ownr xs ds) : (∀ p ∈ xs, p.1 < w.heap.size) ∧ ∀ D, markOf D ∈ ds → D < w.heap.size := by
  refine ⟨fun p hp => (h.bx p hp).1.1.1, fun D hD => ?_⟩
  obtain ⟨Ds, h1, h2, h3⟩ := h.m
  rw [h1] at hD
  obtain ⟨E, hE, e⟩ := List.mem_map.1 hD
  rw [← mark_inj e]
  exact (h3 E hE).2.1.1
theorem Pz.put (h : Pz W0 w own ownr bl br g gr) {l : Nat} (o' : Obj) (h1 : ¬ own l) (h2 : ¬ ownr l) (hB : W0.heap.size ≤ l) : Pz W0 (w.putObj l o') own ownr bl br g gr :=
  h.aside (put_fr o') (fun i e => by subst e; exact ⟨⟨h1, h2⟩, hB⟩)
end
set_option maxRecDepth 100000 in
set_option maxHeartbeats 2000000 in
theorem kvpairs_any (W : World) (bl : Nat) (a : A8) : Calls Try.prog 41 #[.pointer (some ⟨bl, 0, none⟩), a.v] W fun e w' => e = .returned (.func (.func 77) #[] #[.pointer (some ⟨W.heap.size, 0, none⟩), .pointer (some ⟨W.heap.size + 1, 0, none⟩)]) ∧ w' = (W.alloc (.cells #[.pointer (some ⟨bl, 0, none⟩)] 28)).alloc (.cells a.cs.toArray 24) := by
  simp only [A8.v]
  go_enter Try.func41, Try.ntmps41
  go_wp2
  go_ret
  exact ⟨rfl, rfl⟩

/-! ### deletes behind one another -/
def gdel (g : St) (a : A8) (ks : List Bs) : St := ks.foldl (fun g k => g.put a k none) g
theorem gdel_snoc (g : St) (a : A8) (ks : List Bs) (k : Bs) : gdel g a (ks ++ [k]) = (gdel g a ks).put a k none := by unfold gdel; rw [List.foldl_append]; rfl
theorem gdel_at {a : A8} {k : Bs} : ∀ (ks : List Bs) (g : St), k ∉ ks → gdel g a ks a k = g a k
  | [], _, _ => rfl
  | x :: ks, g, h => by
    have h1 : k ≠ x := fun e => h (e ▸ List.mem_cons_self)
    have h2 : k ∉ ks := fun e => h (List.mem_cons_of_mem _ e)
    have := gdel_at (a := a) ks (g.put a x none) h2
    unfold gdel at this ⊢
    rw [List.foldl_cons, this]
    exact put_other _ _ (fun e => h1 e.2)
theorem Bd.gdel {n : Nat} (a : A8) : ∀ (ks : List Bs) {g : St}, Bd n g → Bd n (gdel g a ks)
  | [], _, h => h
  | k :: ks, g, h => by
    have := Bd.gdel a ks (h.del a k)
    unfold Kv.gdel at this ⊢
    rw [List.foldl_cons]
    exact this
theorem tells_next {g : St} {a : A8} {P0 : List (Bs × Bs)} (h : Tells g a P0) {pre : List Pr} {k v : Bs} {rest : List (Bs × Bs)} (e : saidP pre ++ (k, v) :: rest = P0) :
    gdel g a (pre.map (·.k)) a k = some v ∧ pre.length < P0.length ∧ P0[pre.length]? = some (k, v) := by
  have hm : (k, v) ∈ P0 := by rw [← e]; exact List.mem_append_right _ List.mem_cons_self
  have h1 := (h.2 k v).1 hm
  have hno : k ∉ pre.map (·.k) := fun hk => by
    have ho := h.1.one
    unfold One at ho
    rw [← e, List.map_append, List.map_cons] at ho
    have h3 := (List.nodup_append.1 ho).2.2 k (by unfold saidP; rw [List.map_map]; exact hk) k List.mem_cons_self
    exact h3 rfl
  refine ⟨by rw [gdel_at _ _ hno]; exact h1, ?_, ?_⟩
  · rw [← e, List.length_append, saidP_len]; simp
  · rw [← e, List.getElem?_append_right (by rw [saidP_len]; omega), saidP_len, Nat.sub_self]
    rfl

/-! ### the loop over pairs -/
/-- What is there in a loop over pairs, behind those of 'pre': L and L + 1 are the loop's own two blocks. -/
def PI (W0 : World) (L bl br : Nat) (g : St) (a : A8) (b14 : Nat) (xs : List Box) (ds : List Deferred) (vw : Value) (T pre : List Pr) (Wi : World) : Prop := ∃ own ownr, Pz W0 Wi own ownr bl br (gdel g a (pre.map (·.k))) (gdel g a (pre.map (·.k))) ∧ Bz W0 Wi own ownr ((b14, 3, #[.int .i64 (pre.length : Int)]) :: xs) ds ∧ ShowsP Wi vw T ∧ (¬ own L ∧ ¬ own (L + 1) ∧ ¬ ownr L ∧ ¬ ownr (L + 1))
section
variable {W0 A B : World} {L bl br b14 : Nat} {g : St} {a : A8} {xs : List Box} {ds : List Deferred} {vw : Value} {T pre : List Pr}
theorem PI.later (h : PI W0 L bl br g a b14 xs ds vw T pre A) (hb : Below A.heap.size A B) : PI W0 L bl br g a b14 xs ds vw T pre B := by
  obtain ⟨own, ownr, h1, h2, h3, h4⟩ := h
  exact ⟨own, ownr, h1.later hb, h2.later hb, h3.later hb, h4⟩
theorem PI.put (h : PI W0 L bl br g a b14 xs ds vw T pre A) (hx : b14 < L ∧ ∀ p ∈ xs, p.1 < L) (hd : ∀ D, markOf D ∈ ds → D < L) (hL : W0.heap.size ≤ L) {l : Nat} {o : Obj} (o' : Obj) (h1 : L ≤ l) (h2 : l < L + 2) (ho : A.heap[l]? = some o) (hc : o.isCells = false) : PI W0 L bl br g a b14 xs ds vw T pre (A.putObj l o') := by
  obtain ⟨own, ownr, h3, h4, h5, h6⟩ := h
  have hl : l = L ∨ l = L + 1 := by omega
  refine ⟨own, ownr, h3.put o' (by rcases hl with rfl | rfl; exact h6.1; exact h6.2.1) (by rcases hl with rfl | rfl; exact h6.2.2.1; exact h6.2.2.2) (by omega), h4.put o' (fun p hp => ?_) (fun D hD => by have := hd D hD; omega), (keepsP_put o' ho hc).1 _ _ h5, h6⟩
  rcases List.mem_cons.1 hp with rfl | hp
  · have := hx.1; simp only; omega
  · have := hx.2 p hp; omega
theorem pairOf_put {P0 : List (Bs × Bs)} {x : Pr} {l : Nat} {o : Obj} (o' : Obj) (h : PairOf P0 pre x A) (ho : A.heap[l]? = some o) (hc : o.isCells = false) : PairOf P0 pre x (A.putObj l o') :=
  ⟨h.1, (keepsP_put o' ho hc).2 _ _ h.2.1, (keepsP_put o' ho hc).2 _ _ h.2.2⟩
theorem shows_at {w : World} {g0 off n c k : Nat} {y : Pr} (h : ShowsP w (.slice (some ⟨g0, off, none⟩) n c) T) (hk : T[k]? = some y) : PrAt w g0 (off + k * 2) y ∧ Byt w y.kv y.k ∧ Byt w y.vv y.v := by
  obtain ⟨⟨s, c', e, hs⟩, hb⟩ := h
  injection e with e1 e2 e3
  subst e1
  obtain ⟨g1, o1, e4, _, hc⟩ := hs (by intro e; rw [e] at hk; cases hk)
  injection e4 with e4
  injection e4 with e5 e6
  subst e5 e6
  exact ⟨prat hc hk, hb y (List.mem_of_getElem? hk)⟩
theorem shows_some {w : World} {s : Option Addr} {n c k : Nat} {y : Pr} (h : ShowsP w (.slice s n c) T) (hk : T[k]? = some y) : ∃ g0 off, s = some ⟨g0, off, none⟩ := by
  obtain ⟨⟨s', c', e, hs⟩, hb⟩ := h
  injection e with e1 e2 e3
  subst e1
  obtain ⟨g1, o1, e4, _, hc⟩ := hs (by intro e; rw [e] at hk; cases hk)
  exact ⟨g1, o1, e4⟩
theorem said_at {k : Nat} {p q : Bs} (h : (saidP T)[k]? = some (p, q)) : ∃ y, T[k]? = some y ∧ y.k = p ∧ y.v = q := by
  unfold saidP at h
  rw [List.getElem?_map] at h
  obtain ⟨y, hy, e⟩ := Option.map_eq_some_iff.1 h
  injection e with e1 e2
  exact ⟨y, hy, e1, e2⟩
/-- A counter's box is laid anew: pairs show as they did. -/
theorem keepsP_set {w : World} {b : Nat} {t : TypeId} {n : Int} (h : Lies w b t #[.int .i64 n]) (u : Value) : KeepsP w (w.setCell ⟨b, 0, none⟩ u) :=
  keepsP_fr (Fr.setCell w ⟨b, 0, none⟩ u) (fun i e j v hv => by
    subst e
    rw [h.cell j] at hv
    rcases j with _ | j
    · simp [u8v] at hv
    · simp at hv) (fun i e j hj => by
    subst e
    rw [h.cell j]
    rcases j with _ | j
    · exact absurd rfl hj
    · simp)
end

/-- A region along a plan within a round, that does not panic. -/
theorem regionR {P : Program} {ops : Array Oper} {Q : Exit → Act → World → Prop} {id l n : Nat} {a : Act} {w : World} (p : RP) (S : World → Prop) (hm : P.follows .mixedOrders = true)
    (hok : (Region.noSelect ops && (p.ok ops (Array.replicate ops.size false) && decide (p.size ≤ ops.size))) = true) (hd : noDefer ops = true) (hS : S w.drew) (h : S w.drew → p.go P ops (Calm Q) S a w.drew) : (Code.region id ops true).wpIn (Fence.wide.inRound l) n P Q a w :=
  wpIn_mono (RP.region_round (Q := Calm Q) p S hm hok hd (fun h => by obtain ⟨a, w, h⟩ := h; cases h.1) (fun _ _ _ _ _ h => by cases h.1) hS h) (fun e a w h => by obtain ⟨rfl, h⟩ := h; exact h)

/-! ### a constant's bytes -/
theorem bslice_oth (w : World) : (Instr.buildSlice 25 5 #[(0, .int .u8 111), (1, .int .u8 116), (2, .int .u8 104), (3, .int .u8 101), (4, .int .u8 114)]).run Try.prog w = .ok (.slice (some ⟨w.heap.size, 0, none⟩) 5 5) (w.alloc (.cells #[.int .u8 111, .int .u8 116, .int .u8 104, .int .u8 101, .int .u8 114] 5)) := by kernel_rfl
theorem wl_oth {ops : Array Oper} {rest : List Oper} {o1 o2 : Oper} {a : Act} {w : World} {Q : Exit → Act → World → Prop} (hg1 : o1.guard = none) (ho1 : o1.op = .buildSlice 25 5 #[(0, .const (.int .u8 111)), (1, .const (.int .u8 116)), (2, .const (.int .u8 104)), (3, .const (.int .u8 101)), (4, .const (.int .u8 114))]) (p : Operand) (hg2 : o2.guard = none) (ho2 : o2.op = .convert 25 25 p)
    (h0 : (a.put o1.dst (.slice (some ⟨w.heap.size, 0, none⟩) 5 5)).eval p = .slice (some ⟨w.heap.size, 0, none⟩) 5 5)
    (hk : ∀ w', Below w.heap.size w w' → Byt w' (.slice (some ⟨w.heap.size, 0, none⟩) 5 5) [111, 116, 104, 101, 114] → wpList Try.prog ops Q rest ((a.put o1.dst (.slice (some ⟨w.heap.size, 0, none⟩) 5 5)).put o2.dst (.slice (some ⟨w.heap.size, 0, none⟩) 5 5)) w') : wpList Try.prog ops Q (o1 :: o2 :: rest) a w := by
  have hb := bslice_oth w
  have hl : Lies (w.alloc (.cells #[.int .u8 111, .int .u8 116, .int .u8 104, .int .u8 101, .int .u8 114] 5)) w.heap.size 5 #[.int .u8 111, .int .u8 116, .int .u8 104, .int .u8 101, .int .u8 114] := Lies.new _ _ _
  obtain ⟨hf, hc⟩ := frz_fr hl
  have hm := frz_run hl 5 5
  refine wpList_plain hg1 fun K hK => ?_
  unfold Oper.wp execOp
  simp only [ho1, List.map_toArray, List.map_cons, List.map_nil, Act.eval, hb, Sem.run_bind, Sem.run_pure, Result.andThen_ok]
  refine hK _ _ (wpList_plain hg2 fun K2 hK2 => ?_)
  unfold Oper.wp execOp
  simp only [ho2, h0, hm, Sem.run_bind, Sem.run_pure, Result.andThen_ok]
  refine hK2 _ _ (hk _ (((Below.refl _ _).alloc (Nat.le_refl _) _).trans (hf.below (by simp) (fun k e => Nat.le_of_eq e.symm))) ⟨_, 5, rfl, fun _ => ⟨w.heap.size, 0, rfl, Nat.lt_of_lt_of_le hl.lt hf.size, fun j u hj => ?_⟩⟩)
  rw [Nat.zero_add, hc]
  rcases j with _ | _ | _ | _ | _ | j <;> simp at hj <;> subst hj <;> rfl
end Go.Proofs.Yteeghdkejnhjnaa.Kv
