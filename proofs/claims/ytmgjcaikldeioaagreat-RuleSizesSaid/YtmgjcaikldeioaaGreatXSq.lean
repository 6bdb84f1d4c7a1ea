/- A range over a function whose iterator only makes new memory between the rounds, and offers with each round what is known of its value. Over any program. -/
import Derived.RangeFuncNested
import Derived.Test.YtmgjcaikldeioaaGreatXBx
import Derived.Test.YtmgjcaikldeioaaGreatXRt
import Derived.RangeFuncCalls
import Derived.OrdersIn
namespace Go.Proofs.YtmgjcaikldeioaaGreat.Kt
open Go Go.RowKit

variable {F : Fence} {n : Nat} {P : Program} {α : Type}

/-- AN ITERATOR THAT OFFERS: each round is called with an x of which 'Of' holds there; a round keeps what 'Kp' says; S tells what was handed on in all; between the rounds memory is made and nothing else. -/
def SeqOff (F : Fence) (n : Nat) (P : Program) (g : Nat) (lb : Array Value) (encs : α → Array Value) (Of : List α → α → World → Prop) (Kp : World → World → Prop) (S : List α → Prop) (w : World) : Prop :=
 ∀ (l : Nat) (J Jx : List α → World → Prop) (W : World), Below w.heap.size w W →
  (∀ s A B, J s A → Below A.heap.size A B → J s B) → (∀ s A B, Jx s A → Below A.heap.size A B → Jx s B) →
  (∀ pre x W1, J pre W1 → Of pre x W1 → YieldAt F (n - 1) P l (encs x) W1 fun e W' => (e = .returned (.bool true) ∧ J (pre ++ [x]) W' ∧ Kp W1 W') ∨ (e = .returned (.bool false) ∧ Jx (pre ++ [x]) W')) →
  J [] W → CallsIn F n P g (#[.func (.yield l) #[] #[]] ++ lb) W fun e W' => (∃ v, e = .returned v) ∧ ((∃ xs, S xs ∧ J xs W') ∨ (∃ pre, Jx pre W'))

/-- What a round leaves: the loop's own two blocks (from b on) as they lay; its invariant, and what it must keep, if it goes on. -/
def offPost (b : Nat) (Kp : World → World → Prop) (I : World → Prop) (Ix : Code → World → Prop) (W : World) : Exit → Act → World → Prop
 | .normal, _, W' => (W'.heap[b]? = W.heap[b]? ∧ W'.heap[b + 1]? = W.heap[b + 1]?) ∧ Kp W W' ∧ I W'
 | .ret, _, W' => (W'.heap[b]? = W.heap[b]? ∧ W'.heap[b + 1]? = W.heap[b + 1]?) ∧ Ix .ret W'
 | .exit id, _, W' => (W'.heap[b]? = W.heap[b]? ∧ W'.heap[b + 1]? = W.heap[b + 1]?) ∧ Ix (.exit id) W'
 | .goto t, _, W' => (W'.heap[b]? = W.heap[b]? ∧ W'.heap[b + 1]? = W.heap[b + 1]?) ∧ Ix (.goto t) W'
 | .panic _, _, _ => False
 | .outgrown, _, _ => False

theorem wpIn_rangeFunc_off {g : Operand} {ps : Array Tmp} {assign body : Code} {Q : Exit → Act → World → Prop} {a : Act} {w : World}
  (hro : F.round = none) (h1 : 1 ≤ n) {gf : Nat} {lb : Array Value} (hg : a.eval g = .func (.func gf) #[] lb) (hFg : F.fn gf) (eg : ∀ args w, (callFunc gf args).run P w = .ok (.enter gf args) w)
  {encs : α → Array Value} {Of : List α → α → World → Prop} {Kp : World → World → Prop} {S : List α → Prop} {w0 : World} (hseq : SeqOff F (n - 1) P gf lb encs Of Kp S w0) (hb0 : Below w0.heap.size w0 w) (hps : ∀ x, (encs x).size = ps.size)
  (I : List α → World → Prop) (Ix : Code → List α → World → Prop) (hI : ∀ s A B, I s A → Below A.heap.size A B → I s B) (hIx : ∀ c s A B, Ix c s A → Below A.heap.size A B → Ix c s B)
  (hIp : ∀ s A l o o', I s A → w.heap.size ≤ l → l < w.heap.size + 2 → A.heap[l]? = some o → o.isCells = false → o.isWalk = false → I s (A.putObj l o'))
  (hIxp : ∀ c s A l o o', Ix c s A → w.heap.size ≤ l → l < w.heap.size + 2 → A.heap[l]? = some o → o.isCells = false → o.isWalk = false → Ix c s (A.putObj l o'))
  (hOp : ∀ s x A l o o', Of s x A → A.heap[l]? = some o → o.isCells = false → o.isWalk = false → Of s x (A.putObj l o'))
  (hKt : ∀ {A B C : World}, Kp A B → Kp B C → Kp A C) (hKp : ∀ A l o o', A.heap[l]? = some o → o.isCells = false → o.isWalk = false → Kp A (A.putObj l o'))
  (h0 : I [] w) (a1 : α → Act)
  (hassign : ∀ (l : Nat) (x : α) (W : World) (K : Act → World → Prop), K (a1 x) W →
   assign.wpIn (F.inRound l) (n - 1 - 1) P (Exit.then K (fun _ _ _ => False)) { tmps := (ps.zip (encs x)).foldl (fun t (p, v) => t.setIfInBounds p v) a.tmps, defers := [] } W)
  (hbody : ∀ (l : Nat) (pre : List α) (x : α) (W : World), w.heap.size + 2 ≤ W.heap.size → I pre W → Of pre x W → body.wpIn (F.inRound l) (n - 1 - 1) P (offPost w.heap.size Kp (I (pre ++ [x])) (fun c => Ix c (pre ++ [x])) W) (a1 x) W)
  (hdone : ∀ (xs : List α) (W : World), S xs → I xs W → W.heap[w.heap.size]? = some (.deferred (some [])) → Q .normal { a with defers := { target := .collected w.heap.size, args := #[] } :: a.defers } W)
  (hstop : ∀ (c : Code) (pre : List α) (W : World), Ix c pre W → W.heap[w.heap.size]? = some (.deferred (some [])) → c.wpIn F n P Q { a with defers := { target := .collected w.heap.size, args := #[] } :: a.defers } W) :
  (Code.rangeFunc g ps assign body).wpIn F n P Q a w := by
 refine wpIn_rangeFunc fun fn hfn => ?_
 rw [hro]
 obtain ⟨b, hb⟩ : ∃ b, b = w.heap.size := ⟨_, rfl⟩
 obtain ⟨R, hR⟩ : ∃ R : LoopState → Option Code → Loop, R = fun st pe => { state := st, pending := pe, fn, tmps := a.tmps, params := ps, assign, body, defers := w.heap.size } := ⟨_, rfl⟩
 obtain ⟨W1, hW1⟩ : ∃ W1, W1 = (w.alloc (.deferred (some []))).alloc (.loop (R .ready none)) := ⟨_, rfl⟩
 have hbelow : Below w.heap.size w W1 := hW1 ▸ (((Below.refl _ w).alloc (Nat.le_refl _) _).alloc (by simp) _)
 have hlay : W1.heap[b]? = some (.deferred (some [])) ∧ W1.heap[b + 1]? = some (.loop (R .ready none)) := by
  rw [hW1, hb]
  have e2 := World.alloc_heap_new (w.alloc (.deferred (some []))) (.loop (R .ready none))
  rw [World.size_alloc] at e2
  exact ⟨(Below.heap_alloc _ _ _ (by simp)).trans (World.alloc_heap_new w _), e2⟩
 have lt_of : ∀ {A : World} {k : Nat} {o : Obj}, A.heap[k]? = some o → k < A.heap.size := fun h => (Array.getElem?_eq_some_iff.1 h).1
 refine ⟨w.heap.size + 1, [{ target := .collected w.heap.size, args := #[] }], W1, { target := .fn (.func gf) lb, args := #[.func (.yield (w.heap.size + 1)) #[] #[]] }, W1, gf, #[.func (.yield (w.heap.size + 1)) #[] #[]] ++ lb, W1, ?_, ?_, ?_, ?_, fun _ => h1, ?_⟩
 ·rw [hW1, hR]; exact run_enterLoop_outer _ _ _ _ _
 ·simp only [resolve, hg]; simp [go_sem]
 ·intro f' hf'
  simp [Target.leads] at hf'
  subst hf'
  exact hFg
 ·simp [invoke, go_sem, eg]
 rw [← hb] at hdone hstop hbody hIp hIxp ⊢
 refine (hseq (b + 1) (fun pre W => I pre W ∧ W.heap[b + 1]? = some (.loop (R .ready none)) ∧ W.heap[b]? = some (.deferred (some [])))
  (fun pre W => ∃ c, Ix c pre W ∧ W.heap[b + 1]? = some (.loop (R .done (some c))) ∧ W.heap[b]? = some (.deferred (some []))) W1 (hb0.trans (hbelow.mono hb0.size))
  (fun s A B h hAB => ⟨hI s A B h.1 hAB, (hAB.block _ (lt_of h.2.1)).trans h.2.1, (hAB.block _ (lt_of h.2.2)).trans h.2.2⟩)
  (fun s A B h hAB => by obtain ⟨c, h1, h2, h3⟩ := h; exact ⟨c, hIx c s A B h1 hAB, (hAB.block _ (lt_of h2)).trans h2, (hAB.block _ (lt_of h3)).trans h3⟩) ?_ ⟨hI _ _ _ h0 hbelow, hlay.2, hlay.1⟩).mono ?_
 ·rintro pre x W ⟨hi, hl, hd⟩ hof
  have hlt := lt_of hl
  have hy := run_yield (P := P) (args := encs x) hl (by rw [hR]; exact hps x)
  rw [hR] at hy
  refine ⟨fn, _, assign, body, hy, roundIn_of_wpIn hfn (hassign _ x W _ ⟨_, run_beginRound hl (by rw [hR]), ?_⟩)⟩
  clear hy
  obtain ⟨V, hV⟩ : ∃ V, V = W.putObj (b + 1) (.loop { R .ready none with state := .busy }) := ⟨_, rfl⟩
  rw [← hV]
  have hlV : V.heap[b + 1]? = some (.loop { R .ready none with state := .busy }) := hV ▸ World.putObj_heap_same hlt
  have hdV : V.heap[b]? = some (.deferred (some [])) := hV ▸ ((World.putObj_heap_other (by omega)).trans hd)
  have hKV : Kp W V := hV ▸ hKp _ _ _ _ hl rfl rfl
  have hsz : b + 2 ≤ V.heap.size := by have := lt_of hlV; omega
  refine wpIn_mono (hbody _ pre x V hsz (hV ▸ hIp _ _ _ _ _ hi (by omega) (by omega) hl rfl rfl) (hV ▸ hOp _ _ _ _ _ _ hof hl rfl rfl)) ?_
  have fin : ∀ (jump : Option Code) (X : World), (X.heap[b]? = V.heap[b]? ∧ X.heap[b + 1]? = V.heap[b + 1]?) →
    (Instr.endRound (b + 1) jump).run P X = .ok (.bool jump.isNone) (X.putObj (b + 1) (.loop (R (if jump.isNone then .ready else .done) jump))) ∧ X.heap[b + 1]? = some (.loop { R .ready none with state := .busy }) ∧
    (X.putObj (b + 1) (.loop (R (if jump.isNone then .ready else .done) jump))).heap[b + 1]? = some (.loop (R (if jump.isNone then .ready else .done) jump)) ∧
    (X.putObj (b + 1) (.loop (R (if jump.isNone then .ready else .done) jump))).heap[b]? = some (.deferred (some [])) := fun jump X hX => by
   have hlX := hX.2.trans hlV
   have hr := run_endRound (P := P) jump hlX
   refine ⟨?_, hlX, World.putObj_heap_same (lt_of hlX), (World.putObj_heap_other (by omega)).trans (hX.1.trans hdV)⟩
   rw [hR] at hr ⊢
   exact hr
  rintro e a3 X hp
  cases e with
  | normal =>
   obtain ⟨hX, hk, hi3⟩ := hp
   obtain ⟨f1, f2, f3, f4⟩ := fin none X hX
   exact ⟨_, _, f1, .inl ⟨rfl, ⟨hIp _ _ _ _ _ hi3 (by omega) (by omega) f2 rfl rfl, f3, f4⟩, hKt hKV (hKt hk (hKp _ _ _ _ f2 rfl rfl))⟩⟩
  | ret =>
   obtain ⟨hX, hi3⟩ := hp
   obtain ⟨f1, f2, f3, f4⟩ := fin (some .ret) X hX
   exact ⟨_, _, f1, .inr ⟨rfl, .ret, hIxp _ _ _ _ _ _ hi3 (by omega) (by omega) f2 rfl rfl, f3, f4⟩⟩
  | exit id =>
   obtain ⟨hX, hi3⟩ := hp
   obtain ⟨f1, f2, f3, f4⟩ := fin (some (.exit id)) X hX
   exact ⟨_, _, f1, .inr ⟨rfl, .exit id, hIxp _ _ _ _ _ _ hi3 (by omega) (by omega) f2 rfl rfl, f3, f4⟩⟩
  | goto t =>
   obtain ⟨hX, hi3⟩ := hp
   obtain ⟨f1, f2, f3, f4⟩ := fin (some (.goto t)) X hX
   exact ⟨_, _, f1, .inr ⟨rfl, .goto t, hIxp _ _ _ _ _ _ hi3 (by omega) (by omega) f2 rfl rfl, f3, f4⟩⟩
  | panic c => exact hp.elim
  | outgrown => exact hp.elim
 ·rintro e W2 ⟨⟨v, rfl⟩, (⟨xs, hS, hi, hl, hd⟩ | ⟨pre, c, hi, hl, hd⟩)⟩
  ·have he := run_endLoop (P := P) hl (by rw [hR]; simp)
   refine ⟨none, _, by rw [hR] at he; exact he, ?_⟩
   exact hdone xs _ hS (hIp _ _ _ _ _ hi (by omega) (by omega) hl rfl rfl) ((World.putObj_heap_other (by omega)).trans hd)
  ·have he := run_endLoop (P := P) hl (by rw [hR]; simp)
   refine ⟨some c, _, by rw [hR] at he; exact he, ?_⟩
   exact hstop c pre _ (hIxp _ _ _ _ _ _ hi (by omega) (by omega) hl rfl rfl) ((World.putObj_heap_other (by omega)).trans hd)
end Go.Proofs.YtmgjcaikldeioaaGreat.Kt

/- A region that draws its order in the body of a range over a function: what the plans (RP) show of it outside a round holds within. Over any program. -/
namespace Go.Proofs.YtmgjcaikldeioaaGreat.Kt
open Go Go.RowKit

variable {P : Program} {ops : Array Oper} {Q : Exit → Act → World → Prop} {n : Nat}
theorem op_round (l : Nat) {o : Oper} {a : Act} {w : World} {K : Act → World → Prop} (hd : ∀ c, o.op ≠ .defer c) (h : Oper.wp P o a w K Q) : Oper.wpIn (Fence.wide.inRound l) n P o a w K Q := by
 refine ⟨fun _ _ => trivial, ?_⟩
 rw [Oper.semAt_eq _ _ _ hd]
 unfold Oper.wp at h
 generalize (execOp a.eval o).run P w = r at *
 cases r with
 | ok x w' =>
  cases x with
  | value v => exact h
  | skip => exact h
  | defer d => exact h
  | enter f args => exact ⟨fun e => by simp [Fence.wide] at e, CallsIn.inRound l (callsIn_wide.2 h)⟩
  | row r args =>
   refine ⟨fun e => by simp [Fence.wide] at e, fun c cs _ => ?_⟩
   obtain ⟨v, w'', hr, hs⟩ := h c cs
   exact ⟨v, w'', hr, stepsIn_wide.2 hs⟩
  | _ => exact h.elim
 | halt x w' =>
  cases x <;> exact h

def noDefer (ops : Array Oper) : Bool := ops.all fun o => match o.op with | .defer _ => false | _ => true
theorem noDefer_spec (h : noDefer ops = true) {i : Nat} {o : Oper} (hi : ops[i]? = some o) : ∀ c, o.op ≠ .defer c := by
 intro c hc
 have := (Array.all_eq_true_iff_forall_mem.1 h) o (Array.mem_of_getElem? hi)
 rw [hc] at this
 cases this
theorem wpAny_round (l : Nat) (hd : noDefer ops = true) (hL : ¬ LetsOut Q) : ∀ (m : Nat) (L : Array Bool) (a : Act) (w : World), wpAny P .any ops Q m L a w → wpAnyIn (Fence.wide.inRound l) n P .any ops Q m L a w
 | 0, _, _, _, h => h
 | m + 1, L, a, w, h => by
  refine ⟨h.1, fun i hi => ?_⟩
  have h2 := h.2 i hi
  unfold wpOp at h2
  unfold wpOpIn
  split
  ·rename_i ho
   simp only [ho] at h2
   exact wpAny_round l hd hL m _ _ _ h2
  ·rename_i o ho
   simp only [ho] at h2
   split
   ·rename_i hw
    simp only [hw, if_true] at h2
    rcases h2 with h2 | h2
    ·exact Oper.wpIn_mono (fun a w => wpAny_round l hd hL m _ a w) (op_round l (noDefer_spec hd ho) h2)
    ·exact absurd h2.2 hL
   ·rename_i hw
    simp only [hw] at h2
    exact ⟨fun _ _ => trivial, wpAny_round l hd hL m _ _ _ h2⟩

/-- THE REGION WITHIN A ROUND, ALONG A PLAN. -/
theorem RP.region_round {l : Nat} {id : Nat} {a : Act} {w : World} (p : RP) (S : World → Prop) (hm : P.follows .mixedOrders = true)
  (hok : (Region.noSelect ops && (p.ok ops (Array.replicate ops.size false) && decide (p.size ≤ ops.size))) = true) (hd : noDefer ops = true) (hL : ¬ LetsOut Q)
  (hQ : ∀ (c : List PanicEntry) (a : Act) (d : Option Tmp) (v : Value) (w : World), Q (.panic c) (a.put d v) w → Q (.panic c) a w)
  (hS : S w.drew) (h : S w.drew → p.go P ops Q S a w.drew) : (Code.region id ops true).wpIn (Fence.wide.inRound l) n P Q a w := by
 simp only [Bool.and_eq_true, decide_eq_true_eq] at hok
 exact wpIn_region_any hm (wpAny_round l hd hL _ _ _ _ (wpAny_of_held _ _ _ _ (RP.held hok.1 hQ p _ _ _ _ hok.2.2 hok.2.1 hS (h hS))))
end Go.Proofs.YtmgjcaikldeioaaGreat.Kt
