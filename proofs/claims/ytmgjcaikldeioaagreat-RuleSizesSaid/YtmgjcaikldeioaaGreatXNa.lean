/- What a module's checker comes to, plain: the first error, the heights. No code in sight. -/
import Derived.Test.YtmgjcaikldeioaaGreatXGl
import Derived.Test.YtmgjcaikldeioaaGreatXUf
import Derived.Test.YtmgjcaikldeioaaGreatXUj
namespace Go.Proofs.YtmgjcaikldeioaaGreat.Va
open Gr

/-- An error is noted, unless there is one, or something is so. -/
def mst (e : Nat) (b : Bool) (x : Nat) : Nat := if e = 0 ∧ b = false then x else e
theorem mst_ne {e x : Nat} {b : Bool} (h : e ≠ 0) : mst e b x = e := if_neg (fun c => h c.1)
theorem mst_true {e x : Nat} : mst e true x = e := if_neg (fun c => by cases c.2)
theorem mst_zero {e x : Nat} {b : Bool} (hx : x ≠ 0) : mst e b x = 0 ↔ e = 0 ∧ b = true := by
 unfold mst
 cases b with
 | true => simp
 | false =>
  by_cases he : e = 0
  ·rw [if_pos ⟨he, rfl⟩]; simp [hx]
  ·rw [if_neg (fun c => he c.1)]; simp [he]
/-- Each of a list, till there is an error. -/
def eachE {α : Type} (f : α → Nat → Nat) : List α → Nat → Nat
 | [], e => e
 | x :: r, e => if e = 0 then eachE f r (f x e) else e
theorem eachE_ne {α : Type} {f : α → Nat → Nat} : ∀ {l : List α} {e : Nat}, e ≠ 0 → eachE f l e = e
 | [], _, _ => rfl
 | _ :: _, _, h => if_neg h
theorem eachE_zero {α : Type} {f : α → Nat → Nat} (hf : ∀ x e, f x e = 0 → e = 0) : ∀ {l : List α} {e : Nat}, eachE f l e = 0 ↔ e = 0 ∧ ∀ x ∈ l, f x 0 = 0
 | [], e => by simp [eachE]
 | x :: r, e => by
  rw [eachE]
  by_cases he : e = 0
  ·subst he
   rw [if_pos rfl]
   rw [eachE_zero hf]
   simp
  ·rw [if_neg he]
   simp [he]
theorem eachE_snoc {α : Type} {f : α → Nat → Nat} (x : α) : ∀ {l : List α} {e : Nat}, eachE f l e = 0 → eachE f (l ++ [x]) e = f x 0
 | [], e, h => by
  have h : e = 0 := h
  subst h
  rfl
 | y :: r, e, h => by
  rw [List.cons_append, eachE] at *
  by_cases he : e = 0
  ·subst he
   rw [if_pos rfl] at *
   exact eachE_snoc x h
  ·rw [if_neg he] at h; exact absurd h he
theorem eachE_app {α : Type} {f : α → Nat → Nat} (l2 : List α) : ∀ {l : List α} {e : Nat}, eachE f l e ≠ 0 → eachE f (l ++ l2) e = eachE f l e
 | [], e, h => eachE_ne h
 | y :: r, e, h => by
  rw [List.cons_append, eachE] at *
  by_cases he : e = 0
  ·subst he
   rw [if_pos rfl] at *
   rw [eachE, if_pos rfl]
   exact eachE_app l2 h
  ·rw [if_neg he, eachE, if_neg he]
def intB (t : UInt8) : Bool := !(t != 127 && t != 126)
def cntK (m : Mod) (k : UInt8) : Nat := if k = 0 then cnt m else if k = 1 then (bsOf m).length else if k = 2 then (msOf m).length else if k = 3 then (gsOf m).length else 0
def thereB (m : Mod) (k : UInt8) (i : Nat) : Bool := decide (i < cntK m k)
def gl (m : Mod) (i : Nat) : Gt := ((gsOf m)[i]?).getD ⟨0, false⟩
/-- An expression is a constant of a type. -/
def constE (m : Mod) (l : List Ins) (t : UInt8) (e : Nat) : Nat :=
 match l with
 | [x] => if e ≠ 0 then e else if x.op = 65 then mst 0 (t == 127) 100 else if x.op = 66 then mst 0 (t == 126) 100
  else if x.op = 35 then mst (mst (mst 0 (decide (x.a < (fk m 3).length)) 80) (!(gl m x.a).m) 110) ((gl m x.a).t == t) 100
  else 110
 | _ => mst e false 110
def limE (l : Lim) (most : Int) (e : Nat) : Nat := mst (mst e (l.mx == -1 || (decide ((l.mn : Int) ≤ l.mx) && decide (l.mx ≤ most))) 112) (decide ((l.mn : Int) ≤ most)) 112
def limO (o : Option Lim) (most : Int) (e : Nat) : Nat := match o with
 | some l => limE l most e
 | none => e
def storesE (m : Mod) (e : Nat) : Nat :=
 limO (msOf m)[0]? 65536 (limO (bsOf m)[0]? 4294967295 (mst e (decide ((bsOf m).length ≤ 1) && decide (((msOf m).length : Int) ≤ 1)) 112))
def impE (m : Mod) (x : Imp) (e : Nat) : Nat := if x.kind = 0 then mst e (m.types[x.ty]?).isSome 80 else if x.kind = 3 then mst e (intB x.gt.t) 100 else e
def typE (t : Ft) (e : Nat) : Nat := mst e (decide (t.r.length ≤ 1) && t.p.all intB && t.r.all intB) 100
def glbE (m : Mod) (g : Glb) (e : Nat) : Nat := constE m g.il g.gt.t (mst e (intB g.gt.t) 100)
def nmL (b : ByteArray) : List UInt8 := b.data.toList
/-- The exports, with the names that were there. -/
def expE (m : Mod) : List Exp → List (List UInt8) → Nat → Nat
 | [], _, e => e
 | x :: r, ns, e => if e = 0 then expE m r (ns ++ [nmL x.nm]) (mst (mst 0 (thereB m x.kind x.ix) 80) (!decide (nmL x.nm ∈ ns)) 111) else e
def startB (m : Mod) : Bool := match ftype m m.st with
 | some f => f.p == [] && f.r == []
 | none => false
def elmE (m : Mod) (x : Elm) (e : Nat) : Nat := eachE (fun f e => mst e (thereB m 0 f) 80) x.fs (constE m x.ol 127 (mst e (thereB m 1 x.tb) 80))
def datE (m : Mod) (x : Dat) (e : Nat) : Nat := constE m x.ol 127 (mst e (thereB m 2 x.mem) 80)
end Go.Proofs.YtmgjcaikldeioaaGreat.Va
/- A module's checker in memory: must, there; how many a space has; whole. -/
namespace Go.Proofs.YtmgjcaikldeioaaGreat.Va
open Go Go.RowKit Go.Lib Kt Fm Gr

/-- The cells of a checker. -/
def vcs (m : Mod) (S0 e : Nat) : List Value := m.cs ++ [.pointer (some ⟨S0, 0, none⟩), .int .i64 e]
/-- A checker in memory. -/
structure Vk (W1 : World) (kb S0 : Nat) (m : Mod) (e : Nat) (w : World) : Prop where
 bel : Below W1.heap.size W1 w
 cell : Lies w kb 94 (vcs m S0 e).toArray
 hk : W1.heap.size ≤ kb
section
variable {W1 w w' : World} {kb S0 : Nat} {m : Mod} {e : Nat}
theorem Vk.later (h : Vk W1 kb S0 m e w) (hb : Below w.heap.size w w') : Vk W1 kb S0 m e w' := ⟨bt h.bel hb, h.cell.below hb h.cell.lt, h.hk⟩
theorem Vk.keep {B : Nat} {t : TypeId} {cs : Array Value} (h : Vk W1 kb S0 m e w) (hl : Lies w B t cs) (ht : t ∉ [94]) (hf : Fr w w' (fun k => k = kb)) : Lies w' B t cs :=
 lies_frT hl (FrT.field h.cell hf) ht
theorem Vk.row {base : Nat} {t : TypeId} {sz n : Nat} {v : Value} {xs : List Value} (h : Vk W1 kb S0 m e w) (hl : w.ownsRow base t sz v n xs) (ht : t ∉ [94]) (hf : Fr w w' (fun k => k = kb)) : w'.ownsRow base t sz v n xs :=
 row_frT hl (FrT.field h.cell hf) ht
theorem Vk.put {B : Nat} {t : TypeId} {cs : Array Value} (h : Vk W1 kb S0 m e w) (hl : Lies w B t cs) (ht : 94 ∉ [t]) (hB : W1.heap.size ≤ B) (hf : Fr w w' (fun k => k = B)) : Vk W1 kb S0 m e w' :=
 ⟨h.bel.trans (hf.below h.bel.size (fun k hk => by rw [hk]; exact hB)), lies_frT h.cell (FrT.field hl hf) ht, h.hk⟩
theorem Vk.s (h : Vk W1 kb S0 m e w) : w.cell? ⟨kb, 12, none⟩ = some (.pointer (some ⟨S0, 0, none⟩)) := h.cell.cell 12
theorem Vk.c13 (h : Vk W1 kb S0 m e w) : w.cell? ⟨kb, 13, none⟩ = some (.int .i64 e) := h.cell.cell 13
end
theorem fr_new {w0 w w' : World} {p : Nat → Prop} {B : Nat} (h : Fr w0 w p) (hf : Fr w w' (fun k => k = B)) (hB : w0.heap.size ≤ B) : Fr w0 w' p :=
 ⟨hf.os.trans h.os, hf.tape.trans h.tape, hf.output.trans h.output, Nat.le_trans h.size hf.size, fun k hk hn => (hf.block k (Nat.lt_of_lt_of_le hk h.size) (by omega)).trans (h.block k hk hn)⟩
theorem siz_errno : (Tryz.prog.info? 36).map (·.size) = some 1 := by kernel_rfl
/-- What a check says. -/
def VSays (W1 : World) (kb S0 : Nat) (m : Mod) (w : World) (e : Nat) (en : Ending) (w' : World) : Prop := en = .returned (.tuple #[]) ∧ Vk W1 kb S0 m e w' ∧ Fr w w' (fun k => k = kb)
set_option maxRecDepth 100000 in
set_option maxHeartbeats 8000000 in
theorem must_any {W1 w : World} {kb S0 : Nat} {m : Mod} {e : Nat} (h : Vk W1 kb S0 m e w) (b : Bool) (x : Nat) :
  Calls Tryz.prog 29 #[.pointer (some ⟨kb, 0, none⟩), .bool b, .int .i64 x] w fun en w' => VSays W1 kb S0 m w (mst e b x) en w' := by
 have HV := zh h
 have c13 := h.c13
 clear h
 by_cases he : e = 0
 ·subst he
  cases b with
  | false =>
   go_enter Tryz.func29, Tryz.ntmps29
   go_wp2_with (refine wl_fld (c0 := vcs m S0 0) HV.out.cell _ _ rfl rfl rfl rfl [.int .i64 x] (vcs m S0 x) rfl siz_errno (by intro u hu; obtain rfl := List.mem_singleton.1 hu; rfl) (by simp [vcs, Mod.cs]) rfl (fun w1 hl1 hf1 => ?_); have HL := zh hl1; have HF := zh hf1; clear hl1 hf1; (try simp only [Act.put]))
   go_end0
   exact ⟨rfl, ⟨HV.out.bel.trans (HF.out.below HV.out.bel.size (fun k hk => by rw [hk]; exact HV.out.hk)), HL.out, HV.out.hk⟩, HF.out⟩
  | true =>
   go_enter Tryz.func29, Tryz.ntmps29
   go_wp2_with fail
   go_end0
   exact ⟨rfl, HV.out, Fr.refl _ _⟩
 ·have h1 : ¬ (e : Int) = 0 := by omega
  have h2 : ((e : Int) == 0) = false := by rw [beq_eq_false_iff_ne]; omega
  have HM := zh (mst_ne (x := x) (b := b) he)
  clear he
  go_enter Tryz.func29, Tryz.ntmps29
  go_wp2_with fail
  go_end0
  exact ⟨rfl, by rw [HM.out]; exact HV.out, Fr.refl _ _⟩
set_option maxRecDepth 100000 in
set_option maxHeartbeats 8000000 in
theorem count0 {W : World} {S0 : Nat} {m : Mod} (h : SpX W S0 m) :
  Calls Tryz.prog 13 #[.pointer (some ⟨S0, 0, none⟩), .int .u8 0] W fun e w' => e = .returned (.int .i64 (cnt m : Nat)) ∧ Below W.heap.size W w' := by
 obtain ⟨B, TS, tv, fv, gv, bv, mv, ev, hS, hmap⟩ := h
 obtain ⟨sf, cf, rfl, _, _⟩ := row_form hS.f
 obtain ⟨sg, cg, rfl, _, _⟩ := row_form hS.g
 obtain ⟨sb, cb, rfl, _, _⟩ := row_form hS.b
 obtain ⟨sm, cm, rfl, _, _⟩ := row_form hS.m
 have hl : ((allTy m).map (tyOf TS)).length = cnt m := by rw [List.length_map, allTy_len]
 have HS := zh hS
 rw [hl] at HS
 clear hS hmap hl
 generalize gsOf m = GS at HS ⊢
 generalize bsOf m = BS at HS ⊢
 generalize msOf m = MS at HS ⊢
 go_enter Tryz.func13, Tryz.ntmps13
 go_wp2_with fail
 refine wp_region_t [(0, 1), (1, 1), (2, 1), (3, 1), (4, 1), (5, 1), (6, 1), (7, 1), (8, 1), (9, 1), (10, 1), (11, 1), (12, 1), (13, 1), (14, 1), (15, 1), (16, 1), (17, 1), (18, 1), (19, 1), (20, 1), (21, 1), (22, 1), (23, 1)] (fun w' => w'.cell? ⟨S0, 1, none⟩ = some (.slice sf (cnt m) cf) ∧ w'.cell? ⟨S0, 2, none⟩ = some (.slice sg GS.length cg) ∧ w'.cell? ⟨S0, 3, none⟩ = some (.slice sb BS.length cb) ∧ w'.cell? ⟨S0, 4, none⟩ = some (.slice sm MS.length cm)) [] [] rfl (by kernel_rfl) (by kernel_rfl) (fun _ _ d _ _ h => by cases d <;> exact h) ⟨HS.out.lies.cell 1, HS.out.lies.cell 2, HS.out.lies.cell 3, HS.out.lies.cell 4⟩ (fun p hp => by cases hp) ?_
 have HB := zh (below_drew W)
 generalize W.drew = V at HB ⊢
 repeat (first | (refine ts_take (v := ?_) rfl rfl (fun w' hw' => ?_) ?_; rotate_left; (focus (obtain ⟨q1, q2, q3, q4⟩ := hw'; (try simp only [Act.put, sA, sB, sC]); go_simp; (try go_bits); (try (with_reducible rfl)))); (try simp only [Act.put, sA, sB, sC])) | (refine ts_skip rfl rfl ?_; (try simp only [Act.put, sA, sB, sC])))
 refine ts_done ?_
 go_wp2_with fail
 go_ret
 exact ⟨rfl, HB.out⟩
set_option maxRecDepth 100000 in
set_option maxHeartbeats 8000000 in
theorem count1 {W : World} {S0 : Nat} {m : Mod} (h : SpX W S0 m) :
  Calls Tryz.prog 13 #[.pointer (some ⟨S0, 0, none⟩), .int .u8 1] W fun e w' => e = .returned (.int .i64 ((bsOf m).length : Nat)) ∧ Below W.heap.size W w' := by
 obtain ⟨B, TS, tv, fv, gv, bv, mv, ev, hS, hmap⟩ := h
 obtain ⟨sf, cf, rfl, _, _⟩ := row_form hS.f
 obtain ⟨sg, cg, rfl, _, _⟩ := row_form hS.g
 obtain ⟨sb, cb, rfl, _, _⟩ := row_form hS.b
 obtain ⟨sm, cm, rfl, _, _⟩ := row_form hS.m
 have hl : ((allTy m).map (tyOf TS)).length = cnt m := by rw [List.length_map, allTy_len]
 have HS := zh hS
 rw [hl] at HS
 clear hS hmap hl
 generalize gsOf m = GS at HS ⊢
 generalize bsOf m = BS at HS ⊢
 generalize msOf m = MS at HS ⊢
 go_enter Tryz.func13, Tryz.ntmps13
 go_wp2_with fail
 refine wp_region_t [(0, 1), (1, 1), (2, 1), (3, 1), (4, 1), (5, 1), (6, 1), (7, 1), (8, 1), (9, 1), (10, 1), (11, 1), (12, 1), (13, 1), (14, 1), (15, 1), (16, 1), (17, 1), (18, 1), (19, 1), (20, 1), (21, 1), (22, 1), (23, 1)] (fun w' => w'.cell? ⟨S0, 1, none⟩ = some (.slice sf (cnt m) cf) ∧ w'.cell? ⟨S0, 2, none⟩ = some (.slice sg GS.length cg) ∧ w'.cell? ⟨S0, 3, none⟩ = some (.slice sb BS.length cb) ∧ w'.cell? ⟨S0, 4, none⟩ = some (.slice sm MS.length cm)) [] [] rfl (by kernel_rfl) (by kernel_rfl) (fun _ _ d _ _ h => by cases d <;> exact h) ⟨HS.out.lies.cell 1, HS.out.lies.cell 2, HS.out.lies.cell 3, HS.out.lies.cell 4⟩ (fun p hp => by cases hp) ?_
 have HB := zh (below_drew W)
 generalize W.drew = V at HB ⊢
 repeat (first | (refine ts_take (v := ?_) rfl rfl (fun w' hw' => ?_) ?_; rotate_left; (focus (obtain ⟨q1, q2, q3, q4⟩ := hw'; (try simp only [Act.put, sA, sB, sC]); go_simp; (try go_bits); (try (with_reducible rfl)))); (try simp only [Act.put, sA, sB, sC])) | (refine ts_skip rfl rfl ?_; (try simp only [Act.put, sA, sB, sC])))
 refine ts_done ?_
 go_wp2_with fail
 go_ret
 exact ⟨rfl, HB.out⟩
set_option maxRecDepth 100000 in
set_option maxHeartbeats 8000000 in
theorem count2 {W : World} {S0 : Nat} {m : Mod} (h : SpX W S0 m) :
  Calls Tryz.prog 13 #[.pointer (some ⟨S0, 0, none⟩), .int .u8 2] W fun e w' => e = .returned (.int .i64 ((msOf m).length : Nat)) ∧ Below W.heap.size W w' := by
 obtain ⟨B, TS, tv, fv, gv, bv, mv, ev, hS, hmap⟩ := h
 obtain ⟨sf, cf, rfl, _, _⟩ := row_form hS.f
 obtain ⟨sg, cg, rfl, _, _⟩ := row_form hS.g
 obtain ⟨sb, cb, rfl, _, _⟩ := row_form hS.b
 obtain ⟨sm, cm, rfl, _, _⟩ := row_form hS.m
 have hl : ((allTy m).map (tyOf TS)).length = cnt m := by rw [List.length_map, allTy_len]
 have HS := zh hS
 rw [hl] at HS
 clear hS hmap hl
 generalize gsOf m = GS at HS ⊢
 generalize bsOf m = BS at HS ⊢
 generalize msOf m = MS at HS ⊢
 go_enter Tryz.func13, Tryz.ntmps13
 go_wp2_with fail
 refine wp_region_t [(0, 1), (1, 1), (2, 1), (3, 1), (4, 1), (5, 1), (6, 1), (7, 1), (8, 1), (9, 1), (10, 1), (11, 1), (12, 1), (13, 1), (14, 1), (15, 1), (16, 1), (17, 1), (18, 1), (19, 1), (20, 1), (21, 1), (22, 1), (23, 1)] (fun w' => w'.cell? ⟨S0, 1, none⟩ = some (.slice sf (cnt m) cf) ∧ w'.cell? ⟨S0, 2, none⟩ = some (.slice sg GS.length cg) ∧ w'.cell? ⟨S0, 3, none⟩ = some (.slice sb BS.length cb) ∧ w'.cell? ⟨S0, 4, none⟩ = some (.slice sm MS.length cm)) [] [] rfl (by kernel_rfl) (by kernel_rfl) (fun _ _ d _ _ h => by cases d <;> exact h) ⟨HS.out.lies.cell 1, HS.out.lies.cell 2, HS.out.lies.cell 3, HS.out.lies.cell 4⟩ (fun p hp => by cases hp) ?_
 have HB := zh (below_drew W)
 generalize W.drew = V at HB ⊢
 repeat (first | (refine ts_take (v := ?_) rfl rfl (fun w' hw' => ?_) ?_; rotate_left; (focus (obtain ⟨q1, q2, q3, q4⟩ := hw'; (try simp only [Act.put, sA, sB, sC]); go_simp; (try go_bits); (try (with_reducible rfl)))); (try simp only [Act.put, sA, sB, sC])) | (refine ts_skip rfl rfl ?_; (try simp only [Act.put, sA, sB, sC])))
 refine ts_done ?_
 go_wp2_with fail
 go_ret
 exact ⟨rfl, HB.out⟩
set_option maxRecDepth 100000 in
set_option maxHeartbeats 8000000 in
theorem count3 {W : World} {S0 : Nat} {m : Mod} (h : SpX W S0 m) :
  Calls Tryz.prog 13 #[.pointer (some ⟨S0, 0, none⟩), .int .u8 3] W fun e w' => e = .returned (.int .i64 ((gsOf m).length : Nat)) ∧ Below W.heap.size W w' := by
 obtain ⟨B, TS, tv, fv, gv, bv, mv, ev, hS, hmap⟩ := h
 obtain ⟨sf, cf, rfl, _, _⟩ := row_form hS.f
 obtain ⟨sg, cg, rfl, _, _⟩ := row_form hS.g
 obtain ⟨sb, cb, rfl, _, _⟩ := row_form hS.b
 obtain ⟨sm, cm, rfl, _, _⟩ := row_form hS.m
 have hl : ((allTy m).map (tyOf TS)).length = cnt m := by rw [List.length_map, allTy_len]
 have HS := zh hS
 rw [hl] at HS
 clear hS hmap hl
 generalize gsOf m = GS at HS ⊢
 generalize bsOf m = BS at HS ⊢
 generalize msOf m = MS at HS ⊢
 go_enter Tryz.func13, Tryz.ntmps13
 go_wp2_with fail
 refine wp_region_t [(0, 1), (1, 1), (2, 1), (3, 1), (4, 1), (5, 1), (6, 1), (7, 1), (8, 1), (9, 1), (10, 1), (11, 1), (12, 1), (13, 1), (14, 1), (15, 1), (16, 1), (17, 1), (18, 1), (19, 1), (20, 1), (21, 1), (22, 1), (23, 1)] (fun w' => w'.cell? ⟨S0, 1, none⟩ = some (.slice sf (cnt m) cf) ∧ w'.cell? ⟨S0, 2, none⟩ = some (.slice sg GS.length cg) ∧ w'.cell? ⟨S0, 3, none⟩ = some (.slice sb BS.length cb) ∧ w'.cell? ⟨S0, 4, none⟩ = some (.slice sm MS.length cm)) [] [] rfl (by kernel_rfl) (by kernel_rfl) (fun _ _ d _ _ h => by cases d <;> exact h) ⟨HS.out.lies.cell 1, HS.out.lies.cell 2, HS.out.lies.cell 3, HS.out.lies.cell 4⟩ (fun p hp => by cases hp) ?_
 have HB := zh (below_drew W)
 generalize W.drew = V at HB ⊢
 repeat (first | (refine ts_take (v := ?_) rfl rfl (fun w' hw' => ?_) ?_; rotate_left; (focus (obtain ⟨q1, q2, q3, q4⟩ := hw'; (try simp only [Act.put, sA, sB, sC]); go_simp; (try go_bits); (try (with_reducible rfl)))); (try simp only [Act.put, sA, sB, sC])) | (refine ts_skip rfl rfl ?_; (try simp only [Act.put, sA, sB, sC])))
 refine ts_done ?_
 go_wp2_with fail
 go_ret
 exact ⟨rfl, HB.out⟩
set_option maxRecDepth 100000 in
set_option maxHeartbeats 8000000 in
theorem count_hi {W : World} {S0 : Nat} {k : UInt8} (hk : ¬ k.toNat ≤ 3) :
  Calls Tryz.prog 13 #[.pointer (some ⟨S0, 0, none⟩), .int .u8 k.toNat] W fun e w' => e = .returned (.int .i64 0) ∧ Below W.heap.size W w' := by
 have h1 : (3 : Int) < (k.toNat : Int) := by omega
 go_enter Tryz.func13, Tryz.ntmps13
 go_wp2_with fail
 go_ret
 exact ⟨rfl, Below.refl _ _⟩
theorem countX {W : World} {S0 : Nat} {m : Mod} (h : SpX W S0 m) (k : UInt8) :
  Calls Tryz.prog 13 #[.pointer (some ⟨S0, 0, none⟩), .int .u8 k.toNat] W fun e w' => e = .returned (.int .i64 (cntK m k : Nat)) ∧ Below W.heap.size W w' := by
 unfold cntK
 by_cases h0 : k = 0
 ·subst h0; exact count0 h
 rw [if_neg h0]
 by_cases h1 : k = 1
 ·subst h1; exact count1 h
 rw [if_neg h1]
 by_cases h2 : k = 2
 ·subst h2; exact count2 h
 rw [if_neg h2]
 by_cases h3 : k = 3
 ·subst h3; exact count3 h
 rw [if_neg h3]
 have n0 : k.toNat ≠ 0 := fun e => h0 (UInt8.toNat_inj.1 e)
 have n1 : k.toNat ≠ 1 := fun e => h1 (UInt8.toNat_inj.1 e)
 have n2 : k.toNat ≠ 2 := fun e => h2 (UInt8.toNat_inj.1 e)
 have n3 : k.toNat ≠ 3 := fun e => h3 (UInt8.toNat_inj.1 e)
 exact count_hi (by omega)
set_option maxRecDepth 100000 in
set_option maxHeartbeats 8000000 in
theorem imported0 {W : World} {S0 : Nat} {m : Mod} (h : SpX W S0 m) :
  Calls Tryz.prog 15 #[.pointer (some ⟨S0, 0, none⟩), .int .u8 0] W fun e w' => e = .returned (.int .i64 (fk m 0).length) ∧ Below W.heap.size W w' := by
 obtain ⟨B, TS, tv, fv, gv, bv, mv, ev, hS, hmap⟩ := h
 have hc : W.cell? ⟨S0, 5, none⟩ = some (.int .i64 (fk m 0).length) := hS.lies.cell 5
 clear hS hmap
 go_enter Tryz.func15, Tryz.ntmps15
 go_wp2_with fail
 go_ret
 exact ⟨rfl, Below.refl _ _⟩
set_option maxRecDepth 100000 in
set_option maxHeartbeats 8000000 in
theorem imported3 {W : World} {S0 : Nat} {m : Mod} (h : SpX W S0 m) :
  Calls Tryz.prog 15 #[.pointer (some ⟨S0, 0, none⟩), .int .u8 3] W fun e w' => e = .returned (.int .i64 (fk m 3).length) ∧ Below W.heap.size W w' := by
 obtain ⟨B, TS, tv, fv, gv, bv, mv, ev, hS, hmap⟩ := h
 have hc : W.cell? ⟨S0, 8, none⟩ = some (.int .i64 (fk m 3).length) := hS.lies.cell 8
 clear hS hmap
 go_enter Tryz.func15, Tryz.ntmps15
 go_wp2_with fail
 go_ret
 exact ⟨rfl, Below.refl _ _⟩
section
variable {w w' : World} {S0 : Nat} {m : Mod}
theorem spx_later (h : SpX w S0 m) (hb : Below w.heap.size w w') : SpX w' S0 m := by
 obtain ⟨B, TS, tv, fv, gv, bv, mv, ev, h, hm⟩ := h
 exact ⟨B, TS, tv, fv, gv, bv, mv, ev, h.later hb, hm⟩
theorem lim_len {U : World} (hm : ModOk U m) : cnt m ≤ 2097152 ∧ (bsOf m).length ≤ 2097152 ∧ (msOf m).length ≤ 2097152 ∧ (gsOf m).length ≤ 2097152 := by
 have h0 : m.imps.length ≤ 1048576 := hm.2.1.2.2
 have h1 : m.funcs.length ≤ 1048576 := hm.2.2.1.2.2
 have h2 : m.tabs.length ≤ 1048576 := hm.2.2.2.1.2.2
 have h3 : m.mems.length ≤ 1048576 := hm.2.2.2.2.1.2.2
 have h4 : m.globs.length ≤ 1048576 := hm.2.2.2.2.2.1.2.2
 have f1 := fk_le m 1
 have f2 := fk_le m 2
 have f3 := fk_le m 3
 have f0 := fimps_le m
 refine ⟨by unfold cnt; omega, ?_, ?_, ?_⟩
 ·unfold bsOf; rw [List.length_append, List.length_map]; omega
 ·unfold msOf; rw [List.length_append, List.length_map]; omega
 ·unfold gsOf; rw [List.length_append, List.length_map, List.length_map]; omega
theorem cntK_le {U : World} (hm : ModOk U m) (k : UInt8) : cntK m k ≤ 2097152 := by
 obtain ⟨h0, h1, h2, h3⟩ := lim_len hm
 unfold cntK
 repeat' split
 all_goals first | assumption | exact Nat.zero_le _
end
set_option maxRecDepth 100000 in
set_option maxHeartbeats 8000000 in
theorem there_any {W1 w : World} {kb S0 : Nat} {m : Mod} {e : Nat} (h : Vk W1 kb S0 m e w) (hsp : SpX W1 S0 m) (hm : ModOk W1 m) (k : UInt8) {i : Nat} (hi : i < 4294967296) :
  Calls Tryz.prog 48 #[.pointer (some ⟨kb, 0, none⟩), .int .u8 k.toNat, .int .u32 i] w fun en w' => en = .returned (.bool (thereB m k i)) ∧ Below w.heap.size w w' := by
 have HSP := zh (spx_later hsp h.bel)
 have c12 := h.s
 have HC := zh (cntK_le hm k)
 clear hsp hm h
 go_enter Tryz.func48, Tryz.ntmps48
 go_wp2_with fail
 refine (countX HSP.out k).mono ?_
 rintro en w1 ⟨rfl, hb1⟩
 have HB := zh hb1
 have hc := HC.out
 have HN := zh (show thereB m k i = decide (i < cntK m k) from rfl)
 clear hb1 c12
 generalize cntK m k = n at hc HN ⊢
 have w1 : IntKind.u64.wrap (i : Int) = (i : Int) := by show (i : Int) % 18446744073709551616 = i; omega
 have w2 : IntKind.u64.wrap (n : Int) = (n : Int) := by show (n : Int) % 18446744073709551616 = n; omega
 go_wp2_with fail
 go_ret
 exact ⟨by rw [HN.out]; rfl, HB.out⟩
/-! ### whole -/
theorem intB_e (t : UInt8) : intB t = !(((t.toNat : Int) != 127) && ((t.toNat : Int) != 126)) := by
 have e127 : ((t.toNat : Int) != 127) = (t != 127) := congrArg (!·) (u8b t 127)
 have e126 : ((t.toNat : Int) != 126) = (t != 126) := congrArg (!·) (u8b t 126)
 rw [e127, e126, intB]
set_option maxRecDepth 100000 in
set_option maxHeartbeats 8000000 in
theorem isbad_any {W : World} (t : UInt8) : Calls Tryz.prog 75 #[.int .u8 t.toNat] W fun e w' => e = .returned (.bool (!intB t)) ∧ w' = W := by
 have HE := zh (intB_e t)
 cases h1 : ((t.toNat : Int) != 127) with
 | false =>
  have HB := zh (show (!intB t) = false from by rw [HE.out, h1]; rfl)
  go_enter Tryz.func75, Tryz.ntmps75
  go_wp2_with fail
  go_ret
  exact ⟨by rw [HB.out]; rfl, rfl⟩
 | true =>
  obtain ⟨b, hb⟩ : ∃ b, b = ((t.toNat : Int) != 126) := ⟨_, rfl⟩
  have f2 : ((t.toNat : Int) != 126) = b := hb.symm
  have HB := zh (show (!intB t) = b from by rw [HE.out, h1, f2]; simp)
  clear hb
  go_enter Tryz.func75, Tryz.ntmps75
  go_wp2_with fail
  all_goals
   go_ret
   exact ⟨by rw [HB.out]; first | rfl | simp_all, rfl⟩
theorem all_take {L : List UInt8} {j : Nat} {x : UInt8} (p : UInt8 → Bool) (hx : L[j]? = some x) : (L.take (j + 1)).all p = ((L.take j).all p && p x) := by
 rw [List.take_add_one, hx, List.all_append]; simp
theorem all_not {L : List UInt8} {j : Nat} {x : UInt8} {p : UInt8 → Bool} (hx : L[j]? = some x) (h : p x = false) : L.all p = false := by
 rw [List.all_eq_false]; exact ⟨x, List.mem_of_getElem? hx, by simp [h]⟩
set_option maxRecDepth 100000 in
set_option maxHeartbeats 8000000 in
theorem index_bad {W : World} {v : Value} {L : List UInt8} (h : Sl W 1 u8c v L) (hn : L.length ≤ 4194304) :
  Calls Tryz.prog 107 #[v, .func (.func 75) #[] #[]] W fun e w' => (∃ i : Int, e = .returned (.int .i64 i) ∧ decide (0 ≤ i) = !(L.all intB)) ∧ Below W.heap.size W w' := by
 obtain ⟨s, cap, rfl, hs⟩ := h.form
 have HS := zh hs
 have H := zh h
 clear hs h
 go_enter Tryz.func107, Tryz.ntmps107
 go_wp2_with fail
 go_loopw [5, 8] (fun _ i wr => ∃ j : Nat, j ≤ L.length ∧ i = .int .i64 j ∧ Below W.heap.size W wr ∧ (L.take j).all intB = true)
  (fun _ i _ => L.length - (Lib.intOf i).toNat)
 case atStart => exact ⟨0, by omega, rfl, Below.refl _ _, by simp⟩
 case round =>
  obtain ⟨j, hj, rfl, hbr, hall⟩ := hrel
  have HBR := zh hbr
  have HALL := zh hall
  clear hbr hall
  by_cases hlt : j < L.length
  ·obtain ⟨x, hx⟩ : ∃ x, L[j]? = some x := ⟨_, List.getElem?_eq_getElem hlt⟩
   obtain ⟨g, off, rfl, hg⟩ := HS.out (by intro e; simp [e] at hlt)
   have hc : wr.cell? ⟨g, off + j, none⟩ = some (.int .u8 x.toNat) := by
    have := (sl_range (H.out.later HBR.out) hx) 0 _ rfl
    simpa using this
   have HX := zh hx
   have hlt2 : (j : Int) < (L.length : Int) := by omega
   clear hx
   go_wp2_with fail
   refine (isbad_any x).mono ?_
   rintro en w5 ⟨rfl, hw⟩
   obtain rfl := hw.symm
   cases hbd : intB x with
   | false =>
    simp only [Bool.not_false]
    go_wp2_with fail
    go_ret
    exact ⟨⟨_, rfl, by rw [all_not HX.out hbd]; simp⟩, HBR.out⟩
   | true =>
    simp only [Bool.not_true]
    go_wp2_with fail
    exact ⟨⟨j + 1, by omega, by go_num, HBR.out, by rw [all_take _ HX.out, HALL.out, hbd]; rfl⟩, by simp [Lib.intOf]; omega⟩
  ·obtain rfl : j = L.length := by omega
   rw [List.take_length] at HALL
   go_wp2_with fail
   go_ret
   exact ⟨⟨-1, rfl, by rw [HALL.out]; rfl⟩, HBR.out⟩
set_option maxRecDepth 100000 in
set_option maxHeartbeats 8000000 in
theorem contains_bad {W : World} {v : Value} {L : List UInt8} (h : Sl W 1 u8c v L) (hn : L.length ≤ 4194304) :
  Calls Tryz.prog 74 #[v, .func (.func 75) #[] #[]] W fun e w' => e = .returned (.bool (!(L.all intB))) ∧ Below W.heap.size W w' := by
 have H := zh h
 clear h
 go_enter Tryz.func74, Tryz.ntmps74
 go_wp2_with fail
 refine (index_bad H.out hn).mono ?_
 rintro en w1 ⟨⟨i, rfl, hi⟩, hb1⟩
 have HB := zh hb1
 have HI := zh hi
 clear hi hb1
 go_wp2_with fail
 go_ret
 exact ⟨by rw [← HI.out]; rfl, HB.out⟩
set_option maxRecDepth 100000 in
set_option maxHeartbeats 8000000 in
theorem whole_any {W : World} {v : Value} {L : List UInt8} (h : Sl W 1 u8c v L) (hn : L.length ≤ 4194304) :
  Calls Tryz.prog 36 #[v] W fun e w' => e = .returned (.bool (L.all intB)) ∧ Below W.heap.size W w' := by
 have H := zh h
 clear h
 go_enter Tryz.func36, Tryz.ntmps36
 go_wp2_with fail
 refine (contains_bad H.out hn).mono ?_
 rintro en w1 ⟨rfl, hb1⟩
 have HB := zh hb1
 clear hb1
 go_wp2_with fail
 go_ret
 exact ⟨by simp, HB.out⟩
end Go.Proofs.YtmgjcaikldeioaaGreat.Va
/- A module's checker: limits, tables and memories, a constant. -/
namespace Go.Proofs.YtmgjcaikldeioaaGreat.Va
open Go Go.RowKit Go.Lib Kt Fm Gr Ty

set_option maxRecDepth 100000 in
set_option maxHeartbeats 8000000 in
theorem limits_any {W1 w : World} {kb S0 : Nat} {m : Mod} {e : Nat} (h : Vk W1 kb S0 m e w) (l : Lim) (hl : l.mn < 4294967296) (most : Int) :
  Calls Tryz.prog 77 #[.pointer (some ⟨kb, 0, none⟩), .agg l.cs.toArray, .int .i64 most] w fun en w' => VSays W1 kb S0 m w (limE l most e) en w' := by
 obtain ⟨a, b⟩ := l
 simp only at hl
 have hwr : IntKind.i64.wrap (a : Int) = (a : Int) := by rw [IntKind.wrap_i64]; omega
 have HV0 := zh h
 have HF0 := zh (Fr.refl w (fun k => k = kb))
 clear h 
 obtain ⟨b1, hb1'⟩ : ∃ b1, b1 = (b == -1 || (decide ((a : Int) ≤ b) && decide (b ≤ most))) := ⟨_, rfl⟩
 have HB1 := zh hb1'
 clear hb1'
 have hcase : (b = -1 ∧ b1 = true) ∨ (¬ b = -1 ∧ ¬ (a : Int) ≤ b ∧ b1 = false) ∨ (¬ b = -1 ∧ (a : Int) ≤ b ∧ b1 = decide (b ≤ most)) := by
  rw [HB1.out]
  by_cases h1 : b = -1
  ·left; simp [h1]
  ·right
   by_cases h2 : (a : Int) ≤ b
   ·right; simp [h1, h2]
   ·left; simp [h1, h2]
 rcases hcase with ⟨h1, rfl⟩ | ⟨h1, h2, rfl⟩ | ⟨h1, h2, hb⟩
 ·have h1' : (b = -1) = True := eq_true h1
  clear h1
  go_enter Tryz.func77, Tryz.ntmps77
  go_wp2_with (refine wl_box (Lim.cs ⟨a, b⟩) _ rfl rfl rfl (fun w1 hb1 hl1 => ?_); have HV1 := zh (HV0.out.later hb1); have HF1 := zh (HF0.out.trans (Fr.of_below hb1 _)); have HL1 := zh hl1; obtain ⟨Bl, hB1⟩ : ∃ Bl, Bl = w.heap.size := ⟨_, rfl⟩; rw [← hB1] at HL1 ⊢; clear hB1 hl1; have xL0 : w1.cell? ⟨Bl, 0, none⟩ = some (.int .u32 a) := HL1.out.cell 0; have xL1 : w1.cell? ⟨Bl, 1, none⟩ = some (.int .i64 b) := HL1.out.cell 1; clear hb1; (try simp only [Act.put, sA, sB, sC]))
  clear xL0 xL1 
  refine (must_any HV1.out true 112).mono ?_
  rintro en w2 ⟨rfl, hv, hf⟩
  have HV2 := zh hv
  have HF2 := zh (HF1.out.trans hf)
  have HL2 := zh (HV1.out.keep HL1.out (by decide) hf)
  clear hv hf
  have xL0 : w2.cell? ⟨Bl, 0, none⟩ = some (.int .u32 a) := HL2.out.cell 0
  go_wp2_with fail
  clear xL0 
  refine (must_any HV2.out _ 112).mono ?_
  rintro en w3 ⟨rfl, hv, hf⟩
  have HV3 := zh hv
  have HF3 := zh (HF2.out.trans hf)
  have HL3 := zh (HV2.out.keep HL2.out (by decide) hf)
  clear hv hf
  go_wp2_with fail
  go_end0
  refine ⟨rfl, ?_, HF3.out⟩
  show Vk W1 kb S0 m (mst (mst e (b == -1 || (decide ((a : Int) ≤ b) && decide (b ≤ most))) 112) (decide ((a : Int) ≤ most)) 112) w3
  rw [← HB1.out]
  exact HV3.out
 ·have h1' : (b == -1) = false := by rw [beq_eq_false_iff_ne]; exact h1
  go_enter Tryz.func77, Tryz.ntmps77
  go_wp2_with (refine wl_box (Lim.cs ⟨a, b⟩) _ rfl rfl rfl (fun w1 hb1 hl1 => ?_); have HV1 := zh (HV0.out.later hb1); have HF1 := zh (HF0.out.trans (Fr.of_below hb1 _)); have HL1 := zh hl1; obtain ⟨Bl, hB1⟩ : ∃ Bl, Bl = w.heap.size := ⟨_, rfl⟩; rw [← hB1] at HL1 ⊢; clear hB1 hl1; have xL0 : w1.cell? ⟨Bl, 0, none⟩ = some (.int .u32 a) := HL1.out.cell 0; have xL1 : w1.cell? ⟨Bl, 1, none⟩ = some (.int .i64 b) := HL1.out.cell 1; clear hb1; (try simp only [Act.put, sA, sB, sC]))
  clear xL0 xL1 
  refine (must_any HV1.out false 112).mono ?_
  rintro en w2 ⟨rfl, hv, hf⟩
  have HV2 := zh hv
  have HF2 := zh (HF1.out.trans hf)
  have HL2 := zh (HV1.out.keep HL1.out (by decide) hf)
  clear hv hf
  have xL0 : w2.cell? ⟨Bl, 0, none⟩ = some (.int .u32 a) := HL2.out.cell 0
  go_wp2_with fail
  clear xL0 
  refine (must_any HV2.out _ 112).mono ?_
  rintro en w3 ⟨rfl, hv, hf⟩
  have HV3 := zh hv
  have HF3 := zh (HF2.out.trans hf)
  have HL3 := zh (HV2.out.keep HL2.out (by decide) hf)
  clear hv hf
  go_wp2_with fail
  go_end0
  refine ⟨rfl, ?_, HF3.out⟩
  show Vk W1 kb S0 m (mst (mst e (b == -1 || (decide ((a : Int) ≤ b) && decide (b ≤ most))) 112) (decide ((a : Int) ≤ most)) 112) w3
  rw [← HB1.out]
  exact HV3.out
 ·have h1' : (b == -1) = false := by rw [beq_eq_false_iff_ne]; exact h1
  cases b1 with
  | true =>
   have h3 : b ≤ most := by simpa using hb
   clear hb
   go_enter Tryz.func77, Tryz.ntmps77
   go_wp2_with (refine wl_box (Lim.cs ⟨a, b⟩) _ rfl rfl rfl (fun w1 hb1 hl1 => ?_); have HV1 := zh (HV0.out.later hb1); have HF1 := zh (HF0.out.trans (Fr.of_below hb1 _)); have HL1 := zh hl1; obtain ⟨Bl, hB1⟩ : ∃ Bl, Bl = w.heap.size := ⟨_, rfl⟩; rw [← hB1] at HL1 ⊢; clear hB1 hl1; have xL0 : w1.cell? ⟨Bl, 0, none⟩ = some (.int .u32 a) := HL1.out.cell 0; have xL1 : w1.cell? ⟨Bl, 1, none⟩ = some (.int .i64 b) := HL1.out.cell 1; clear hb1; (try simp only [Act.put, sA, sB, sC]))
   clear xL0 xL1 
   refine (must_any HV1.out true 112).mono ?_
   rintro en w2 ⟨rfl, hv, hf⟩
   have HV2 := zh hv
   have HF2 := zh (HF1.out.trans hf)
   have HL2 := zh (HV1.out.keep HL1.out (by decide) hf)
   clear hv hf
   have xL0 : w2.cell? ⟨Bl, 0, none⟩ = some (.int .u32 a) := HL2.out.cell 0
   go_wp2_with fail
   clear xL0 
   refine (must_any HV2.out _ 112).mono ?_
   rintro en w3 ⟨rfl, hv, hf⟩
   have HV3 := zh hv
   have HF3 := zh (HF2.out.trans hf)
   have HL3 := zh (HV2.out.keep HL2.out (by decide) hf)
   clear hv hf
   go_wp2_with fail
   go_end0
   refine ⟨rfl, ?_, HF3.out⟩
   show Vk W1 kb S0 m (mst (mst e (b == -1 || (decide ((a : Int) ≤ b) && decide (b ≤ most))) 112) (decide ((a : Int) ≤ most)) 112) w3
   rw [← HB1.out]
   exact HV3.out
  | false =>
   have h3 : ¬ b ≤ most := by simpa using hb
   clear hb
   go_enter Tryz.func77, Tryz.ntmps77
   go_wp2_with (refine wl_box (Lim.cs ⟨a, b⟩) _ rfl rfl rfl (fun w1 hb1 hl1 => ?_); have HV1 := zh (HV0.out.later hb1); have HF1 := zh (HF0.out.trans (Fr.of_below hb1 _)); have HL1 := zh hl1; obtain ⟨Bl, hB1⟩ : ∃ Bl, Bl = w.heap.size := ⟨_, rfl⟩; rw [← hB1] at HL1 ⊢; clear hB1 hl1; have xL0 : w1.cell? ⟨Bl, 0, none⟩ = some (.int .u32 a) := HL1.out.cell 0; have xL1 : w1.cell? ⟨Bl, 1, none⟩ = some (.int .i64 b) := HL1.out.cell 1; clear hb1; (try simp only [Act.put, sA, sB, sC]))
   clear xL0 xL1 
   refine (must_any HV1.out false 112).mono ?_
   rintro en w2 ⟨rfl, hv, hf⟩
   have HV2 := zh hv
   have HF2 := zh (HF1.out.trans hf)
   have HL2 := zh (HV1.out.keep HL1.out (by decide) hf)
   clear hv hf
   have xL0 : w2.cell? ⟨Bl, 0, none⟩ = some (.int .u32 a) := HL2.out.cell 0
   go_wp2_with fail
   clear xL0 
   refine (must_any HV2.out _ 112).mono ?_
   rintro en w3 ⟨rfl, hv, hf⟩
   have HV3 := zh hv
   have HF3 := zh (HF2.out.trans hf)
   have HL3 := zh (HV2.out.keep HL2.out (by decide) hf)
   clear hv hf
   go_wp2_with fail
   go_end0
   refine ⟨rfl, ?_, HF3.out⟩
   show Vk W1 kb S0 m (mst (mst e (b == -1 || (decide ((a : Int) ≤ b) && decide (b ≤ most))) 112) (decide ((a : Int) ≤ most)) 112) w3
   rw [← HB1.out]
   exact HV3.out
theorem bs_ok {W : World} {m : Mod} (hm : ModOk W m) : ∀ l ∈ bsOf m, l.mn < 4294967296 := fun l hl => by
 rcases List.mem_append.1 hl with h | h
 ·obtain ⟨x, hx, rfl⟩ := List.mem_map.1 h
  exact (hm.2.1.2.1 x (List.mem_filter.1 hx).1).2.1
 ·exact hm.2.2.2.1.2.1 l h
theorem ms_ok {W : World} {m : Mod} (hm : ModOk W m) : ∀ l ∈ msOf m, l.mn < 4294967296 := fun l hl => by
 rcases List.mem_append.1 hl with h | h
 ·obtain ⟨x, hx, rfl⟩ := List.mem_map.1 h
  exact (hm.2.1.2.1 x (List.mem_filter.1 hx).1).2.1
 ·exact hm.2.2.2.2.1.2.1 l h
set_option maxRecDepth 100000 in
set_option maxHeartbeats 8000000 in
theorem stores_any {W1 w : World} {kb S0 : Nat} {m : Mod} {e : Nat} (h : Vk W1 kb S0 m e w) (hsp : SpX W1 S0 m) (hm : ModOk W1 m) :
  Calls Tryz.prog 40 #[.pointer (some ⟨kb, 0, none⟩)] w fun en w' => VSays W1 kb S0 m w (storesE m e) en w' := by
 have HSP := zh hsp
 have HM := zh hm
 have HLB := zh (show ∀ l, (bsOf m)[0]? = some l → l.mn < 4294967296 from fun l hl => bs_ok hm l (List.mem_of_getElem? hl))
 have HLM := zh (show ∀ l, (msOf m)[0]? = some l → l.mn < 4294967296 from fun l hl => ms_ok hm l (List.mem_of_getElem? hl))
 have HV0 := zh h
 have HF0 := zh (Fr.refl w (fun k => k = kb))
 clear h hsp hm
 obtain ⟨cb, hcb⟩ : ∃ cb, cb = decide ((bsOf m).length ≤ 1) := ⟨_, rfl⟩
 have HCB := zh hcb
 clear hcb
 have HST := zh (show storesE m e = limO (msOf m)[0]? 65536 (limO (bsOf m)[0]? 4294967295 (mst e (decide ((bsOf m).length ≤ 1) && decide (((msOf m).length : Int) ≤ 1)) 112)) from rfl)
 cases h0 : decide ((bsOf m).length ≤ 1) with
 | false =>
  go_enter Tryz.func40, Tryz.ntmps40
  have c12 := HV0.out.s
  go_wp2_with fail
  refine (count1 (spx_later HSP.out HV0.out.bel)).mono ?_
  rintro en w1 ⟨rfl, hb1⟩
  clear c12 
  have HV1 := zh (HV0.out.later hb1)
  have HF1 := zh (HF0.out.trans (Fr.of_below hb1 _))
  clear hb1
  have c12 := HV1.out.s
  have h1 : ¬ (bsOf m).length ≤ 1 := by simpa using h0
  go_wp2_with fail
  clear c12 
  refine (must_any HV1.out false 112).mono ?_
  rintro en w2 ⟨rfl, hv, hf⟩
  have HV2 := zh hv
  have HF2 := zh (HF1.out.trans hf)
  clear hv hf
  have c12 := HV2.out.s
  rw [h0, Bool.false_and] at HST
  go_wp2_with fail
  refine (table_any (i := 0) (show SpG w2 S0 m (gsOf m) (bsOf m) (msOf m) from spx_later HSP.out HV2.out.bel) (by decide)).mono ?_
  rintro en w3 ⟨rfl, hb3⟩
  clear c12 
  have HV3 := zh (HV2.out.later hb3)
  have HF3 := zh (HF2.out.trans (Fr.of_below hb3 _))
  clear hb3
  cases hHB : (bsOf m)[0]? with
  | none =>
   simp only [limC, Option.isSome_none]
   go_wp2_with (refine wl_put (Lies.new _ _ _) nillim _ _ rfl rfl rfl rfl rfl sizeLim (by simp [nillim, Value.oneCell']) (fun w4 hl4 hf4 => ?_); have hb4 : Below w3.heap.size w3 w4 := below_put ((Below.refl w3.heap.size w3).alloc (Nat.le_refl _) _) hf4 (Nat.le_refl _); have HV4 := zh (HV3.out.later hb4); have HF4 := zh (HF3.out.trans (Fr.of_below hb4 _)); have HB4 := zh hl4; obtain ⟨Bt, hB4⟩ : ∃ Bt, Bt = w3.heap.size := ⟨_, rfl⟩; rw [← hB4] at HB4 ⊢; have c12 := HV4.out.s; clear hB4 hl4 hf4 hb4; try simp only [Act.put])
   have HHBE := zh hHB
   clear hHB
   go_wp2_with fail
   refine (mem_any (i := 0) (show SpG w4 S0 m (gsOf m) (bsOf m) (msOf m) from spx_later HSP.out HV4.out.bel) (by decide)).mono ?_
   rintro en w5 ⟨rfl, hb5⟩
   clear c12 
   have HV5 := zh (HV4.out.later hb5)
   have HF5 := zh (HF4.out.trans (Fr.of_below hb5 _))
   clear hb5
   cases hHG : (msOf m)[0]? with
   | none =>
    simp only [limC, Option.isSome_none]
    go_wp2_with (refine wl_put (Lies.new _ _ _) nillim _ _ rfl rfl rfl rfl rfl sizeLim (by simp [nillim, Value.oneCell']) (fun w6 hl6 hf6 => ?_); have hb6 : Below w5.heap.size w5 w6 := below_put ((Below.refl w5.heap.size w5).alloc (Nat.le_refl _) _) hf6 (Nat.le_refl _); have HV6 := zh (HV5.out.later hb6); have HF6 := zh (HF5.out.trans (Fr.of_below hb6 _)); have HG6 := zh hl6; obtain ⟨Bg, hB6⟩ : ∃ Bg, Bg = w5.heap.size := ⟨_, rfl⟩; rw [← hB6] at HG6 ⊢; have c12 := HV6.out.s; clear hB6 hl6 hf6 hb6; try simp only [Act.put])
    have HHGE := zh hHG
    clear hHG
    rw [HHBE.out, HHGE.out] at HST
    clear c12 
    go_end0
    refine ⟨rfl, ?_, HF6.out⟩
    rw [HST.out]
    exact HV6.out
   | some l =>
    simp only [limC, Option.isSome_some]
    have HLL := zh (HLM.out l hHG)
    go_wp2_with (first | (refine wl_put (Lies.new _ _ _) l.cs _ _ rfl rfl rfl rfl rfl sizeLim (by simp [Lim.cs, Value.oneCell']) (fun w6 hl6 hf6 => ?_); have hb6 : Below w5.heap.size w5 w6 := below_put ((Below.refl w5.heap.size w5).alloc (Nat.le_refl _) _) hf6 (Nat.le_refl _); have HV6 := zh (HV5.out.later hb6); have HF6 := zh (HF5.out.trans (Fr.of_below hb6 _)); have HG6 := zh hl6; obtain ⟨Bg, hB6⟩ : ∃ Bg, Bg = w5.heap.size := ⟨_, rfl⟩; rw [← hB6] at HG6 ⊢; have c12 := HV6.out.s; clear hB6 hl6 hf6 hb6; try simp only [Act.put]) | (refine wpList_load_mid rfl 84 _ rfl Bg 0 rfl l.cs _ (lies_range HG6.out) Tryz.underlying84 rfl sizeLim ?_; (try simp only [Act.put, sA, sB, sC])))
    clear c12 
    refine (limits_any HV6.out l HLL.out 65536).mono ?_
    rintro en w7 ⟨rfl, hv, hf⟩
    have HV7 := zh hv
    have HF7 := zh (HF6.out.trans hf)
    clear hv hf
    have c12 := HV7.out.s
    have HHGE := zh hHG
    clear hHG
    rw [HHBE.out, HHGE.out] at HST
    clear c12 
    go_wp2_with fail
    go_end0
    refine ⟨rfl, ?_, HF7.out⟩
    rw [HST.out]
    exact HV7.out
  | some l =>
   simp only [limC, Option.isSome_some]
   have HLL := zh (HLB.out l hHB)
   go_wp2_with (first | (refine wl_put (Lies.new _ _ _) l.cs _ _ rfl rfl rfl rfl rfl sizeLim (by simp [Lim.cs, Value.oneCell']) (fun w4 hl4 hf4 => ?_); have hb4 : Below w3.heap.size w3 w4 := below_put ((Below.refl w3.heap.size w3).alloc (Nat.le_refl _) _) hf4 (Nat.le_refl _); have HV4 := zh (HV3.out.later hb4); have HF4 := zh (HF3.out.trans (Fr.of_below hb4 _)); have HB4 := zh hl4; obtain ⟨Bt, hB4⟩ : ∃ Bt, Bt = w3.heap.size := ⟨_, rfl⟩; rw [← hB4] at HB4 ⊢; have c12 := HV4.out.s; clear hB4 hl4 hf4 hb4; try simp only [Act.put]) | (refine wpList_load_mid rfl 84 _ rfl Bt 0 rfl l.cs _ (lies_range HB4.out) Tryz.underlying84 rfl sizeLim ?_; (try simp only [Act.put, sA, sB, sC])))
   clear c12 
   refine (limits_any HV4.out l HLL.out 4294967295).mono ?_
   rintro en w5 ⟨rfl, hv, hf⟩
   have HV5 := zh hv
   have HF5 := zh (HF4.out.trans hf)
   clear hv hf
   have c12 := HV5.out.s
   have HHBE := zh hHB
   clear hHB
   go_wp2_with fail
   refine (mem_any (i := 0) (show SpG w5 S0 m (gsOf m) (bsOf m) (msOf m) from spx_later HSP.out HV5.out.bel) (by decide)).mono ?_
   rintro en w6 ⟨rfl, hb6⟩
   clear c12 
   have HV6 := zh (HV5.out.later hb6)
   have HF6 := zh (HF5.out.trans (Fr.of_below hb6 _))
   clear hb6
   cases hHG : (msOf m)[0]? with
   | none =>
    simp only [limC, Option.isSome_none]
    go_wp2_with (refine wl_put (Lies.new _ _ _) nillim _ _ rfl rfl rfl rfl rfl sizeLim (by simp [nillim, Value.oneCell']) (fun w7 hl7 hf7 => ?_); have hb7 : Below w6.heap.size w6 w7 := below_put ((Below.refl w6.heap.size w6).alloc (Nat.le_refl _) _) hf7 (Nat.le_refl _); have HV7 := zh (HV6.out.later hb7); have HF7 := zh (HF6.out.trans (Fr.of_below hb7 _)); have HG7 := zh hl7; obtain ⟨Bg, hB7⟩ : ∃ Bg, Bg = w6.heap.size := ⟨_, rfl⟩; rw [← hB7] at HG7 ⊢; have c12 := HV7.out.s; clear hB7 hl7 hf7 hb7; try simp only [Act.put])
    have HHGE := zh hHG
    clear hHG
    rw [HHBE.out, HHGE.out] at HST
    clear c12 
    go_end0
    refine ⟨rfl, ?_, HF7.out⟩
    rw [HST.out]
    exact HV7.out
   | some l =>
    simp only [limC, Option.isSome_some]
    have HLL := zh (HLM.out l hHG)
    go_wp2_with (first | (refine wl_put (Lies.new _ _ _) l.cs _ _ rfl rfl rfl rfl rfl sizeLim (by simp [Lim.cs, Value.oneCell']) (fun w7 hl7 hf7 => ?_); have hb7 : Below w6.heap.size w6 w7 := below_put ((Below.refl w6.heap.size w6).alloc (Nat.le_refl _) _) hf7 (Nat.le_refl _); have HV7 := zh (HV6.out.later hb7); have HF7 := zh (HF6.out.trans (Fr.of_below hb7 _)); have HG7 := zh hl7; obtain ⟨Bg, hB7⟩ : ∃ Bg, Bg = w6.heap.size := ⟨_, rfl⟩; rw [← hB7] at HG7 ⊢; have c12 := HV7.out.s; clear hB7 hl7 hf7 hb7; try simp only [Act.put]) | (refine wpList_load_mid rfl 84 _ rfl Bg 0 rfl l.cs _ (lies_range HG7.out) Tryz.underlying84 rfl sizeLim ?_; (try simp only [Act.put, sA, sB, sC])))
    clear c12 
    refine (limits_any HV7.out l HLL.out 65536).mono ?_
    rintro en w8 ⟨rfl, hv, hf⟩
    have HV8 := zh hv
    have HF8 := zh (HF7.out.trans hf)
    clear hv hf
    have c12 := HV8.out.s
    have HHGE := zh hHG
    clear hHG
    rw [HHBE.out, HHGE.out] at HST
    clear c12 
    go_wp2_with fail
    go_end0
    refine ⟨rfl, ?_, HF8.out⟩
    rw [HST.out]
    exact HV8.out
 | true =>
  go_enter Tryz.func40, Tryz.ntmps40
  have c12 := HV0.out.s
  go_wp2_with fail
  refine (count1 (spx_later HSP.out HV0.out.bel)).mono ?_
  rintro en w1 ⟨rfl, hb1⟩
  clear c12 
  have HV1 := zh (HV0.out.later hb1)
  have HF1 := zh (HF0.out.trans (Fr.of_below hb1 _))
  clear hb1
  have c12 := HV1.out.s
  have h1 : (bsOf m).length ≤ 1 := by simpa using h0
  go_wp2_with fail
  refine (count2 (spx_later HSP.out HV1.out.bel)).mono ?_
  rintro en w2 ⟨rfl, hb2⟩
  clear c12 
  have HV2 := zh (HV1.out.later hb2)
  have HF2 := zh (HF1.out.trans (Fr.of_below hb2 _))
  clear hb2
  have c12 := HV2.out.s
  have H0 := zh h0
  clear h0
  go_wp2_with fail
  clear c12 
  refine (must_any HV2.out _ 112).mono ?_
  rintro en w3 ⟨rfl, hv, hf⟩
  have HV3 := zh hv
  have HF3 := zh (HF2.out.trans hf)
  clear hv hf
  have c12 := HV3.out.s
  rw [H0.out, Bool.true_and] at HST
  go_wp2_with fail
  refine (table_any (i := 0) (show SpG w3 S0 m (gsOf m) (bsOf m) (msOf m) from spx_later HSP.out HV3.out.bel) (by decide)).mono ?_
  rintro en w4 ⟨rfl, hb4⟩
  clear c12 
  have HV4 := zh (HV3.out.later hb4)
  have HF4 := zh (HF3.out.trans (Fr.of_below hb4 _))
  clear hb4
  cases hHB : (bsOf m)[0]? with
  | none =>
   simp only [limC, Option.isSome_none]
   go_wp2_with (refine wl_put (Lies.new _ _ _) nillim _ _ rfl rfl rfl rfl rfl sizeLim (by simp [nillim, Value.oneCell']) (fun w5 hl5 hf5 => ?_); have hb5 : Below w4.heap.size w4 w5 := below_put ((Below.refl w4.heap.size w4).alloc (Nat.le_refl _) _) hf5 (Nat.le_refl _); have HV5 := zh (HV4.out.later hb5); have HF5 := zh (HF4.out.trans (Fr.of_below hb5 _)); have HB5 := zh hl5; obtain ⟨Bt, hB5⟩ : ∃ Bt, Bt = w4.heap.size := ⟨_, rfl⟩; rw [← hB5] at HB5 ⊢; have c12 := HV5.out.s; clear hB5 hl5 hf5 hb5; try simp only [Act.put])
   have HHBE := zh hHB
   clear hHB
   go_wp2_with fail
   refine (mem_any (i := 0) (show SpG w5 S0 m (gsOf m) (bsOf m) (msOf m) from spx_later HSP.out HV5.out.bel) (by decide)).mono ?_
   rintro en w6 ⟨rfl, hb6⟩
   clear c12 
   have HV6 := zh (HV5.out.later hb6)
   have HF6 := zh (HF5.out.trans (Fr.of_below hb6 _))
   clear hb6
   cases hHG : (msOf m)[0]? with
   | none =>
    simp only [limC, Option.isSome_none]
    go_wp2_with (refine wl_put (Lies.new _ _ _) nillim _ _ rfl rfl rfl rfl rfl sizeLim (by simp [nillim, Value.oneCell']) (fun w7 hl7 hf7 => ?_); have hb7 : Below w6.heap.size w6 w7 := below_put ((Below.refl w6.heap.size w6).alloc (Nat.le_refl _) _) hf7 (Nat.le_refl _); have HV7 := zh (HV6.out.later hb7); have HF7 := zh (HF6.out.trans (Fr.of_below hb7 _)); have HG7 := zh hl7; obtain ⟨Bg, hB7⟩ : ∃ Bg, Bg = w6.heap.size := ⟨_, rfl⟩; rw [← hB7] at HG7 ⊢; have c12 := HV7.out.s; clear hB7 hl7 hf7 hb7; try simp only [Act.put])
    have HHGE := zh hHG
    clear hHG
    rw [HHBE.out, HHGE.out] at HST
    clear c12 
    go_end0
    refine ⟨rfl, ?_, HF7.out⟩
    rw [HST.out]
    exact HV7.out
   | some l =>
    simp only [limC, Option.isSome_some]
    have HLL := zh (HLM.out l hHG)
    go_wp2_with (first | (refine wl_put (Lies.new _ _ _) l.cs _ _ rfl rfl rfl rfl rfl sizeLim (by simp [Lim.cs, Value.oneCell']) (fun w7 hl7 hf7 => ?_); have hb7 : Below w6.heap.size w6 w7 := below_put ((Below.refl w6.heap.size w6).alloc (Nat.le_refl _) _) hf7 (Nat.le_refl _); have HV7 := zh (HV6.out.later hb7); have HF7 := zh (HF6.out.trans (Fr.of_below hb7 _)); have HG7 := zh hl7; obtain ⟨Bg, hB7⟩ : ∃ Bg, Bg = w6.heap.size := ⟨_, rfl⟩; rw [← hB7] at HG7 ⊢; have c12 := HV7.out.s; clear hB7 hl7 hf7 hb7; try simp only [Act.put]) | (refine wpList_load_mid rfl 84 _ rfl Bg 0 rfl l.cs _ (lies_range HG7.out) Tryz.underlying84 rfl sizeLim ?_; (try simp only [Act.put, sA, sB, sC])))
    clear c12 
    refine (limits_any HV7.out l HLL.out 65536).mono ?_
    rintro en w8 ⟨rfl, hv, hf⟩
    have HV8 := zh hv
    have HF8 := zh (HF7.out.trans hf)
    clear hv hf
    have c12 := HV8.out.s
    have HHGE := zh hHG
    clear hHG
    rw [HHBE.out, HHGE.out] at HST
    clear c12 
    go_wp2_with fail
    go_end0
    refine ⟨rfl, ?_, HF8.out⟩
    rw [HST.out]
    exact HV8.out
  | some l =>
   simp only [limC, Option.isSome_some]
   have HLL := zh (HLB.out l hHB)
   go_wp2_with (first | (refine wl_put (Lies.new _ _ _) l.cs _ _ rfl rfl rfl rfl rfl sizeLim (by simp [Lim.cs, Value.oneCell']) (fun w5 hl5 hf5 => ?_); have hb5 : Below w4.heap.size w4 w5 := below_put ((Below.refl w4.heap.size w4).alloc (Nat.le_refl _) _) hf5 (Nat.le_refl _); have HV5 := zh (HV4.out.later hb5); have HF5 := zh (HF4.out.trans (Fr.of_below hb5 _)); have HB5 := zh hl5; obtain ⟨Bt, hB5⟩ : ∃ Bt, Bt = w4.heap.size := ⟨_, rfl⟩; rw [← hB5] at HB5 ⊢; have c12 := HV5.out.s; clear hB5 hl5 hf5 hb5; try simp only [Act.put]) | (refine wpList_load_mid rfl 84 _ rfl Bt 0 rfl l.cs _ (lies_range HB5.out) Tryz.underlying84 rfl sizeLim ?_; (try simp only [Act.put, sA, sB, sC])))
   clear c12 
   refine (limits_any HV5.out l HLL.out 4294967295).mono ?_
   rintro en w6 ⟨rfl, hv, hf⟩
   have HV6 := zh hv
   have HF6 := zh (HF5.out.trans hf)
   clear hv hf
   have c12 := HV6.out.s
   have HHBE := zh hHB
   clear hHB
   go_wp2_with fail
   refine (mem_any (i := 0) (show SpG w6 S0 m (gsOf m) (bsOf m) (msOf m) from spx_later HSP.out HV6.out.bel) (by decide)).mono ?_
   rintro en w7 ⟨rfl, hb7⟩
   clear c12 
   have HV7 := zh (HV6.out.later hb7)
   have HF7 := zh (HF6.out.trans (Fr.of_below hb7 _))
   clear hb7
   cases hHG : (msOf m)[0]? with
   | none =>
    simp only [limC, Option.isSome_none]
    go_wp2_with (refine wl_put (Lies.new _ _ _) nillim _ _ rfl rfl rfl rfl rfl sizeLim (by simp [nillim, Value.oneCell']) (fun w8 hl8 hf8 => ?_); have hb8 : Below w7.heap.size w7 w8 := below_put ((Below.refl w7.heap.size w7).alloc (Nat.le_refl _) _) hf8 (Nat.le_refl _); have HV8 := zh (HV7.out.later hb8); have HF8 := zh (HF7.out.trans (Fr.of_below hb8 _)); have HG8 := zh hl8; obtain ⟨Bg, hB8⟩ : ∃ Bg, Bg = w7.heap.size := ⟨_, rfl⟩; rw [← hB8] at HG8 ⊢; have c12 := HV8.out.s; clear hB8 hl8 hf8 hb8; try simp only [Act.put])
    have HHGE := zh hHG
    clear hHG
    rw [HHBE.out, HHGE.out] at HST
    clear c12 
    go_end0
    refine ⟨rfl, ?_, HF8.out⟩
    rw [HST.out]
    exact HV8.out
   | some l =>
    simp only [limC, Option.isSome_some]
    have HLL := zh (HLM.out l hHG)
    go_wp2_with (first | (refine wl_put (Lies.new _ _ _) l.cs _ _ rfl rfl rfl rfl rfl sizeLim (by simp [Lim.cs, Value.oneCell']) (fun w8 hl8 hf8 => ?_); have hb8 : Below w7.heap.size w7 w8 := below_put ((Below.refl w7.heap.size w7).alloc (Nat.le_refl _) _) hf8 (Nat.le_refl _); have HV8 := zh (HV7.out.later hb8); have HF8 := zh (HF7.out.trans (Fr.of_below hb8 _)); have HG8 := zh hl8; obtain ⟨Bg, hB8⟩ : ∃ Bg, Bg = w7.heap.size := ⟨_, rfl⟩; rw [← hB8] at HG8 ⊢; have c12 := HV8.out.s; clear hB8 hl8 hf8 hb8; try simp only [Act.put]) | (refine wpList_load_mid rfl 84 _ rfl Bg 0 rfl l.cs _ (lies_range HG8.out) Tryz.underlying84 rfl sizeLim ?_; (try simp only [Act.put, sA, sB, sC])))
    clear c12 
    refine (limits_any HV8.out l HLL.out 65536).mono ?_
    rintro en w9 ⟨rfl, hv, hf⟩
    have HV9 := zh hv
    have HF9 := zh (HF8.out.trans hf)
    clear hv hf
    have c12 := HV9.out.s
    have HHGE := zh hHG
    clear hHG
    rw [HHBE.out, HHGE.out] at HST
    clear c12 
    go_wp2_with fail
    go_end0
    refine ⟨rfl, ?_, HF9.out⟩
    rw [HST.out]
    exact HV9.out
end Go.Proofs.YtmgjcaikldeioaaGreat.Va
/- A module's checker: an import; a constant. -/
namespace Go.Proofs.YtmgjcaikldeioaaGreat.Va
open Go Go.RowKit Go.Lib Kt Fm Gr Ty

theorem wl_b1u {ops : Array Oper} {rest : List Oper} {op : Oper} {a : Act} {w : World} {Q : Exit → Act → World → Prop} (t : UInt8) (p0 : Operand) (hgd : op.guard = none) (ho : op.op = .buildSlice 49 1 #[(0, p0)]) (h0 : a.eval p0 = .int .u8 t.toNat)
  (hK : ∀ w1, Below w.heap.size w w1 → Sl w1 1 u8c (.slice (some ⟨w.heap.size, 0, none⟩) 1 1) [t] → wpList Tryz.prog ops Q rest (a.put op.dst (.slice (some ⟨w.heap.size, 0, none⟩) 1 1)) w1) : wpList Tryz.prog ops Q (op :: rest) a w :=
 wl_bs1 (.int .u8 t.toNat) [.int .u8 t.toNat] (bs_b1 t.toNat) p0 hgd ho h0 fun w1 h1 h2 => hK w1 h1 (sl_one (en := u8c) h2)
theorem wp_b1u {op : Oper} {a : Act} {w : World} {Q : Exit → Act → World → Prop} {K : Act → World → Prop} (t : UInt8) (p0 : Operand) (ho : op.op = .buildSlice 49 1 #[(0, p0)]) (h0 : a.eval p0 = .int .u8 t.toNat)
  (hK : ∀ w1, Below w.heap.size w w1 → Sl w1 1 u8c (.slice (some ⟨w.heap.size, 0, none⟩) 1 1) [t] → K (a.put op.dst (.slice (some ⟨w.heap.size, 0, none⟩) 1 1)) w1) : op.wp Tryz.prog a w K Q :=
 wp_bs1 (.int .u8 t.toNat) [.int .u8 t.toNat] (bs_b1 t.toNat) p0 ho h0 fun w1 h1 h2 => hK w1 h1 (sl_one (en := u8c) h2)
theorem oneImpL (x : Imp) : (x.cs.toArray.all (·.oneCell')) = true := by simp [Imp.cs, Value.oneCell']
set_option maxRecDepth 100000 in
set_option maxHeartbeats 8000000 in
theorem imp_any {W1 w : World} {kb S0 : Nat} {m : Mod} {e : Nat} (h : Vk W1 kb S0 m e w) (hsp : SpX W1 S0 m) (hm : ModOk W1 m) (x : Imp) (hx : x.ty < 4294967296) :
  Calls Tryz.prog 37 #[.pointer (some ⟨kb, 0, none⟩), .agg x.cs.toArray] w fun en w' => VSays W1 kb S0 m w (impE m x e) en w' := by
 have HSP := zh hsp
 have HM := zh hm
 have HV0 := zh h
 have HF0 := zh (Fr.refl w (fun k => k = kb))
 clear h hsp hm
 obtain ⟨k, hk⟩ : ∃ k : Int, k = x.kind.toNat := ⟨_, rfl⟩
 have HKI := zh hk
 clear hk
 by_cases h0 : k = 0
 ·subst h0
  have HK := zh (show x.kind = 0 from UInt8.toNat_inj.1 (by have := HKI.out; show x.kind.toNat = 0; omega))
  obtain ⟨b, hb⟩ : ∃ b, b = (m.types[x.ty]?).isSome := ⟨_, rfl⟩
  have HBB := zh hb
  clear hb
  go_enter Tryz.func37, Tryz.ntmps37
  go_wp2_with (refine wl_box x.cs _ rfl rfl rfl (fun w1 hb1 hl1 => ?_); have HV1 := zh (HV0.out.later hb1); have HF1 := zh (HF0.out.trans (Fr.of_below hb1 _)); have HI1 := zh hl1; obtain ⟨Bi, hB1⟩ : ∃ Bi, Bi = w.heap.size := ⟨_, rfl⟩; rw [← hB1] at HI1 ⊢; clear hB1 hl1; have xI2 : w1.cell? ⟨Bi, 2, none⟩ = some (.int .u8 0) := (HI1.out.cell 2).trans (congrArg (fun z => some (Value.int .u8 z)) HKI.out.symm); have c12 := HV1.out.s; have xI3 : w1.cell? ⟨Bi, 3, none⟩ = some (.int .u32 x.ty) := HI1.out.cell 3; clear hb1; (try simp only [Act.put, sA, sB, sC]))
  clear xI2 c12 xI3 
  have hd2 := below_drew w1
  have HV2 := zh (HV1.out.later hd2)
  have HF2 := zh (HF1.out.trans (Fr.of_below hd2 _))
  have HI2 := zh (HI1.out.below hd2 HI1.out.lt)
  refine RP.region (RP.take 0 (RP.take 1 (RP.take 2 (RP.take 3 (RP.take 4 (RP.take 5 (RP.fork 6 10 (RP.take 7 (RP.take 8 (RP.take 9 (RP.run 10 (RP.run 11 (RP.take 12 RP.done)))))) (RP.run 6 (RP.take 7 (RP.take 8 (RP.take 9 (RP.run 11 (RP.take 12 RP.done))))))))))))) (fun w' => w'.cell? ⟨kb, 12, none⟩ = some (.pointer (some ⟨S0, 0, none⟩)) ∧ w'.cell? ⟨Bi, 3, none⟩ = some (.int .u32 x.ty)) (by kernel_rfl) (by kernel_rfl) (fun _ _ d _ _ h => by cases d <;> exact h) ⟨HV2.out.s, (HI2.out.cell 3)⟩ (fun _ => ?_)
  clear hd2
  generalize w1.drew = w2 at HV2 HF2 HI2 ⊢
  repeat (first | (refine RP.t_take (v := ?_) rfl rfl (fun w' hw' => ?_) ?_; rotate_left; (focus (obtain ⟨q0, q1⟩ := hw'; (try simp only [Act.put, sA, sB, sC]); go_simp; (try go_bits); (try (with_reducible rfl)))); (try simp only [Act.put, sA, sB, sC])) | (refine RP.t_skip rfl rfl ?_; (try simp only [Act.put, sA, sB, sC])))
  refine RP.t_fork rfl rfl (fun K hK => ?_) (fun K hK => ?_)
  ·go_simp
   refine (type_any HM.out (spx_later HSP.out HV2.out.bel).sp hx).mono ?_
   rintro en w3 ⟨y, rfl, ho, ht, hb3, hab⟩
   have HV3 := zh (HV2.out.later hb3)
   have HF3 := zh (HF2.out.trans (Fr.of_below hb3 _))
   have HI3 := zh (HI2.out.below hb3 HI2.out.lt)
   rw [← HBB.out]
   have HO := zh ho
   have HLN := zh (told_len HM.out ht)
   clear ho ht hab
   clear hb3
   refine hK.out _ _ ⟨HV3.out.s, (HI3.out.cell 3)⟩ ?_
   clear hK K
   (try simp only [Act.put, sA, sB, sC])
   repeat (first | (refine RP.t_take (v := ?_) rfl rfl (fun w' hw' => ?_) ?_; rotate_left; (focus (obtain ⟨q0, q1⟩ := hw'; (try simp only [Act.put, sA, sB, sC]); go_simp; (try go_bits); (try (with_reducible rfl)))); (try simp only [Act.put, sA, sB, sC])) | (refine RP.t_skip rfl rfl ?_; (try simp only [Act.put, sA, sB, sC])))
   refine RP.t_run rfl (fun K hK => ?_)
   go_simp
   obtain ⟨w4, hwn⟩ : ∃ w4, w4 = w3.alloc (.cells #[.slice none 0 0, .slice none 0 0] 51) := ⟨_, rfl⟩
   have hb4 : Below w3.heap.size w3 w4 := hwn ▸ (Below.refl _ _).alloc (Nat.le_refl _) _
   have HN4 := zh (show Lies w4 w3.heap.size 51 #[.slice none 0 0, .slice none 0 0] from hwn ▸ Lies.new _ _ _)
   rw [← hwn]
   clear hwn
   have HV4 := zh (HV3.out.later hb4)
   have HF4 := zh (HF3.out.trans (Fr.of_below hb4 _))
   have HI4 := zh (HI3.out.below hb4 HI3.out.lt)
   obtain ⟨Bn, hBn⟩ : ∃ Bn, Bn = w3.heap.size := ⟨_, rfl⟩
   rw [← hBn] at HN4 ⊢
   have hBw : w.heap.size ≤ Bn := by rw [hBn]; exact HF3.out.size
   clear hBn
   replace HO := zh (HO.out.later hb4)
   clear hb4
   refine hK.out _ _ ⟨HV4.out.s, (HI4.out.cell 3)⟩ ?_
   clear hK K
   (try simp only [Act.put, sA, sB, sC])
   refine RP.t_run rfl (fun K hK => ?_)
   refine ite_of rfl ?_
   refine wp_put HN4.out y.cs _ _ rfl rfl rfl rfl sizeFt (oneFt (HO.out.ok HLN.out.1 HLN.out.2)) (fun w5 hlc hfc => ?_)
   have HO := zh (HO.out.frT (FrT.field HN4.out hfc) (by decide))
   have HV5 := zh (HV4.out.put HN4.out (by decide) (Nat.le_trans HV0.out.bel.size hBw) hfc)
   have HF5 := zh (fr_new HF4.out hfc hBw)
   have HI5 := zh (lies_frT HI4.out (FrT.field HN4.out hfc) (by decide))
   have HN5 := zh hlc
   refine hK.out _ _ ⟨HV5.out.s, (HI5.out.cell 3)⟩ ?_
   clear hK K
   (try simp only [Act.put])
   repeat (first | (refine RP.t_take (v := ?_) rfl rfl (fun w' hw' => ?_) ?_; rotate_left; (focus (obtain ⟨q0, q1⟩ := hw'; (try simp only [Act.put, sA, sB, sC]); go_simp; (try go_bits); (try (with_reducible rfl)))); (try simp only [Act.put, sA, sB, sC])) | (refine RP.t_skip rfl rfl ?_; (try simp only [Act.put, sA, sB, sC])))
   refine RP.t_done ?_
   clear hlc hfc
   go_wp2_with fail
   refine (must_any HV5.out b 80).mono ?_
   rintro en w6 ⟨rfl, hv, hf⟩
   have HV6 := zh hv
   have HF6 := zh (HF5.out.trans hf)
   have HI6 := zh (HV5.out.keep HI5.out (by decide) hf)
   have HN6 := zh (HV5.out.keep HN5.out (by decide) hf)
   clear hv hf
   clear hx
   go_wp2_with fail
   go_end0
   refine ⟨rfl, ?_, HF6.out⟩
   rw [impE, if_pos HK.out, ← HBB.out]
   exact HV6.out
  ·go_simp
   obtain ⟨w3, hwn⟩ : ∃ w3, w3 = w2.alloc (.cells #[.slice none 0 0, .slice none 0 0] 51) := ⟨_, rfl⟩
   have hb3 : Below w2.heap.size w2 w3 := hwn ▸ (Below.refl _ _).alloc (Nat.le_refl _) _
   have HN3 := zh (show Lies w3 w2.heap.size 51 #[.slice none 0 0, .slice none 0 0] from hwn ▸ Lies.new _ _ _)
   rw [← hwn]
   clear hwn
   have HV3 := zh (HV2.out.later hb3)
   have HF3 := zh (HF2.out.trans (Fr.of_below hb3 _))
   have HI3 := zh (HI2.out.below hb3 HI2.out.lt)
   obtain ⟨Bn, hBn⟩ : ∃ Bn, Bn = w2.heap.size := ⟨_, rfl⟩
   rw [← hBn] at HN3 ⊢
   have hBw : w.heap.size ≤ Bn := by rw [hBn]; exact HF2.out.size
   clear hBn
   clear hb3
   refine hK.out _ _ ⟨HV3.out.s, (HI3.out.cell 3)⟩ ?_
   clear hK K
   (try simp only [Act.put, sA, sB, sC])
   refine RP.t_run rfl (fun K hK => ?_)
   go_simp
   refine (type_any HM.out (spx_later HSP.out HV3.out.bel).sp hx).mono ?_
   rintro en w4 ⟨y, rfl, ho, ht, hb4, hab⟩
   have HV4 := zh (HV3.out.later hb4)
   have HF4 := zh (HF3.out.trans (Fr.of_below hb4 _))
   have HI4 := zh (HI3.out.below hb4 HI3.out.lt)
   have HN4 := zh (HN3.out.below hb4 HN3.out.lt)
   rw [← HBB.out]
   have HO := zh ho
   have HLN := zh (told_len HM.out ht)
   clear ho ht hab
   clear hb4
   refine hK.out _ _ ⟨HV4.out.s, (HI4.out.cell 3)⟩ ?_
   clear hK K
   (try simp only [Act.put, sA, sB, sC])
   repeat (first | (refine RP.t_take (v := ?_) rfl rfl (fun w' hw' => ?_) ?_; rotate_left; (focus (obtain ⟨q0, q1⟩ := hw'; (try simp only [Act.put, sA, sB, sC]); go_simp; (try go_bits); (try (with_reducible rfl)))); (try simp only [Act.put, sA, sB, sC])) | (refine RP.t_skip rfl rfl ?_; (try simp only [Act.put, sA, sB, sC])))
   refine RP.t_run rfl (fun K hK => ?_)
   refine ite_of rfl ?_
   refine wp_put HN4.out y.cs _ _ rfl rfl rfl rfl sizeFt (oneFt (HO.out.ok HLN.out.1 HLN.out.2)) (fun w5 hlc hfc => ?_)
   have HO := zh (HO.out.frT (FrT.field HN4.out hfc) (by decide))
   have HV5 := zh (HV4.out.put HN4.out (by decide) (Nat.le_trans HV0.out.bel.size hBw) hfc)
   have HF5 := zh (fr_new HF4.out hfc hBw)
   have HI5 := zh (lies_frT HI4.out (FrT.field HN4.out hfc) (by decide))
   have HN5 := zh hlc
   refine hK.out _ _ ⟨HV5.out.s, (HI5.out.cell 3)⟩ ?_
   clear hK K
   (try simp only [Act.put])
   repeat (first | (refine RP.t_take (v := ?_) rfl rfl (fun w' hw' => ?_) ?_; rotate_left; (focus (obtain ⟨q0, q1⟩ := hw'; (try simp only [Act.put, sA, sB, sC]); go_simp; (try go_bits); (try (with_reducible rfl)))); (try simp only [Act.put, sA, sB, sC])) | (refine RP.t_skip rfl rfl ?_; (try simp only [Act.put, sA, sB, sC])))
   refine RP.t_done ?_
   clear hlc hfc
   go_wp2_with fail
   refine (must_any HV5.out b 80).mono ?_
   rintro en w6 ⟨rfl, hv, hf⟩
   have HV6 := zh hv
   have HF6 := zh (HF5.out.trans hf)
   have HI6 := zh (HV5.out.keep HI5.out (by decide) hf)
   have HN6 := zh (HV5.out.keep HN5.out (by decide) hf)
   clear hv hf
   clear hx
   go_wp2_with fail
   go_end0
   refine ⟨rfl, ?_, HF6.out⟩
   rw [impE, if_pos HK.out, ← HBB.out]
   exact HV6.out
 by_cases h3 : k = 3
 ·subst h3
  have HK := zh (show x.kind = 3 from UInt8.toNat_inj.1 (by have := HKI.out; show x.kind.toNat = 3; omega))
  clear h0
  go_enter Tryz.func37, Tryz.ntmps37
  go_wp2_with (first | (refine wl_box x.cs _ rfl rfl rfl (fun w1 hb1 hl1 => ?_); have HV1 := zh (HV0.out.later hb1); have HF1 := zh (HF0.out.trans (Fr.of_below hb1 _)); have HI1 := zh hl1; obtain ⟨Bi, hB1⟩ : ∃ Bi, Bi = w.heap.size := ⟨_, rfl⟩; rw [← hB1] at HI1 ⊢; clear hB1 hl1; have xI2 : w1.cell? ⟨Bi, 2, none⟩ = some (.int .u8 3) := (HI1.out.cell 2).trans (congrArg (fun z => some (Value.int .u8 z)) HKI.out.symm); have xI6 : w1.cell? ⟨Bi, 6, none⟩ = some (.int .u8 x.gt.t.toNat) := HI1.out.cell 6; clear hb1; (try simp only [Act.put, sA, sB, sC])) | (refine wl_b1u x.gt.t _ rfl rfl rfl (fun w2 hb2 hs2 => ?_); have HV2 := zh (HV1.out.later hb2); have HF2 := zh (HF1.out.trans (Fr.of_below hb2 _)); have HS2 := zh hs2; clear hb2 hs2; (try simp only [Act.put, sA, sB, sC])))
  clear xI2 xI6 
  refine (whole_any HS2.out (by show 1 ≤ _; decide)).mono ?_
  rintro en w3 ⟨rfl, hb3⟩
  have HV3 := zh (HV2.out.later hb3)
  have HF3 := zh (HF2.out.trans (Fr.of_below hb3 _))
  clear hb3
  rw [show [x.gt.t].all intB = intB x.gt.t from Bool.and_true _]
  go_wp2_with fail
  refine (must_any HV3.out _ 100).mono ?_
  rintro en w4 ⟨rfl, hv, hf⟩
  have HV4 := zh hv
  have HF4 := zh (HF3.out.trans hf)
  clear hv hf
  go_wp2_with fail
  go_end0
  refine ⟨rfl, ?_, HF4.out⟩
  rw [impE, if_neg (by rw [HK.out]; decide), if_pos HK.out]
  exact HV4.out
 have HK := zh (show ¬ x.kind = 0 ∧ ¬ x.kind = 3 from ⟨fun e => h0 (by rw [HKI.out, e]; rfl), fun e => h3 (by rw [HKI.out, e]; rfl)⟩)
 go_enter Tryz.func37, Tryz.ntmps37
 go_wp2_with (refine wl_box x.cs _ rfl rfl rfl (fun w1 hb1 hl1 => ?_); have HV1 := zh (HV0.out.later hb1); have HF1 := zh (HF0.out.trans (Fr.of_below hb1 _)); have HI1 := zh hl1; obtain ⟨Bi, hB1⟩ : ∃ Bi, Bi = w.heap.size := ⟨_, rfl⟩; rw [← hB1] at HI1 ⊢; clear hB1 hl1; have xI2 : w1.cell? ⟨Bi, 2, none⟩ = some (.int .u8 k) := (HI1.out.cell 2).trans (congrArg (fun z => some (Value.int .u8 z)) HKI.out.symm); clear hb1; (try simp only [Act.put, sA, sB, sC]))
 go_end0
 refine ⟨rfl, ?_, HF1.out⟩
 rw [impE, if_neg HK.out.1, if_neg HK.out.2]
 exact HV1.out
set_option maxRecDepth 100000 in
set_option maxHeartbeats 8000000 in
theorem const_any {W1 w : World} {kb S0 : Nat} {m : Mod} {e : Nat} (h : Vk W1 kb S0 m e w) (hsp : SpX W1 S0 m) (hm : ModOk W1 m) {v : Value} {l : List Ins} (hl : Sl W1 5 Ins.cs v l) (hx : ∀ y ∈ l, InsOk W1 y) (t : UInt8) :
  Calls Tryz.prog 43 #[.pointer (some ⟨kb, 0, none⟩), v, .int .u8 t.toNat] w fun en w' => VSays W1 kb S0 m w (constE m l t e) en w' := by
 have HSP := zh hsp
 have HM := zh hm
 have HSL := zh hl
 have HXX := zh hx
 obtain ⟨s, cp, rfl, hs⟩ := hl.form
 have HS := zh hs
 have HV0 := zh h
 have HF0 := zh (Fr.refl w (fun k => k = kb))
 clear h hsp hm hl hx hs
 match l, HSL, HXX, HS with
 | [], HSL, HXX, HS =>
  go_enter Tryz.func43, Tryz.ntmps43
  go_wp2_with fail
  refine (must_any HV0.out false 110).mono ?_
  rintro en w1 ⟨rfl, hv, hf⟩
  have HV1 := zh hv
  have HF1 := zh (HF0.out.trans hf)
  clear hv hf
  have c13 := HV1.out.c13
  have HE := zh (show mst e false 110 ≠ 0 from fun c => by have := (mst_zero (b := false) (x := 110) (by decide)).1 c; cases this.2)
  generalize hE : mst e false 110 = e2 at HV1 HE c13
  have he : ¬ (e2 : Int) = 0 := by have := HE.out; omega
  have he2 : ((e2 : Int) != 0) = true := by simpa using he
  have HEE := zh hE
  clear hE
  go_wp2_with fail
  go_end0
  refine ⟨rfl, ?_, HF1.out⟩
  rw [show constE m [] t e = mst e false 110 from rfl, HEE.out]
  exact HV1.out
 | y :: z :: r, HSL, HXX, HS =>
  have hl2 : ¬ (((y :: z :: r).length : Nat) : Int) = 1 := by simp only [List.length_cons]; omega
  go_enter Tryz.func43, Tryz.ntmps43
  go_wp2_with fail
  refine (must_any HV0.out false 110).mono ?_
  rintro en w1 ⟨rfl, hv, hf⟩
  have HV1 := zh hv
  have HF1 := zh (HF0.out.trans hf)
  clear hv hf
  have c13 := HV1.out.c13
  have HE := zh (show mst e false 110 ≠ 0 from fun c => by have := (mst_zero (b := false) (x := 110) (by decide)).1 c; cases this.2)
  generalize hE : mst e false 110 = e2 at HV1 HE c13
  have he : ¬ (e2 : Int) = 0 := by have := HE.out; omega
  have he2 : ((e2 : Int) != 0) = true := by simpa using he
  have HEE := zh hE
  clear hE
  go_wp2_with fail
  go_end0
  refine ⟨rfl, ?_, HF1.out⟩
  rw [show constE m (y :: z :: r) t e = mst e false 110 from rfl, HEE.out]
  exact HV1.out
 | [x], HSL, HXX, HS =>
  obtain ⟨g, off, rfl, _⟩ := HS.out (by simp)
  have HOK := zh (HXX.out x (.head _))
  have HON := zh (oneIns HOK.out)
  have hxa : x.a < 4294967296 := HOK.out.1
  have hl1 : (([x].length : Nat) : Int) = 1 := rfl
  by_cases he0 : e = 0
  ·subst he0
   have HR := zh (show ∀ w', Below W1.heap.size W1 w' → w'.rangeAt g (off + 0 * 5) x.cs from fun w' hb => Gr.sl_range (HSL.out.later hb) (i := 0) rfl)
   obtain ⟨o, ho⟩ : ∃ o : Int, o = x.op.toNat := ⟨_, rfl⟩
   have HO := zh ho
   clear ho
   have HTE := zh (show ∀ c : UInt8, ((t.toNat : Int) == (c.toNat : Int)) = (t == c) from fun c => u8b t c)
   by_cases h65 : o = 65
   ·subst h65
    have HK := zh (show x.op = 65 from UInt8.toNat_inj.1 (by have := HO.out; show x.op.toNat = 65; omega))
    go_enter Tryz.func43, Tryz.ntmps43
    go_wp2_with fail
    refine (must_any HV0.out true 110).mono ?_
    rintro en w1 ⟨rfl, hv, hf⟩
    have HV1 := zh hv
    have HF1 := zh (HF0.out.trans hf)
    clear hv hf
    have c13 := HV1.out.c13
    rw [mst_true] at HV1 c13
    go_wp2_with (first | (refine wpList_load_mid rfl 57 _ rfl g (off + 0 * 5) rfl x.cs _ (HR.out w1 HV1.out.bel) Tryz.underlying57 rfl sizeIns ?_; (try simp only [Act.put, sA, sB, sC])) | (refine wpList_load_mid rfl 57 _ rfl g off rfl x.cs _ (by have := HR.out w1 HV1.out.bel; simpa using this) Tryz.underlying57 rfl sizeIns ?_; (try simp only [Act.put, sA, sB, sC])) | (refine wl_put (Lies.new _ _ _) x.cs _ _ rfl rfl rfl rfl rfl sizeIns HON.out (fun w2 hl2 hf2 => ?_); have hb2 : Below w1.heap.size w1 w2 := below_put ((Below.refl w1.heap.size w1).alloc (Nat.le_refl _) _) hf2 (Nat.le_refl _); have HV2 := zh (HV1.out.later hb2); have HF2 := zh (HF1.out.trans (Fr.of_below hb2 _)); have HI2 := zh hl2; obtain ⟨Bi, hB2⟩ : ∃ Bi, Bi = w1.heap.size := ⟨_, rfl⟩; rw [← hB2] at HI2 ⊢; have xI0 : w2.cell? ⟨Bi, 0, none⟩ = some (.int .u8 65) := (HI2.out.cell 0).trans (congrArg (fun z => some (Value.int .u8 z)) HO.out.symm); clear hB2 hl2 hf2 hb2 c13; try simp only [Act.put]))
    clear xI0 
    refine (must_any HV2.out _ 100).mono ?_
    rintro en w3 ⟨rfl, hv, hf⟩
    have HV3 := zh hv
    have HF3 := zh (HF2.out.trans hf)
    have HI3 := zh (HV2.out.keep HI2.out (by decide) hf)
    clear hv hf
    go_wp2_with fail
    go_end0
    refine ⟨rfl, ?_, HF3.out⟩
    have hce : constE m [x] t 0 = mst 0 (t == 127) 100 := by unfold constE; simp [HK.out]
    rw [hce, ← HTE.out 127]
    exact HV3.out
   by_cases h66 : o = 66
   ·clear h65
    subst h66
    have HK := zh (show x.op = 66 from UInt8.toNat_inj.1 (by have := HO.out; show x.op.toNat = 66; omega))
    go_enter Tryz.func43, Tryz.ntmps43
    go_wp2_with fail
    refine (must_any HV0.out true 110).mono ?_
    rintro en w1 ⟨rfl, hv, hf⟩
    have HV1 := zh hv
    have HF1 := zh (HF0.out.trans hf)
    clear hv hf
    have c13 := HV1.out.c13
    rw [mst_true] at HV1 c13
    go_wp2_with (first | (refine wpList_load_mid rfl 57 _ rfl g (off + 0 * 5) rfl x.cs _ (HR.out w1 HV1.out.bel) Tryz.underlying57 rfl sizeIns ?_; (try simp only [Act.put, sA, sB, sC])) | (refine wpList_load_mid rfl 57 _ rfl g off rfl x.cs _ (by have := HR.out w1 HV1.out.bel; simpa using this) Tryz.underlying57 rfl sizeIns ?_; (try simp only [Act.put, sA, sB, sC])) | (refine wl_put (Lies.new _ _ _) x.cs _ _ rfl rfl rfl rfl rfl sizeIns HON.out (fun w2 hl2 hf2 => ?_); have hb2 : Below w1.heap.size w1 w2 := below_put ((Below.refl w1.heap.size w1).alloc (Nat.le_refl _) _) hf2 (Nat.le_refl _); have HV2 := zh (HV1.out.later hb2); have HF2 := zh (HF1.out.trans (Fr.of_below hb2 _)); have HI2 := zh hl2; obtain ⟨Bi, hB2⟩ : ∃ Bi, Bi = w1.heap.size := ⟨_, rfl⟩; rw [← hB2] at HI2 ⊢; have xI0 : w2.cell? ⟨Bi, 0, none⟩ = some (.int .u8 66) := (HI2.out.cell 0).trans (congrArg (fun z => some (Value.int .u8 z)) HO.out.symm); clear hB2 hl2 hf2 hb2 c13; try simp only [Act.put]))
    clear xI0 
    refine (must_any HV2.out _ 100).mono ?_
    rintro en w3 ⟨rfl, hv, hf⟩
    have HV3 := zh hv
    have HF3 := zh (HF2.out.trans hf)
    have HI3 := zh (HV2.out.keep HI2.out (by decide) hf)
    clear hv hf
    go_wp2_with fail
    go_end0
    refine ⟨rfl, ?_, HF3.out⟩
    have hce : constE m [x] t 0 = mst 0 (t == 126) 100 := by unfold constE; simp [HK.out]
    rw [hce, ← HTE.out 126]
    exact HV3.out
   by_cases h35 : o = 35
   ·clear h65 h66
    subst h35
    have HK := zh (show x.op = 35 from UInt8.toNat_inj.1 (by have := HO.out; show x.op.toNat = 35; omega))
    obtain ⟨gq, hgq⟩ : ∃ gq, gq = gl m x.a := ⟨_, rfl⟩
    have HGQ := zh hgq
    clear hgq
    have HGC := zh (show gtC (gsOf m)[x.a]? = gq.cs from by rw [HGQ.out, gl]; cases (gsOf m)[x.a]? <;> rfl)
    have hfk : (fk m 3).length ≤ 1048576 := Nat.le_trans (fk_le m 3) HM.out.2.1.2.2
    go_enter Tryz.func43, Tryz.ntmps43
    go_wp2_with fail
    refine (must_any HV0.out true 110).mono ?_
    rintro en w1 ⟨rfl, hv, hf⟩
    have HV1 := zh hv
    have HF1 := zh (HF0.out.trans hf)
    clear hv hf
    have c13 := HV1.out.c13
    rw [mst_true] at HV1 c13
    go_wp2_with (first | (refine wpList_load_mid rfl 57 _ rfl g (off + 0 * 5) rfl x.cs _ (HR.out w1 HV1.out.bel) Tryz.underlying57 rfl sizeIns ?_; (try simp only [Act.put, sA, sB, sC])) | (refine wpList_load_mid rfl 57 _ rfl g off rfl x.cs _ (by have := HR.out w1 HV1.out.bel; simpa using this) Tryz.underlying57 rfl sizeIns ?_; (try simp only [Act.put, sA, sB, sC])) | (refine wl_put (Lies.new _ _ _) x.cs _ _ rfl rfl rfl rfl rfl sizeIns HON.out (fun w2 hl2 hf2 => ?_); have hb2 : Below w1.heap.size w1 w2 := below_put ((Below.refl w1.heap.size w1).alloc (Nat.le_refl _) _) hf2 (Nat.le_refl _); have HV2 := zh (HV1.out.later hb2); have HF2 := zh (HF1.out.trans (Fr.of_below hb2 _)); have HI2 := zh hl2; obtain ⟨Bi, hB2⟩ : ∃ Bi, Bi = w1.heap.size := ⟨_, rfl⟩; rw [← hB2] at HI2 ⊢; have xI0 : w2.cell? ⟨Bi, 0, none⟩ = some (.int .u8 35) := (HI2.out.cell 0).trans (congrArg (fun z => some (Value.int .u8 z)) HO.out.symm); have c12 := HV2.out.s; have xI1 : w2.cell? ⟨Bi, 1, none⟩ = some (.int .u32 x.a) := HI2.out.cell 1; clear hB2 hl2 hf2 hb2 c13; try simp only [Act.put]))
    clear xI0 c12 xI1 
    have hd3 := below_drew w2
    have HV3 := zh (HV2.out.later hd3)
    have HF3 := zh (HF2.out.trans (Fr.of_below hd3 _))
    have HI3 := zh (HI2.out.below hd3 HI2.out.lt)
    refine RP.region (RP.take 0 (RP.take 1 (RP.take 2 (RP.take 3 (RP.take 4 (RP.take 5 (RP.fork 6 10 (RP.take 7 (RP.take 8 (RP.take 9 (RP.run 10 (RP.run 11 (RP.take 12 RP.done)))))) (RP.run 6 (RP.take 7 (RP.take 8 (RP.take 9 (RP.run 11 (RP.take 12 RP.done))))))))))))) (fun w' => w'.cell? ⟨kb, 12, none⟩ = some (.pointer (some ⟨S0, 0, none⟩)) ∧ w'.cell? ⟨Bi, 1, none⟩ = some (.int .u32 x.a)) (by kernel_rfl) (by kernel_rfl) (fun _ _ d _ _ h => by cases d <;> exact h) ⟨HV3.out.s, (HI3.out.cell 1)⟩ (fun _ => ?_)
    clear hd3
    generalize w2.drew = w3 at HV3 HF3 HI3 ⊢
    repeat (first | (refine RP.t_take (v := ?_) rfl rfl (fun w' hw' => ?_) ?_; rotate_left; (focus (obtain ⟨q0, q1⟩ := hw'; (try simp only [Act.put, sA, sB, sC]); go_simp; (try go_bits); (try (with_reducible rfl)))); (try simp only [Act.put, sA, sB, sC])) | (refine RP.t_skip rfl rfl ?_; (try simp only [Act.put, sA, sB, sC])))
    refine RP.t_fork rfl rfl (fun K hK => ?_) (fun K hK => ?_)
    ·go_simp
     refine (glob_any (show SpG w3 S0 m (gsOf m) (bsOf m) (msOf m) from spx_later HSP.out HV3.out.bel) hxa).mono ?_
     rintro en w4 ⟨rfl, hb4⟩
     have HV4 := zh (HV3.out.later hb4)
     have HF4 := zh (HF3.out.trans (Fr.of_below hb4 _))
     have HI4 := zh (HI3.out.below hb4 HI3.out.lt)
     rw [HGC.out]
     clear hb4
     refine hK.out _ _ ⟨HV4.out.s, (HI4.out.cell 1)⟩ ?_
     clear hK K
     (try simp only [Act.put, sA, sB, sC])
     repeat (first | (refine RP.t_take (v := ?_) rfl rfl (fun w' hw' => ?_) ?_; rotate_left; (focus (obtain ⟨q0, q1⟩ := hw'; (try simp only [Act.put, sA, sB, sC]); go_simp; (try go_bits); (try (with_reducible rfl)))); (try simp only [Act.put, sA, sB, sC])) | (refine RP.t_skip rfl rfl ?_; (try simp only [Act.put, sA, sB, sC])))
     refine RP.t_run rfl (fun K hK => ?_)
     go_simp
     obtain ⟨w5, hwn⟩ : ∃ w5, w5 = w4.alloc (.cells #[.int .u8 0, .bool false] 78) := ⟨_, rfl⟩
     have hb5 : Below w4.heap.size w4 w5 := hwn ▸ (Below.refl _ _).alloc (Nat.le_refl _) _
     have HN5 := zh (show Lies w5 w4.heap.size 78 #[.int .u8 0, .bool false] from hwn ▸ Lies.new _ _ _)
     rw [← hwn]
     clear hwn
     have HV5 := zh (HV4.out.later hb5)
     have HF5 := zh (HF4.out.trans (Fr.of_below hb5 _))
     have HI5 := zh (HI4.out.below hb5 HI4.out.lt)
     obtain ⟨Bn, hBn⟩ : ∃ Bn, Bn = w4.heap.size := ⟨_, rfl⟩
     rw [← hBn] at HN5 ⊢
     have hBw : w.heap.size ≤ Bn := by rw [hBn]; exact HF4.out.size
     clear hBn
     clear hb5
     refine hK.out _ _ ⟨HV5.out.s, (HI5.out.cell 1)⟩ ?_
     clear hK K
     (try simp only [Act.put, sA, sB, sC])
     refine RP.t_run rfl (fun K hK => ?_)
     refine ite_of rfl ?_
     refine wp_put HN5.out gq.cs _ _ rfl rfl rfl rfl sizeGt (by simp [Gt.cs, Value.oneCell']) (fun w6 hlc hfc => ?_)
     have HV6 := zh (HV5.out.put HN5.out (by decide) (Nat.le_trans HV0.out.bel.size hBw) hfc)
     have HF6 := zh (fr_new HF5.out hfc hBw)
     have HI6 := zh (lies_frT HI5.out (FrT.field HN5.out hfc) (by decide))
     have HN6 := zh hlc
     refine hK.out _ _ ⟨HV6.out.s, (HI6.out.cell 1)⟩ ?_
     clear hK K
     (try simp only [Act.put])
     repeat (first | (refine RP.t_take (v := ?_) rfl rfl (fun w' hw' => ?_) ?_; rotate_left; (focus (obtain ⟨q0, q1⟩ := hw'; (try simp only [Act.put, sA, sB, sC]); go_simp; (try go_bits); (try (with_reducible rfl)))); (try simp only [Act.put, sA, sB, sC])) | (refine RP.t_skip rfl rfl ?_; (try simp only [Act.put, sA, sB, sC])))
     refine RP.t_done ?_
     clear hlc hfc
     go_wp2_with fail
     have hd7 := below_drew w6
     have HV7 := zh (HV6.out.later hd7)
     have HF7 := zh (HF6.out.trans (Fr.of_below hd7 _))
     have HI7 := zh (HI6.out.below hd7 HI6.out.lt)
     have HN7 := zh (HN6.out.below hd7 HN6.out.lt)
     refine wp_region_t [(0, 1), (1, 1), (2, 1), (3, 1), (4, 1), (5, 1), (6, 1), (7, 1), (8, 0), (9, 1), (10, 1), (11, 0)] (fun w' => w'.cell? ⟨kb, 12, none⟩ = some (.pointer (some ⟨S0, 0, none⟩)) ∧ w'.cell? ⟨Bi, 1, none⟩ = some (.int .u32 x.a)) [] [] rfl (by kernel_rfl) (by kernel_rfl) (fun _ _ d _ _ h => by cases d <;> exact h) ⟨HV7.out.s, (HI7.out.cell 1)⟩ (fun p hp => by cases hp) ?_
     clear hd7
     generalize w6.drew = w7 at HV7 HF7 HI7 HN7 ⊢
     repeat (first | (refine ts_take (v := ?_) rfl rfl (fun w' hw' => ?_) ?_; rotate_left; (focus (obtain ⟨q0, q1⟩ := hw'; (try simp only [Act.put, sA, sB, sC]); go_simp; (try go_bits); (try (with_reducible rfl)))); (try simp only [Act.put, sA, sB, sC])) | (refine ts_skip rfl rfl ?_; (try simp only [Act.put, sA, sB, sC])))
     refine ts_run1 rfl rfl (fun K hK => ?_)
     go_simp
     refine (imported3 (spx_later HSP.out HV7.out.bel)).mono ?_
     rintro en w8 ⟨rfl, hb8⟩
     have HV8 := zh (HV7.out.later hb8)
     have HF8 := zh (HF7.out.trans (Fr.of_below hb8 _))
     have HI8 := zh (HI7.out.below hb8 HI7.out.lt)
     have HN8 := zh (HN7.out.below hb8 HN7.out.lt)
     clear hb8
     refine hK.out _ _ ⟨HV8.out.s, (HI8.out.cell 1)⟩ (still_none _ _) ?_
     clear hK K
     (try simp only [Act.put, sA, sB, sC])
     have hw1 : IntKind.u64.wrap (x.a : Int) = (x.a : Int) := by show (x.a : Int) % 18446744073709551616 = x.a; omega
     have hw2 : IntKind.u64.wrap ((fk m 3).length : Int) = ((fk m 3).length : Int) := by show ((fk m 3).length : Int) % 18446744073709551616 = (fk m 3).length; omega
     repeat (first | (refine ts_take (v := ?_) rfl rfl (fun w' hw' => ?_) ?_; rotate_left; (focus (obtain ⟨q0, q1⟩ := hw'; (try simp only [Act.put, sA, sB, sC]); go_simp; (try go_bits); (try (with_reducible rfl)))); (try simp only [Act.put, sA, sB, sC])) | (refine ts_skip rfl rfl ?_; (try simp only [Act.put, sA, sB, sC])))
     refine ts_run1 rfl rfl (fun K hK => ?_)
     go_simp
     refine (must_any HV8.out _ 80).mono ?_
     rintro en w9 ⟨rfl, hv, hf⟩
     have HV9 := zh hv
     have HF9 := zh (HF8.out.trans hf)
     have HI9 := zh (HV8.out.keep HI8.out (by decide) hf)
     have HN9 := zh (HV8.out.keep HN8.out (by decide) hf)
     clear hv hf
     refine hK.out _ _ ⟨HV9.out.s, (HI9.out.cell 1)⟩ (still_none _ _) ?_
     clear hK K
     (try simp only [Act.put, sA, sB, sC])
     refine ts_done ?_
     clear hw1 hw2
     have xN1 : w9.cell? ⟨Bn, 1, none⟩ = some (.bool gq.m) := HN9.out.cell 1
     go_wp2_with fail
     clear xN1 
     refine (must_any HV9.out _ 110).mono ?_
     rintro en w10 ⟨rfl, hv, hf⟩
     have HV10 := zh hv
     have HF10 := zh (HF9.out.trans hf)
     have HI10 := zh (HV9.out.keep HI9.out (by decide) hf)
     have HN10 := zh (HV9.out.keep HN9.out (by decide) hf)
     clear hv hf
     have xN0 : w10.cell? ⟨Bn, 0, none⟩ = some (.int .u8 gq.t.toNat) := HN10.out.cell 0
     go_wp2_with fail
     clear xN0 
     refine (must_any HV10.out _ 100).mono ?_
     rintro en w11 ⟨rfl, hv, hf⟩
     have HV11 := zh hv
     have HF11 := zh (HF10.out.trans hf)
     have HI11 := zh (HV10.out.keep HI10.out (by decide) hf)
     have HN11 := zh (HV10.out.keep HN10.out (by decide) hf)
     clear hv hf
     go_wp2_with fail
     go_end0
     refine ⟨rfl, ?_, HF11.out⟩
     have hce : constE m [x] t 0 = mst (mst (mst 0 (decide (x.a < (fk m 3).length)) 80) (!gq.m) 110) (gq.t == t) 100 := by rw [HGQ.out]; unfold constE; simp [HK.out]
     rw [hce, ← u8b]
     exact HV11.out
    ·go_simp
     obtain ⟨w4, hwn⟩ : ∃ w4, w4 = w3.alloc (.cells #[.int .u8 0, .bool false] 78) := ⟨_, rfl⟩
     have hb4 : Below w3.heap.size w3 w4 := hwn ▸ (Below.refl _ _).alloc (Nat.le_refl _) _
     have HN4 := zh (show Lies w4 w3.heap.size 78 #[.int .u8 0, .bool false] from hwn ▸ Lies.new _ _ _)
     rw [← hwn]
     clear hwn
     have HV4 := zh (HV3.out.later hb4)
     have HF4 := zh (HF3.out.trans (Fr.of_below hb4 _))
     have HI4 := zh (HI3.out.below hb4 HI3.out.lt)
     obtain ⟨Bn, hBn⟩ : ∃ Bn, Bn = w3.heap.size := ⟨_, rfl⟩
     rw [← hBn] at HN4 ⊢
     have hBw : w.heap.size ≤ Bn := by rw [hBn]; exact HF3.out.size
     clear hBn
     clear hb4
     refine hK.out _ _ ⟨HV4.out.s, (HI4.out.cell 1)⟩ ?_
     clear hK K
     (try simp only [Act.put, sA, sB, sC])
     refine RP.t_run rfl (fun K hK => ?_)
     go_simp
     refine (glob_any (show SpG w4 S0 m (gsOf m) (bsOf m) (msOf m) from spx_later HSP.out HV4.out.bel) hxa).mono ?_
     rintro en w5 ⟨rfl, hb5⟩
     have HV5 := zh (HV4.out.later hb5)
     have HF5 := zh (HF4.out.trans (Fr.of_below hb5 _))
     have HI5 := zh (HI4.out.below hb5 HI4.out.lt)
     have HN5 := zh (HN4.out.below hb5 HN4.out.lt)
     rw [HGC.out]
     clear hb5
     refine hK.out _ _ ⟨HV5.out.s, (HI5.out.cell 1)⟩ ?_
     clear hK K
     (try simp only [Act.put, sA, sB, sC])
     repeat (first | (refine RP.t_take (v := ?_) rfl rfl (fun w' hw' => ?_) ?_; rotate_left; (focus (obtain ⟨q0, q1⟩ := hw'; (try simp only [Act.put, sA, sB, sC]); go_simp; (try go_bits); (try (with_reducible rfl)))); (try simp only [Act.put, sA, sB, sC])) | (refine RP.t_skip rfl rfl ?_; (try simp only [Act.put, sA, sB, sC])))
     refine RP.t_run rfl (fun K hK => ?_)
     refine ite_of rfl ?_
     refine wp_put HN5.out gq.cs _ _ rfl rfl rfl rfl sizeGt (by simp [Gt.cs, Value.oneCell']) (fun w6 hlc hfc => ?_)
     have HV6 := zh (HV5.out.put HN5.out (by decide) (Nat.le_trans HV0.out.bel.size hBw) hfc)
     have HF6 := zh (fr_new HF5.out hfc hBw)
     have HI6 := zh (lies_frT HI5.out (FrT.field HN5.out hfc) (by decide))
     have HN6 := zh hlc
     refine hK.out _ _ ⟨HV6.out.s, (HI6.out.cell 1)⟩ ?_
     clear hK K
     (try simp only [Act.put])
     repeat (first | (refine RP.t_take (v := ?_) rfl rfl (fun w' hw' => ?_) ?_; rotate_left; (focus (obtain ⟨q0, q1⟩ := hw'; (try simp only [Act.put, sA, sB, sC]); go_simp; (try go_bits); (try (with_reducible rfl)))); (try simp only [Act.put, sA, sB, sC])) | (refine RP.t_skip rfl rfl ?_; (try simp only [Act.put, sA, sB, sC])))
     refine RP.t_done ?_
     clear hlc hfc
     go_wp2_with fail
     have hd7 := below_drew w6
     have HV7 := zh (HV6.out.later hd7)
     have HF7 := zh (HF6.out.trans (Fr.of_below hd7 _))
     have HI7 := zh (HI6.out.below hd7 HI6.out.lt)
     have HN7 := zh (HN6.out.below hd7 HN6.out.lt)
     refine wp_region_t [(0, 1), (1, 1), (2, 1), (3, 1), (4, 1), (5, 1), (6, 1), (7, 1), (8, 0), (9, 1), (10, 1), (11, 0)] (fun w' => w'.cell? ⟨kb, 12, none⟩ = some (.pointer (some ⟨S0, 0, none⟩)) ∧ w'.cell? ⟨Bi, 1, none⟩ = some (.int .u32 x.a)) [] [] rfl (by kernel_rfl) (by kernel_rfl) (fun _ _ d _ _ h => by cases d <;> exact h) ⟨HV7.out.s, (HI7.out.cell 1)⟩ (fun p hp => by cases hp) ?_
     clear hd7
     generalize w6.drew = w7 at HV7 HF7 HI7 HN7 ⊢
     repeat (first | (refine ts_take (v := ?_) rfl rfl (fun w' hw' => ?_) ?_; rotate_left; (focus (obtain ⟨q0, q1⟩ := hw'; (try simp only [Act.put, sA, sB, sC]); go_simp; (try go_bits); (try (with_reducible rfl)))); (try simp only [Act.put, sA, sB, sC])) | (refine ts_skip rfl rfl ?_; (try simp only [Act.put, sA, sB, sC])))
     refine ts_run1 rfl rfl (fun K hK => ?_)
     go_simp
     refine (imported3 (spx_later HSP.out HV7.out.bel)).mono ?_
     rintro en w8 ⟨rfl, hb8⟩
     have HV8 := zh (HV7.out.later hb8)
     have HF8 := zh (HF7.out.trans (Fr.of_below hb8 _))
     have HI8 := zh (HI7.out.below hb8 HI7.out.lt)
     have HN8 := zh (HN7.out.below hb8 HN7.out.lt)
     clear hb8
     refine hK.out _ _ ⟨HV8.out.s, (HI8.out.cell 1)⟩ (still_none _ _) ?_
     clear hK K
     (try simp only [Act.put, sA, sB, sC])
     have hw1 : IntKind.u64.wrap (x.a : Int) = (x.a : Int) := by show (x.a : Int) % 18446744073709551616 = x.a; omega
     have hw2 : IntKind.u64.wrap ((fk m 3).length : Int) = ((fk m 3).length : Int) := by show ((fk m 3).length : Int) % 18446744073709551616 = (fk m 3).length; omega
     repeat (first | (refine ts_take (v := ?_) rfl rfl (fun w' hw' => ?_) ?_; rotate_left; (focus (obtain ⟨q0, q1⟩ := hw'; (try simp only [Act.put, sA, sB, sC]); go_simp; (try go_bits); (try (with_reducible rfl)))); (try simp only [Act.put, sA, sB, sC])) | (refine ts_skip rfl rfl ?_; (try simp only [Act.put, sA, sB, sC])))
     refine ts_run1 rfl rfl (fun K hK => ?_)
     go_simp
     refine (must_any HV8.out _ 80).mono ?_
     rintro en w9 ⟨rfl, hv, hf⟩
     have HV9 := zh hv
     have HF9 := zh (HF8.out.trans hf)
     have HI9 := zh (HV8.out.keep HI8.out (by decide) hf)
     have HN9 := zh (HV8.out.keep HN8.out (by decide) hf)
     clear hv hf
     refine hK.out _ _ ⟨HV9.out.s, (HI9.out.cell 1)⟩ (still_none _ _) ?_
     clear hK K
     (try simp only [Act.put, sA, sB, sC])
     refine ts_done ?_
     clear hw1 hw2
     have xN1 : w9.cell? ⟨Bn, 1, none⟩ = some (.bool gq.m) := HN9.out.cell 1
     go_wp2_with fail
     clear xN1 
     refine (must_any HV9.out _ 110).mono ?_
     rintro en w10 ⟨rfl, hv, hf⟩
     have HV10 := zh hv
     have HF10 := zh (HF9.out.trans hf)
     have HI10 := zh (HV9.out.keep HI9.out (by decide) hf)
     have HN10 := zh (HV9.out.keep HN9.out (by decide) hf)
     clear hv hf
     have xN0 : w10.cell? ⟨Bn, 0, none⟩ = some (.int .u8 gq.t.toNat) := HN10.out.cell 0
     go_wp2_with fail
     clear xN0 
     refine (must_any HV10.out _ 100).mono ?_
     rintro en w11 ⟨rfl, hv, hf⟩
     have HV11 := zh hv
     have HF11 := zh (HF10.out.trans hf)
     have HI11 := zh (HV10.out.keep HI10.out (by decide) hf)
     have HN11 := zh (HV10.out.keep HN10.out (by decide) hf)
     clear hv hf
     go_wp2_with fail
     go_end0
     refine ⟨rfl, ?_, HF11.out⟩
     have hce : constE m [x] t 0 = mst (mst (mst 0 (decide (x.a < (fk m 3).length)) 80) (!gq.m) 110) (gq.t == t) 100 := by rw [HGQ.out]; unfold constE; simp [HK.out]
     rw [hce, ← u8b]
     exact HV11.out
   have HK := zh (show ¬ x.op = 65 ∧ ¬ x.op = 66 ∧ ¬ x.op = 35 from ⟨fun e => h65 (by rw [HO.out, e]; rfl), fun e => h66 (by rw [HO.out, e]; rfl), fun e => h35 (by rw [HO.out, e]; rfl)⟩)
   go_enter Tryz.func43, Tryz.ntmps43
   go_wp2_with fail
   refine (must_any HV0.out true 110).mono ?_
   rintro en w1 ⟨rfl, hv, hf⟩
   have HV1 := zh hv
   have HF1 := zh (HF0.out.trans hf)
   clear hv hf
   have c13 := HV1.out.c13
   rw [mst_true] at HV1 c13
   go_wp2_with (first | (refine wpList_load_mid rfl 57 _ rfl g (off + 0 * 5) rfl x.cs _ (HR.out w1 HV1.out.bel) Tryz.underlying57 rfl sizeIns ?_; (try simp only [Act.put, sA, sB, sC])) | (refine wpList_load_mid rfl 57 _ rfl g off rfl x.cs _ (by have := HR.out w1 HV1.out.bel; simpa using this) Tryz.underlying57 rfl sizeIns ?_; (try simp only [Act.put, sA, sB, sC])) | (refine wl_put (Lies.new _ _ _) x.cs _ _ rfl rfl rfl rfl rfl sizeIns HON.out (fun w2 hl2 hf2 => ?_); have hb2 : Below w1.heap.size w1 w2 := below_put ((Below.refl w1.heap.size w1).alloc (Nat.le_refl _) _) hf2 (Nat.le_refl _); have HV2 := zh (HV1.out.later hb2); have HF2 := zh (HF1.out.trans (Fr.of_below hb2 _)); have HI2 := zh hl2; obtain ⟨Bi, hB2⟩ : ∃ Bi, Bi = w1.heap.size := ⟨_, rfl⟩; rw [← hB2] at HI2 ⊢; have xI0 : w2.cell? ⟨Bi, 0, none⟩ = some (.int .u8 o) := (HI2.out.cell 0).trans (congrArg (fun z => some (Value.int .u8 z)) HO.out.symm); clear hB2 hl2 hf2 hb2 c13; try simp only [Act.put]))
   clear xI0 
   refine (must_any HV2.out false 110).mono ?_
   rintro en w3 ⟨rfl, hv, hf⟩
   have HV3 := zh hv
   have HF3 := zh (HF2.out.trans hf)
   have HI3 := zh (HV2.out.keep HI2.out (by decide) hf)
   clear hv hf
   go_wp2_with fail
   go_end0
   refine ⟨rfl, ?_, HF3.out⟩
   have hce : constE m [x] t 0 = mst 0 false 110 := by unfold constE; simp [HK.out.1, HK.out.2.1, HK.out.2.2]; rfl
   rw [hce]
   exact HV3.out
  ·have HE0 := zh he0
   have he : ¬ (e : Int) = 0 := by omega
   have he2 : ((e : Int) != 0) = true := by simpa using he
   clear he0
   go_enter Tryz.func43, Tryz.ntmps43
   go_wp2_with fail
   refine (must_any HV0.out true 110).mono ?_
   rintro en w1 ⟨rfl, hv, hf⟩
   have HV1 := zh hv
   have HF1 := zh (HF0.out.trans hf)
   clear hv hf
   have c13 := HV1.out.c13
   rw [mst_true] at HV1 c13
   go_wp2_with fail
   go_end0
   refine ⟨rfl, ?_, HF1.out⟩
   rw [show constE m [x] t e = e from if_pos HE0.out]
   exact HV1.out
end Go.Proofs.YtmgjcaikldeioaaGreat.Va
