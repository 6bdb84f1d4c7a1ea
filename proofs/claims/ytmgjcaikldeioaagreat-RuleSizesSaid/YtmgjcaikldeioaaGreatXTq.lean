/- A body that is gone through, plain: marks, what an opcode asks, a step, all steps. No code in sight. -/
import Derived.Test.YtmgjcaikldeioaaGreatXGm
import Derived.Test.YtmgjcaikldeioaaGreatXTp
namespace Go.Proofs.YtmgjcaikldeioaaGreat.Ty
open Gr

/-! ### opcodes -/
def inB (op : UInt8) (a b : Nat) : Bool := decide (a ≤ op.toNat) && decide (op.toNat ≤ b)
def floatB (op : UInt8) : Bool := inB op 42 43 || (inB op 56 57 || (inB op 67 68 || (inB op 91 102 || (inB op 139 166 || (inB op 168 171 || inB op 174 191)))))
def knownB (op : UInt8) : Bool := !floatB op && (decide (op.toNat ≤ 5) || (inB op 11 17 || (inB op 26 27 || (inB op 32 36 || inB op 40 173))))
def formN (op : UInt8) : UInt8 :=
 if knownB op = false then 0
 else if inB op 2 4 then 1
 else if op = 12 ∨ op = 13 then 2
 else if op = 14 then 3
 else if op = 16 ∨ inB op 32 36 = true then 4
 else if op = 17 then 5
 else if inB op 40 62 then 6
 else if op = 63 ∨ op = 64 then 7
 else if op = 65 then 8
 else if op = 66 then 9
 else 0
def widthN (op : UInt8) : Nat :=
 if op ∈ ([44, 45, 48, 49, 58, 60] : List UInt8) then 1
 else if op ∈ ([46, 47, 50, 51, 59, 61] : List UInt8) then 2
 else if op ∈ ([40, 52, 53, 54, 62] : List UInt8) then 4
 else if op ∈ ([41, 55] : List UInt8) then 8 else 0
def wideB (op : UInt8) : Bool := op == 41 || (inB op 48 53 || (op == 55 || inB op 60 62))
def tyOf' (b : Bool) : UInt8 := if b then 126 else 127
/-- What an opcode takes and gives. -/
def sigL (op : UInt8) : Bts × Bts :=
 if knownB op = false ∨ op.toNat < 40 then ([], [])
 else if op.toNat ≤ 53 then ([127], [tyOf' (wideB op)])
 else if op.toNat ≤ 62 then ([127, tyOf' (wideB op)], [])
 else if op = 63 then ([], [127])
 else if op = 64 ∨ op = 69 ∨ inB op 103 105 = true then ([127], [127])
 else if op.toNat ≤ 66 then ([], [tyOf' (op == 66)])
 else if op = 80 ∨ op = 167 then ([126], [127])
 else if inB op 121 123 = true then ([126], [126])
 else if 172 ≤ op.toNat then ([127], [126])
 else ([tyOf' (inB op 81 90 || decide (124 ≤ op.toNat)), tyOf' (inB op 81 90 || decide (124 ≤ op.toNat))], [tyOf' (decide (124 ≤ op.toNat))])

/-! ### which instructions have bytes -/
def mayB (x : Ins) : Bool :=
 knownB x.op &&
 (match (formN x.op).toNat with
 | 1 => decide (x.a = 64 ∨ x.a = 127 ∨ x.a = 126) && decide (x.b = 0) && decide (x.c = 0) && decide (x.ls = [])
 | 2 | 4 | 5 => decide (x.b = 0) && decide (x.c = 0) && decide (x.ls = [])
 | 3 => decide (x.b = 0) && decide (x.c = 0)
 | 6 => decide (x.c = 0) && decide (x.ls = [])
 | 8 => decide (-2147483648 ≤ x.c ∧ x.c ≤ 2147483647) && decide (x.a = 0) && decide (x.b = 0) && decide (x.ls = [])
 | 9 => decide (x.a = 0) && decide (x.b = 0) && decide (x.ls = [])
 | _ => decide (x.a = 0) && decide (x.b = 0) && decide (x.c = 0) && decide (x.ls = []))
/-- The blocks that are open behind an instruction; none: it may not be there. -/
def mark (o : Bts) (op : UInt8) : Option Bts :=
 if op = 2 ∨ op = 3 ∨ op = 4 then some (o ++ [op])
 else if op = 5 then (if o.getLast? = some 4 then some (o.dropLast ++ [5]) else none)
 else if op = 11 then (if o = [] then none else some o.dropLast)
 else some o
def marks : Bts → List Ins → Option Bts
 | o, [] => some o
 | o, x :: r => if mayB x then (match mark o x.op with | some o' => marks o' r | none => none) else none
def exprOk (l : List Ins) : Bool := decide (marks [] l = some [])
theorem marks_append (a b : List Ins) : ∀ o, marks o (a ++ b) = (marks o a).bind fun o' => marks o' b := by
 induction a with
 | nil => intro o; rfl
 | cons x r ih =>
  intro o
  rw [List.cons_append, marks, marks]
  split
  ·cases mark o x.op with
   | none => rfl
   | some o' => exact ih o'
  ·rfl

/-! ### a step -/
/-- A local's type. -/
def locT (fn : Ft) (c : Cod) (i : Nat) : Option UInt8 := if i < fn.p.length then fn.p[i]? else go c.locs (i - fn.p.length)
where go : List Gr.Loc → Nat → Option UInt8
 | [], _ => none
 | l :: r, k => if k < l.n then some l.t else go r (k - l.n)
/-- What a module's space tells. -/
structure Spc where
 (func : Nat → Option Ft) (type : Nat → Option Ft) (glob : Nat → Option Gt) (tab : Bool) (mem : Bool)
structure Cx where
 (s : Spc) (fn : Ft) (c : Cod)
structure St where
 (t : Stk) (o : Bts)
abbrev R := Except Nat St
def takes (s : St) (ps rs : Bts) : R := match want s.t ps with
 | none => .error 100
 | some t => .ok { s with t := push t rs }
def resT (a : Nat) : Bts := if a % 256 = 64 then [] else [UInt8.ofNat a]
def stepBlock (s : St) (x : Ins) : R :=
 match (if x.op = 4 then want s.t [127] else some s.t) with
 | none => .error 100
 | some t => .ok ⟨opn t (if x.op = 3 then [] else resT x.a) (resT x.a), s.o ++ [x.op]⟩
def stepElse (s : St) : R := match close s.t with
 | none => .error 100
 | some (e, t) => .ok ⟨opn t e e, s.o.dropLast ++ [5]⟩
def stepEnd (s : St) : R := match close s.t with
 | none => .error 100
 | some (e, t) => if s.o.getLast? = some 4 ∧ e ≠ [] then .error 100 else .ok ⟨push t e, s.o.dropLast⟩
def stepBr (s : St) (x : Ins) : R := match label s.t x.a with
 | none => .error 101
 | some l => if x.op = 13 then takes s (l ++ [127]) l else match want s.t l with
  | none => .error 100
  | some t => .ok { s with t := kill t }
def stepTable (s : St) (x : Ins) : R := match label s.t x.a with
 | none => .error 101
 | some l =>
  if x.ls.any (fun n => (label s.t n).isNone) then .error 101
  else if x.ls.all (fun n => decide (label s.t n = some l)) = false then .error 100
  else match want s.t (l ++ [127]) with
   | none => .error 100
   | some t => .ok { s with t := kill t }
def stepLeave (cx : Cx) (s : St) (x : Ins) : R := if x.op = 0 then .ok { s with t := kill s.t } else match want s.t cx.fn.r with
 | none => .error 100
 | some t => .ok { s with t := kill t }
def stepCall (cx : Cx) (s : St) (x : Ins) : R := match cx.s.func x.a with
 | none => .error 80
 | some f => takes s f.p f.r
def stepInd (cx : Cx) (s : St) (x : Ins) : R := match cx.s.type x.a with
 | none => .error 80
 | some f => if cx.s.tab then takes s (f.p ++ [127]) f.r else .error 80
def stepDrop (s : St) : R := match pop s.t with
 | none => .error 100
 | some (_, t) => .ok { s with t := t }
def stepSel (s : St) : R := match want s.t [127] with
 | none => .error 100
 | some t => match pop t with
  | none => .error 100
  | some (a, t) => match pop t with
   | none => .error 100
   | some (b, t) => if a ≠ b ∧ a ≠ 0 ∧ b ≠ 0 then .error 100 else .ok { s with t := push t [max a b] }
def stepLocal (cx : Cx) (s : St) (x : Ins) : R := match locT cx.fn cx.c x.a with
 | none => .error 80
 | some t => if x.op = 32 then takes s [] [t] else if x.op = 33 then takes s [t] [] else takes s [t] [t]
def stepGlobal (cx : Cx) (s : St) (x : Ins) : R := match cx.s.glob x.a with
 | none => .error 80
 | some g => if x.op = 35 then takes s [] [g.t] else if g.m = false then .error 100 else takes s [g.t] []
def stepPlain (cx : Cx) (s : St) (x : Ins) : R :=
 if ((formN x.op) = 6 ∨ (formN x.op) = 7) ∧ cx.s.mem = false then .error 80
 else if (formN x.op) = 6 ∧ (3 < x.a ∨ widthN x.op < 2 ^ x.a) then .error 100
 else takes s (sigL x.op).1 (sigL x.op).2
def step (cx : Cx) (s : St) (x : Ins) : R :=
 if x.op = 2 ∨ x.op = 3 ∨ x.op = 4 then stepBlock s x
 else if x.op = 5 then stepElse s
 else if x.op = 11 then stepEnd s
 else if x.op = 12 ∨ x.op = 13 then stepBr s x
 else if x.op = 14 then stepTable s x
 else if x.op = 15 ∨ x.op = 0 then stepLeave cx s x
 else if x.op = 16 then stepCall cx s x
 else if x.op = 17 then stepInd cx s x
 else if x.op = 26 then stepDrop s
 else if x.op = 27 then stepSel s
 else if x.op = 32 ∨ x.op = 33 ∨ x.op = 34 then stepLocal cx s x
 else if x.op = 35 ∨ x.op = 36 then stepGlobal cx s x
 else stepPlain cx s x
def run (cx : Cx) : St → List Ins → R
 | s, [] => .ok s
 | s, x :: r => match step cx s x with
  | .error e => .error e
  | .ok s' => run cx s' r
def stk0 (ends : Bts) : Stk := opn ⟨[], [], 0⟩ ends ends
/-- What is told of a body. -/
def chk (cx : Cx) : Nat × Nat :=
 if exprOk cx.c.body = false then (0, 2)
 else if cx.c.locs.any (fun l => l.t != 127 && l.t != 126) then (0, 100)
 else match run cx ⟨stk0 cx.fn.r, []⟩ cx.c.body with
  | .error e => (0, e)
  | .ok s => match close s.t with
   | none => (0, 100)
   | some _ => (s.t.most, 0)
theorem run_append (cx : Cx) (a b : List Ins) : ∀ s, run cx s (a ++ b) = match run cx s a with | .error e => .error e | .ok s' => run cx s' b := by
 induction a with
 | nil => intro s; rfl
 | cons x r ih =>
  intro s
  rw [List.cons_append, run, run]
  cases step cx s x with
  | error e => rfl
  | ok s' => exact ih s'
end Go.Proofs.YtmgjcaikldeioaaGreat.Ty
