/- An entry built of an address and two numbers: ten cells at once. -/
import Derived.Test.YteeghdkejnhjnaaAcR
namespace Go.Proofs.Yteeghdkejnhjnaa.Ac
open Go Go.RowKit Kt Ad
theorem build_ent (x : Ent) (w : World) : (Instr.build 93 #[(0, x.a.v), (1, .int .u64 x.b), (2, .int .u64 x.n)]).run Try.prog w = .ok (.agg x.cs.toArray) w := by kernel_rfl
theorem wl_build {ops : Array Oper} {rest : List Oper} {op : Oper} {a : Act} {w : World} {Q : Exit → Act → World → Prop} (x : Ent) (p0 p1 p2 : Operand) (hgd : op.guard = none) (ho : op.op = .build 93 #[(0, p0), (1, p1), (2, p2)])
    (h0 : a.eval p0 = x.a.v) (h1 : a.eval p1 = .int .u64 x.b) (h2 : a.eval p2 = .int .u64 x.n) (hk : wpList Try.prog ops Q rest (a.put op.dst (.agg x.cs.toArray)) w) : wpList Try.prog ops Q (op :: rest) a w := by
  refine wpList_plain hgd fun _ hK => ?_
  have hb := build_ent x w
  unfold Oper.wp execOp
  simp [ho, h0, h1, h2, hb]
  exact hK _ _ hk
theorem row_form {w : World} {base sz n : Nat} {t : TypeId} {v : Value} {xs : List Value} (h : w.ownsRow base t sz v n xs) : ∃ (s : Option Addr) (cap : Nat), v = .slice s n cap ∧ (n ≠ 0 → ∃ g, s = some ⟨g, 0, none⟩) := by
  rcases h.2 with ⟨rfl, h0⟩ | ⟨g, cap, cur, rfl, _⟩
  · exact ⟨none, 0, by rw [h0], fun e => absurd h0 e⟩
  · exact ⟨_, cap, rfl, fun _ => ⟨g, rfl⟩⟩
end Go.Proofs.Yteeghdkejnhjnaa.Ac
