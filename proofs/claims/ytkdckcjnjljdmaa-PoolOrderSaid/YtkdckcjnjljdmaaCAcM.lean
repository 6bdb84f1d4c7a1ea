/- A ledger in memory: a struct of one field, a map of entries by addresses. -/
import Derived.Test.YtkdckcjnjljdmaaCAcP
import Derived.Test.YtkdckcjnjljdmaaCKa
import Derived.Test.YtkdckcjnjljdmaaCBx
import Derived.Lib.Hide
namespace Go.Proofs.Ytkdckcjnjljdmaa.Ac
open Go Go.RowKit Kt Ad

def Ent.val (e : Ent) : Value := .agg #[.int .u64 e.b, .int .u64 e.n]
def kv (e : Ent) : A8 × Value := (e.a, e.val)
/-- A LEDGER: the struct in block bl, its map in block bm, the entries L. -/
structure Led (W : World) (bl bm : Nat) (L : List Ent) : Prop where
  cell : Lies W bl 99 #[.map (some bm)]
  map : IsMap A8.v W bm (L.map kv)
  ok : Ok L

section
variable {W W' : World} {bl bm : Nat} {L : List Ent}
theorem Led.kept {row : Option Nat} (h : Led W bl bm L) (hg : W.grownBy W' row) (h1 : some bl ≠ row) (h2 : some bm ≠ row) : Led W' bl bm L := ⟨h.cell.kept hg h1, h.map.kept hg h2, h.ok⟩
theorem Led.alloc (h : Led W bl bm L) (o : Obj) : Led (W.alloc o) bl bm L := h.kept (World.grownBy_alloc W o none) (by simp) (by simp)
theorem Led.drew (h : Led W bl bm L) : Led W.drew bl bm L := ⟨h.cell, h.map.drew, h.ok⟩
theorem Led.drewN (h : Led W bl bm L) (n : Nat) : Led (W.drewN n) bl bm L := ⟨h.cell, h.map.of_block rfl, h.ok⟩
theorem Led.below {n : Nat} (h : Led W bl bm L) (hb : Below n W W') (h1 : bl < n) (h2 : bm < n) : Led W' bl bm L := ⟨h.cell.below hb h1, h.map.of_block (hb.block bm h2), h.ok⟩
theorem Led.later (h : Led W bl bm L) (hb : Below W.heap.size W W') : Led W' bl bm L := h.below hb h.cell.lt h.map.lt
theorem Led.ne (h : Led W bl bm L) : bl ≠ bm := by
  obtain ⟨es, c, h1, _⟩ := h.map.block
  exact h.cell.not_map h1
theorem Led.setCell (h : Led W bl bm L) {a : Addr} {v v0 : Value} (hne : bl ≠ a.block) (hc : W.cell? a = some v0) : Led (W.setCell a v) bl bm L := ⟨h.cell.other hne v, h.map.setCell hc, h.ok⟩
end

/-- What a look-up gives. -/
theorem look_get (L : List Ent) (a : A8) : lookVal false (.agg #[.int .u64 0, .int .u64 0]) (valAt (L.map kv) a) = .agg #[.int .u64 ((get L a).1 : Nat), .int .u64 ((get L a).2 : Nat)] := by
  unfold valAt get
  rw [List.find?_map]
  have e1 : ((fun p : A8 × Value => decide (p.1 = a)) ∘ kv) = fun e : Ent => decide (e.a = a) := rfl
  rw [e1]
  cases L.find? (fun e => decide (e.a = a)) with
  | none => rfl
  | some e => rfl
theorem strike_kv (L : List Ent) (a : A8) : strike (L.map kv) a = (strikeE a L).map kv := by
  unfold strike strikeE
  rw [List.filter_map]
  rfl
theorem Led.struck {W : World} {bl bm : Nat} {L : List Ent} {x : Ent} (hok : Ok L) (hb : x.b < M64) (hn : x.n < M64) (hz : zero x = true) (hc : Lies W bl 99 #[.map (some bm)]) (h : IsMap A8.v W bm (strike (L.map kv) x.a)) : Led W bl bm (put x L) := by
  rw [strike_kv, ← put_zero x L hz] at h
  exact ⟨hc, h, hok.put hb hn⟩
theorem Led.stored {W : World} {bl bm : Nat} {L : List Ent} {x : Ent} (hok : Ok L) (hb : x.b < M64) (hn : x.n < M64) (hz : zero x = false) (hc : Lies W bl 99 #[.map (some bm)]) (h : IsMap A8.v W bm (putAt (L.map kv) x.a x.val)) : Led W bl bm (put x L) := by
  refine ⟨hc, h.perm ?_, hok.put hb hn⟩
  unfold putAt
  rw [strike_kv]
  exact ((perm_put x L hz).map kv).symm

@[go_sem] theorem field_entry0 (w : World) (x y : Value) : (Instr.field 108 (.agg #[x, y]) 0).run Try.prog w = .ok x w := by kernel_rfl
@[go_sem] theorem field_entry1 (w : World) (x y : Value) : (Instr.field 108 (.agg #[x, y]) 1).run Try.prog w = .ok y w := by kernel_rfl
theorem zeroEntry (w : World) : (zeroValue 108).run Try.prog w = .ok (.agg #[.int .u64 0, .int .u64 0]) w := by kernel_rfl
theorem Led.look {W : World} {bl bm : Nat} {L : List Ent} (h : Led W bl bm L) (a : A8) :
    (Instr.lookup 97 (.map (some bm)) a.v false).run Try.prog W = .ok (.agg #[.int .u64 ((get L a).1 : Nat), .int .u64 ((get L a).2 : Nat)]) W := by
  rw [h.map.look encAddr Try.underlying97 false (zeroEntry W) a, look_get]
end Go.Proofs.Ytkdckcjnjljdmaa.Ac
