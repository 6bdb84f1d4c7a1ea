/- Bytes in memory read as a list; bytes.Compare. -/
import Derived.Test.YtkdckcjnjljdmaaProg
import Derived.WalkKit
import Derived.Lib.Bytealg
import Derived.Laws.Externs
import Derived.Lib.Hide
namespace Go.Proofs.Ytkdckcjnjljdmaa.Kt
open Go Go.RowKit

theorem block_of_add (a : Addr) (n : Nat) : (a.add n).block = a.block := by unfold Addr.add; split <;> rfl
theorem add_of_add (a : Addr) (i j : Nat) : (a.add i).add j = a.add (i + j) := by
  unfold Addr.add
  by_cases hi : i = 0 <;> by_cases hj : j = 0 <;> simp [hi, hj, Nat.add_assoc]

/-- The bytes l stand from A on, in a block below B. -/
def RB (W : World) (B : Nat) (A : Option Addr) (l : List UInt8) : Prop :=
  0 < l.length → ∃ ad, A = some ad ∧ ad.block < B ∧ ∀ j b, l[j]? = some b → W.cell? (ad.add j) = some (.int .u8 (b.toNat : Int))

section
variable {W W' : World} {B B' : Nat} {A : Option Addr} {l : List UInt8}
theorem RB.nil : RB W B A [] := fun h => absurd h (by simp)
theorem RB.keep (h : RB W B A l) (hk : ∀ p : Addr, p.block < B → W'.cell? p = W.cell? p) : RB W' B A l := fun hl => by
  obtain ⟨ad, e, hb, hc⟩ := h hl
  exact ⟨ad, e, hb, fun j b hj => (hk _ (by rw [block_of_add]; exact hb)).trans (hc j b hj)⟩
theorem RB.more (h : RB W B A l) (hB : B ≤ B') : RB W B' A l := fun hl => by
  obtain ⟨ad, e, hb, hc⟩ := h hl
  exact ⟨ad, e, Nat.lt_of_lt_of_le hb hB, hc⟩
theorem RB.below (h : RB W B A l) (hb : Below B W W') : RB W' B A l := h.keep fun _ hp => hb.cell hp
theorem RB.drew (h : RB W B A l) : RB W.drew B A l := h
theorem RB.alloc (h : RB W B A l) (hB : B ≤ W.heap.size) (o : Obj) : RB (W.alloc o) B A l := h.below ((Below.refl _ _).alloc hB o)
theorem RB.lt (h : RB W W.heap.size A l) : RB W W.heap.size A l := h

variable {P : Program}
theorem run_load_cell {ad : Addr} {v : Value} (h : W.cell? ad = some v) : (load ad).run P W = .ok v W := by simp [load, Sem.run, h]
theorem run_loadBytes (ad : Addr) : ∀ (l : List UInt8) (i : Nat) (acc : ByteArray), (∀ j b, l[j]? = some b → W.cell? (ad.add (i + j)) = some (.int .u8 (b.toNat : Int))) →
    (Extern.Bytes.loadBytes (ad.add i) l.length acc).run P W = .ok ⟨acc.data ++ l.toArray⟩ W
  | [], i, acc, _ => by simp [Extern.Bytes.loadBytes]
  | b :: r, i, acc, h => by
    have h0 : W.cell? (ad.add i) = some (.int .u8 (b.toNat : Int)) := h 0 b rfl
    have ih := run_loadBytes ad r (i + 1) (acc.push b) (fun j c hj => by have := h (j + 1) c (by simpa using hj); rwa [show i + (j + 1) = i + 1 + j by omega] at this)
    simp only [List.length_cons, Extern.Bytes.loadBytes, Sem.run_bind, run_load_cell h0, Result.andThen_ok]
    rw [show (ad.add i).add 1 = ad.add (i + 1) from add_of_add _ _ _]
    simp only [Int.toNat_natCast, UInt8.ofNat_toNat, Nat.toUInt8]
    rw [ih]
    simp [ByteArray.push]
theorem run_bytesOf (h : RB W B A l) (c : Nat) : (Extern.Bytes.bytesOf (.slice A l.length c)).run P W = .ok ⟨l.toArray⟩ W := by
  rcases l with _ | ⟨b, r⟩
  · cases A with
    | none => simp [Extern.Bytes.bytesOf]; rfl
    | some ad => simp [Extern.Bytes.bytesOf, Extern.Bytes.loadBytes]; rfl
  · obtain ⟨ad, rfl, _, hc⟩ := h (by simp)
    have := run_loadBytes (P := P) (W := W) ad (b :: r) 0 .empty (fun j c hj => by rw [Nat.zero_add]; exact hc j c hj)
    rw [show ad.add 0 = ad from rfl] at this
    simp only [Extern.Bytes.bytesOf, this]
    congr 1
    show (⟨#[] ++ (b :: r).toArray⟩ : ByteArray) = _
    simp
theorem run_compare {A' : Option Addr} {l' : List UInt8} (h : RB W B A l) (h' : RB W B' A' l') (c c' : Nat) :
    (Extern.BytealgCompare.compare #[.slice A l.length c, .slice A' l'.length c']).run P W = .ok (.int .i64 (Lib.compareBytes l l')) W := by
  change Sem.run P (do pure (goInt (Extern.BytealgCompare.cmp (← Extern.Bytes.bytesOf (.slice A l.length c)) (← Extern.Bytes.bytesOf (.slice A' l'.length c'))))) W = _
  simp only [Sem.run_bind, run_bytesOf h, run_bytesOf h', Sem.run_pure, Result.andThen]
  rw [Lib.cmp_eq]
  rfl
end

set_option maxRecDepth 100000 in
set_option maxHeartbeats 1000000 in
theorem bytes_compare {W : World} {B B' : Nat} {A A' : Option Addr} {l l' : List UInt8} (h : RB W B A l) (h' : RB W B' A' l') (c c' : Nat) :
    Calls Try.prog 22 #[.slice A l.length c, .slice A' l'.length c'] W fun e w' => e = .returned (.int .i64 (Lib.compareBytes l l')) ∧ W = w' := by
  have HC := Lib.hid (run_compare (P := Try.prog) h h' c c')
  clear h h'
  generalize Lib.compareBytes l l' = r at HC ⊢
  go_enter Try.func22, Try.ntmps22
  go_wp2
  rw [run_callFunc_extern Try.func42 (by kernel_rfl) (by kernel_rfl) (by kernel_rfl) (e := Extern.BytealgCompare.compare) (by kernel_rfl), HC.out]
  simp only [Result.andThen]
  rw [Oper.upon_value]
  go_wp2
  go_ret
  exact ⟨rfl, rfl⟩
end Go.Proofs.Ytkdckcjnjljdmaa.Kt
