/- The walk of addr.Parse: of any text the address, or ErrArg. -/
import Derived.Test.YtldeialjonanmaaDoorAdT
import Derived.StillTailTactics
namespace Go.Proofs.YtldeialjonanmaaDoor.Ad
open Go Go.RowKit Kt

/-- Is it one of the sixteen signs, and of what number? -/
def isHex (c : UInt8) : Bool := (48 ≤ c && c ≤ 57) || (97 ≤ c && c ≤ 102)
def hexN (c : UInt8) : Nat := if c ≤ 57 then c.toNat - 48 else c.toNat - 87
def pair (c d : UInt8) : UInt8 := UInt8.ofNat (16 * hexN c + hexN d)

theorem hex_facts : ∀ c : UInt8, isHex c = true → hexN c < 16 ∧ Lib.indexByte digs.data.toList c = (hexN c : Int) ∧ dig (hexN c) = c := by
  have h : ∀ i : Fin 256, isHex (UInt8.ofNat i.1) = true → hexN (UInt8.ofNat i.1) < 16 ∧ Lib.indexByte digs.data.toList (UInt8.ofNat i.1) = (hexN (UInt8.ofNat i.1) : Int) ∧ dig (hexN (UInt8.ofNat i.1)) = UInt8.ofNat i.1 := by decide +kernel
  intro c
  have := h ⟨c.toNat, u8_lt c⟩
  simpa using this
theorem hex_in : ∀ c : UInt8, digs.data.toList.contains c = isHex c := by
  have h : ∀ i : Fin 256, digs.data.toList.contains (UInt8.ofNat i.1) = isHex (UInt8.ofNat i.1) := by decide +kernel
  intro c
  have := h ⟨c.toNat, u8_lt c⟩
  simpa using this
theorem dig_facts : ∀ n : Fin 16, isHex (dig n.1) = true ∧ hexN (dig n.1) = n.1 := by decide

theorem dropWhile_nil {α : Type} (p : α → Bool) : ∀ l : List α, l.dropWhile p = [] ↔ l.all p = true
  | [] => by simp
  | a :: l => by
    rw [List.dropWhile_cons, List.all_cons]
    by_cases h : p a = true
    · simp [h, dropWhile_nil p l]
    · simp [h]
theorem dropWhile_all {α : Type} (p : α → Bool) : ∀ l : List α, (l.dropWhile p).all p = true → l.all p = true
  | [], _ => rfl
  | a :: l, h => by
    rw [List.dropWhile_cons] at h
    by_cases ha : p a = true
    · rw [if_pos ha] at h
      simp [ha, dropWhile_all p l h]
    · rw [if_neg ha] at h
      exact h
theorem trim_nil (l : List UInt8) : Lib.trimS l digs.data.toList = [] ↔ l.all isHex = true := by
  have e : (fun c => digs.data.toList.contains c) = isHex := funext hex_in
  unfold Lib.trimS Lib.trimLeftS Lib.trimRightS
  rw [e, dropWhile_nil, List.all_reverse]
  constructor
  · intro h
    have := dropWhile_all isHex _ (by simpa using h)
    simpa using this
  · intro h
    have : (l.reverse.dropWhile isHex) = [] := by rw [dropWhile_nil]; simpa using h
    rw [this]; rfl

theorem index_any (c : UInt8) (w : World) (h : isHex c = true) :
    Calls Tryd.prog 22 #[.string digs, .int .u8 (c.toNat : Int)] w fun e w' => e = .returned (.int .i64 (hexN c : Nat)) ∧ w' = w := by
  have := Tryd.strings_IndexByte digs (c.toNat : Int) w
  simp only [Int.toNat_natCast, Nat.toUInt8_eq, UInt8.ofNat_toNat, (hex_facts c h).2.1] at this
  exact this

theorem join_nib (m n : Nat) (hm : m < 16) (hn : n < 16) : IntKind.u8.wrap (bits .or .i64 ((m : Int) * 16) (n : Int)) = ((16 * m + n : Nat) : Int) := by
  have h : ∀ m n : Fin 16, IntKind.u8.wrap (bits .or .i64 ((m.1 : Int) * 16) (n.1 : Int)) = ((16 * m.1 + n.1 : Nat) : Int) := by decide +kernel
  exact h ⟨m, hm⟩ ⟨n, hn⟩
theorem pair_nat (c d : UInt8) (hc : isHex c = true) (hd : isHex d = true) : ((pair c d).toNat : Int) = ((16 * hexN c + hexN d : Nat) : Int) := by
  have := (hex_facts c hc).1
  have := (hex_facts d hd).1
  unfold pair
  rw [ofNat_toNat _ (by omega)]

/-- The bytes that sixteen signs spell. -/
def spell (s : ByteArray) (h : s.size = 16) : A8 := ⟨pair s[0] s[1], pair s[2] s[3], pair s[4] s[5], pair s[6] s[7], pair s[8] s[9], pair s[10] s[11], pair s[12] s[13], pair s[14] s[15]⟩

theorem at_hex (s : ByteArray) (h : s.data.toList.all isHex = true) (i : Nat) (hi : i < s.size) : isHex s[i] = true := by
  rw [List.all_eq_true] at h
  exact h _ (by rw [ByteArray.getElem_eq_getElem_data]; exact Array.mem_toList_iff.2 (Array.getElem_mem _))
end Go.Proofs.YtldeialjonanmaaDoor.Ad
