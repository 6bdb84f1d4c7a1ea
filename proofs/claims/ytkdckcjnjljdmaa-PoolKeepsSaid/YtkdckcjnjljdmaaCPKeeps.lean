/- The statement PoolKeeps: for every input the call returns true (a pool that is full keeps the best ones of those that came; one that is out for room is worse than all that are kept then) and each argument reads behind it as it did: the row. Conditions: none beyond the row's own. -/
import Derived.Test.YtkdckcjnjljdmaaCRw
import Derived.Test.YtkdckcjnjljdmaaCRwW
import Derived.Test.YtkdckcjnjljdmaaCYg
namespace Go.Proofs.Ytkdckcjnjljdmaa.lwKeeps
open Go Go.ChangeShapes Go.WideShapes Go.ChangeAt Go.RowKit Kt Fm Po

section
variable {H : Type} {enc : TypeId × Value → H} {w : World} {base : Nat} {spare : Nat → Bool} {held : Bool}
def bulk {H : Type} (d : DataW H) : Nat := Rows.uptoBulk d
theorem bulk_one (d : DataW H) : 1 ≤ bulk d := by
  unfold bulk
  cases d with
  | lit l => cases l <;> simp [Rows.uptoBulk]
  | nil => simp [Rows.uptoBulk]
  | ptr d => simp [Rows.uptoBulk]
  | slice l r => simp [Rows.uptoBulk]
  | agg l => simp [Rows.uptoBulk]
  | iface t d => simp [Rows.uptoBulk]
  | map l => simp [Rows.uptoBulk]
  | held h => simp [Rows.uptoBulk]
theorem bulk_len (l : List (DataW H)) : l.length ≤ Rows.uptoBulkAll l := by
  induction l with
  | nil => simp [Rows.uptoBulkAll]
  | cons d r ih =>
    have := bulk_one d
    unfold bulk at this
    simp only [Rows.uptoBulkAll, List.length_cons]
    omega
theorem bulk_mem {d : DataW H} {l : List (DataW H)} (h : d ∈ l) : bulk d ≤ Rows.uptoBulkAll l := by
  induction l with
  | nil => cases h
  | cons x r ih =>
    simp only [Rows.uptoBulkAll]
    rcases List.mem_cons.1 h with rfl | h
    · unfold bulk; omega
    · have := ih h; omega
theorem bulk_slice (l r : List (DataW H)) : l.length + r.length + 1 ≤ bulk (.slice l r) := by
  have := bulk_len l
  have := bulk_len r
  unfold bulk
  simp only [Rows.uptoBulk]
  omega
theorem bulk_elem (l r : List (DataW H)) (d : DataW H) (h : d ∈ l) : bulk d ≤ bulk (.slice l r) := by
  have := bulk_mem h
  show bulk d ≤ Rows.uptoBulk (.slice l r)
  simp only [Rows.uptoBulk]
  omega
set_option maxRecDepth 100000 in
theorem open_u16s {r : Reach} {b0 : Nat} {v : Value} {d : DataW H} {p : List MemPlace} (hv : Value.okWide Try.prog w r b0 49 v) (h : DataW.Trod enc Try.prog w base spare held 49 v d p) : ∃ L : List Nat, Sl w 1 c16 v L ∧ ∀ x ∈ L, x < 65536 := by
  obtain ⟨fuel, hf⟩ := h
  obtain ⟨v', L, e, hs, hq, _⟩ := sl_of (y := (d, p)) Try.underlying49 (sz := 1) (by kernel_rfl) (by decide) c16 c16_len (Q := fun x => x < 65536) hf bulk_slice bulk_elem (Nat.le_refl _) (fun n cs' d p h _ => by
    obtain ⟨k, e, _, hw⟩ := DataW.trod_int Try.underlying51 h
    have hb := bounds_u16 hw
    refine ⟨k.toNat, ?_, by omega⟩
    rw [e]
    unfold c16
    rw [Int.toNat_of_nonneg hb.1])
  obtain rfl : v = v' := by
    obtain ⟨s, n0, c0, rfl⟩ := okWide_slice Try.underlying49 hv
    exact (List.cons.inj e).1
  exact ⟨L, hs, hq⟩
end
theorem laidOut : laidOutB Try.prog = true := by kernel_rfl
theorem readable : (Try.f4.params.toList.all fun t => Try.prog.readableRec t && decide (t < Try.prog.types.size)) = true := by kernel_rfl
set_option maxRecDepth 100000 in
theorem contract (H : Type) (enc : TypeId × Value → H) (W : World) (base : Nat) (args : Array Value) (ds gs : List (DataW H)) (before : List MemPlace)
    (hval : ∀ (j : Nat) t v, Try.f4.params[j]? = some t → args[j]? = some v → Value.okWide Try.prog W .any base t v)
    (hW : DataW.Whole enc Try.prog Try.f4.params.toList Rows.poolKeepsSpec.vars false W args.toList ds gs before) :
    Calls Try.prog 4 args W fun e W' => ∃ v, e = .returned v ∧ Rows.poolKeepsSpec.post enc Try.prog Try.f4 false true false false W args v W' := by
  have hW' := hW
  obtain ⟨p, q, hA0, hV, rfl, hfz, hnd⟩ := hW
  have hA : DataW.TrodAll enc Try.prog W 0 (fun _ => true) true Try.f4.params.toList args.toList ds p := hA0
  rw [Try.params4] at hA hval
  obtain ⟨v0, vs0, d0, ds0, p0, q0, hargs0, rfl, rfl, h0, r0⟩ := trodAll_cons hA
  obtain ⟨v1, vs1, d1, ds1, p1, q1, hargs1, rfl, rfl, h1, r1⟩ := trodAll_cons r0
  subst hargs1
  obtain ⟨rfl, rfl, rfl⟩ := trodAll_nil r1
  obtain rfl : args = #[v0, v1] := by cases args; simp_all
  obtain ⟨rfl, rfl⟩ := trodVars_none hV
  obtain ⟨x0, rfl, _, _, hw⟩ := open_int Try.underlying5 (hval 0 _ v0 rfl rfl) h0
  have hb := bounds_u8 hw
  obtain ⟨M, rfl⟩ : ∃ M : Nat, x0 = (M : Int) := ⟨x0.toNat, (Int.toNat_of_nonneg hb.1).symm⟩
  obtain ⟨L, hL, hL2⟩ := open_u16s (hval 1 _ v1 rfl rfl) h1
  refine (law_keeps (by omega) hL hL2).mono fun e W' ⟨he, hb⟩ => ?_
  subst he
  exact ⟨_, rfl, Rw.law_post laidOut readable rfl Try.underlying4 rfl (fun _ => rfl) (fun _ => rfl) (fun _ => rfl) hW' hb⟩
set_option maxRecDepth 100000 in
theorem reads (os : Os) {H : Type} (enc : TypeId × Value → H) : ∃ places, DataW.whole enc Try.prog ((Rw.plainWorld os).forCall (fun _ _ => 0) ⟨#[], #[.int .u8 0, .slice none 0 0], []⟩).memory Try.f4.params.toList Rows.poolKeepsSpec.vars false (#[.int .u8 0, .slice none 0 0] : Array Value).toList 8 = some ([.lit (.int .u8 0), .nil], [], places) :=
  ⟨[], by kernel_rfl⟩
set_option maxRecDepth 100000 in
theorem lifted (os : Os) (started : os.Started) (H : Type) (enc : TypeId × Value → H) (F : Stop.Interp) :
    ReturnsInHanded {} Try.checked os 4 .any ((OpenSpec.ofChange Rows.poolKeepsSpec).preRow enc Try.prog Try.f4 Rows.poolKeepsRow.domain false Rows.poolKeepsRow.laid) (((OpenSpec.ofChange Rows.poolKeepsSpec).at F).post enc Try.prog Try.f4 false true false false) := by
  obtain ⟨places, hx⟩ := reads os enc
  refine returnsInHanded_of_row (C := Try.checked) (s := OpenSpec.ofChange Rows.poolKeepsSpec) Rw.own started (by kernel_rfl) Try.func4
    (witness_row_at (enc := enc) (C := Try.checked) false (Rw.plainWorld os) #[.int .u8 0, .slice none 0 0] rfl (by kernel_rfl) (by kernel_rfl) (by kernel_rfl)
      (OpenSpec.preRow_of_cond 8 hx (by kernel_rfl) (fun k hk => by cases hk) (by kernel_rfl) (Rw.met_nil _))) ?_
  intro W base args ds gs before hval hW _ _ _ _ _ _
  exact contract H enc W base args ds gs before hval hW
theorem said : Rows.PoolKeepsSaid :=
  OpenClaim.holds_of_cond 4 Try.f4 rfl rfl rfl rfl rfl rfl rfl ⟨rfl, rfl, rfl, rfl, rfl⟩ rfl rfl rfl rfl rfl (by kernel_rfl) Try.func4 (by kernel_rfl)
    (of_decide_eq_true (by kernel_rfl)) (by unfold Func.isWrapper; first | (rw [if_pos (by decide +kernel)]; kernel_rfl) | (rw [if_neg (by decide +kernel)]; exact ⟨rfl, rfl⟩))
    (fun os started H enc _ F => by rw [OpenClaim.pre_eq_preRow]; exact lifted os started H enc F)
#print axioms said
end Go.Proofs.Ytkdckcjnjljdmaa.lwKeeps
