/- The store in memory: a map of maps of bytes; what keeps it; maps keyed by bytes. -/
import Derived.Test.YteeghdkejnhjnaaKvP
import Derived.Test.YteeghdkejnhjnaaBoE
import Derived.Test.YteeghdkejnhjnaaClB
namespace Go.Proofs.Yteeghdkejnhjnaa.Kv
open Go Go.RowKit Kt Ad Bo

/-! ### maps keyed by bytes -/
abbrev Kb := {b : Bs // b.length ≤ maxLen}
def sv (b : Bs) : Value := .string (bst b)
def sk (k : Kb) : Value := sv k.1
theorem bst_inj {a b : Bs} (h : bst a = bst b) : a = b := by
  unfold bst at h
  injection h with h
  exact congrArg Array.toList h
theorem encKb : KeyEnc Try.prog 9 sk :=
  ⟨Maps.string_keyed Try.underlying9, fun k => ⟨.string k.1, by
    have h := k.2
    have hs : (bst k.1).size = k.1.length := rfl
    simp only [keyOf, mapKey, Try.underlying9, sk, sv, hs, h, if_true]
    rfl⟩, fun {a b} h => Subtype.ext (bst_inj (by unfold sk sv at h; injection h))⟩
def vp (c : Kb × Value) : Bs × Value := (c.1.1, c.2)
theorem get_vp (L : List (Kb × Value)) (k : Kb) : get (L.map vp) k.1 = valAt L k := by
  unfold get valAt
  rw [List.find?_map, Option.map_map]
  have e : ((fun p : Bs × Value => decide (p.1 = k.1)) ∘ vp) = fun p : Kb × Value => decide (p.1 = k) := by
    funext p
    exact decide_eq_decide.2 Subtype.ext_iff.symm
  rw [e]
  rfl
theorem cut_vp (L : List (Kb × Value)) (k : Kb) : cut (L.map vp) k.1 = (strike L k).map vp := by
  unfold cut strike
  rw [List.filter_map]
  have e : ((fun p : Bs × Value => decide (p.1 ≠ k.1)) ∘ vp) = fun p : Kb × Value => decide (p.1 ≠ k) := by
    funext p
    exact decide_eq_decide.2 (not_congr Subtype.ext_iff.symm)
  rw [e]
theorem put_vp (L : List (Kb × Value)) (k : Kb) (v : Value) : put (L.map vp) k.1 v = (putAt L k v).map vp := by
  unfold put putAt
  rw [cut_vp]
  rfl
/-- Block m is a map of these. -/
def KMap (W : World) (m : Nat) (L : List (Bs × Value)) : Prop := ∃ L' : List (Kb × Value), L = L'.map vp ∧ IsMap sk W m L'
section
variable {W W' : World} {m : Nat} {L : List (Bs × Value)}
theorem KMap.of_block (h : KMap W m L) (he : W'.heap[m]? = W.heap[m]?) : KMap W' m L := by
  obtain ⟨L', rfl, h⟩ := h
  exact ⟨L', rfl, h.of_block he⟩
theorem KMap.lt (h : KMap W m L) : m < W.heap.size := by obtain ⟨L', rfl, h⟩ := h; exact h.lt
theorem KMap.one (h : KMap W m L) : One L := by
  obtain ⟨L', rfl, h⟩ := h
  have := h.nodup
  unfold One
  rw [List.map_map, show ((fun p : Bs × Value => p.1) ∘ vp) = (fun c : Kb => c.1) ∘ (fun c : Kb × Value => c.1) from rfl, ← List.map_map]
  exact List.pairwise_map.2 (this.imp fun hne e => hne (Subtype.ext e))
theorem KMap.short (h : KMap W m L) : ∀ c ∈ L, c.1.length ≤ maxLen := by
  obtain ⟨L', rfl, h⟩ := h
  intro c hc
  obtain ⟨d, _, rfl⟩ := List.mem_map.1 hc
  exact d.1.2
theorem KMap.block (h : KMap W m L) : ∃ es c, W.heap[m]? = some (.map es c) := by
  obtain ⟨L', rfl, h⟩ := h
  obtain ⟨es, c, h1, _⟩ := h.block
  exact ⟨es, c, h1⟩
theorem KMap.not_lies (h : KMap W m L) {t : TypeId} {cs : Array Value} : ¬ Lies W m t cs := fun hl => by
  obtain ⟨es, c, h1⟩ := h.block
  have := (show W.heap[m]? = _ from hl).symm.trans h1
  cases this
theorem IsMap.not_lies {α : Type} {ek : α → Value} {L : List (α × Value)} (h : IsMap ek W m L) {t : TypeId} {cs : Array Value} : ¬ Lies W m t cs := fun hl => by
  obtain ⟨es, c, h1, _⟩ := h.block
  have := (show W.heap[m]? = _ from hl).symm.trans h1
  cases this
theorem KMap.fr {n : Nat → Prop} (h : KMap W m L) (hf : Fr W W' n) (hn : ¬ n m) : KMap W' m L := h.of_block (hf.block m h.lt hn)
theorem KMap.look (h : KMap W m L) (c : Bool) (k : Bs) (hk : k.length ≤ maxLen) :
    (Instr.lookup 106 (.map (some m)) (sv k) c).run Try.prog W = .ok (lookVal c (.slice none 0 0) (get L k)) W := by
  obtain ⟨L', rfl, h⟩ := h
  have := h.look encKb Try.underlying106 c (zeroBytes W) ⟨k, hk⟩
  rw [← get_vp] at this
  exact this
theorem KMap.perm (h : KMap W m L) {L2 : List (Bs × Value)} (hp : L.Perm L2) : KMap W m L2 := by
  obtain ⟨L', rfl, h⟩ := h
  have hs : ∀ c ∈ L2, c.1.length ≤ maxLen := fun c hc => by
    obtain ⟨d, _, rfl⟩ := List.mem_map.1 (hp.mem_iff.2 hc)
    exact d.1.2
  refine ⟨L2.pmap (fun c hc => (⟨c.1, hc⟩, c.2)) hs, ?_, ?_⟩
  · rw [List.map_pmap]
    exact (List.ext_getElem (by simp) (fun i h1 h2 => by simp [vp]))
  · have hq : ((L'.map vp).pmap (fun (c : Bs × Value) hc => ((⟨c.1, hc⟩, c.2) : Kb × Value)) (fun c hc => by
      obtain ⟨d, _, rfl⟩ := List.mem_map.1 hc
      exact d.1.2)) = L' := by
      refine List.ext_getElem (by simp) (fun i h1 h2 => ?_)
      simp [vp]
    refine h.perm ?_
    rw [← hq]
    exact hp.pmap _
theorem KMap.store (h : KMap W m L) (k : Bs) (hk : k.length ≤ maxLen) (v : Value) :
    ∃ W', (Instr.mapUpdate 106 (.map (some m)) (sv k) v).run Try.prog W = .ok () W' ∧ KMap W' m (put L k v) ∧ Fr W W' (fun i => i = m) ∧ W'.heap.size = W.heap.size := by
  obtain ⟨L', rfl, h⟩ := h
  obtain ⟨W', hr, h1, h2, h3⟩ := h.store encKb Try.underlying106 ⟨k, hk⟩ v
  exact ⟨W', hr, ⟨_, put_vp L' ⟨k, hk⟩ v, h1⟩, (Fr.of_grown h2).mono (fun i _ e => by injection e), h3⟩
theorem KMap.del (h : KMap W m L) (k : Bs) (hk : k.length ≤ maxLen) (ty : TypeId) :
    ∃ W', (Builtin.delete_ #[106, 9] ty #[.map (some m), sv k]).run Try.prog W = .ok (.tuple #[]) W' ∧ KMap W' m (cut L k) ∧ Fr W W' (fun i => i = m) ∧ W'.heap.size = W.heap.size := by
  obtain ⟨L', rfl, h⟩ := h
  obtain ⟨W', hr, h1, h2, h3⟩ := h.del encKb Try.underlying106 ⟨k, hk⟩ ty
  exact ⟨W', hr, ⟨_, cut_vp L' ⟨k, hk⟩, h1⟩, (Fr.of_grown h2).mono (fun i _ e => by injection e), h3⟩
theorem KMap.len (h : KMap W m L) (ty : TypeId) : (Builtin.len_ #[106] ty #[.map (some m)]).run Try.prog W = .ok (.int .i64 L.length) W := by
  obtain ⟨L', rfl, h⟩ := h
  rw [List.length_map]
  exact h.len Try.underlying106 ty
theorem nil_look (W : World) (c : Bool) (k : Bs) (hk : k.length ≤ maxLen) :
    (Instr.lookup 106 (.map none) (sv k) c).run Try.prog W = .ok (lookVal c (.slice none 0 0) none) W :=
  look_nil encKb Try.underlying106 c (zeroBytes W) ⟨k, hk⟩
theorem KMap.new (W : World) : KMap (W.alloc (.map #[] 0)) W.heap.size [] := ⟨[], rfl, IsMap.new W sk⟩
end

/-- Bytes are not in a map's block. -/
theorem Byt.off_map {W W' : World} {v : Value} {b : Bs} (h : Byt W v b) {m : Nat} (hf : Fr W W' (fun i => i = m)) (hm : ∃ es c, W.heap[m]? = some (.map es c)) : Byt W' v b := by
  obtain ⟨s, cap, rfl, h⟩ := h
  obtain ⟨es, c, hm⟩ := hm
  refine ⟨s, cap, rfl, fun hne => ?_⟩
  obtain ⟨g, off, rfl, h1, h2⟩ := h hne
  have hgm : g ≠ m := fun e => by
    obtain ⟨x, hx⟩ : ∃ x, b[0]? = some x := ⟨_, List.getElem?_eq_getElem (List.length_pos_iff.2 hne)⟩
    have := h2 0 x hx
    simp [World.cell?, e, hm] at this
  refine ⟨g, off, rfl, Nat.lt_of_lt_of_le h1 hf.size, fun j u hj => ?_⟩
  rw [← h2 j u hj]
  have := hf.block g h1 hgm
  simp only [World.cell?, this]

/-! ### the store -/
abbrev Vs := List (Bs × (Value × Bs))
abbrev Os := List (A8 × (Nat × Vs))
def okv (p : A8 × (Nat × Vs)) : A8 × Value := (p.1, .map (some p.2.1))
def ikv (c : Bs × (Value × Bs)) : Bs × Value := (c.1, c.2.1)
/-- THE STORE: the struct in block bl, its map in block bo, an address's map in a block of its own; all blocks are such as `own` speaks of. -/
structure Kv (W : World) (own : Nat → Prop) (bl bo : Nat) (O : Os) : Prop where
  cell : Lies W bl 105 #[.map (some bo)]
  map : IsMap A8.v W bo (O.map okv)
  vals : ∀ p ∈ O, KMap W p.2.1 (p.2.2.map ikv)
  bts : ∀ p ∈ O, ∀ c ∈ p.2.2, Bts W own c.2.1 c.2.2
  own' : ∀ p ∈ O, own p.2.1 ∧ p.2.1 ≠ bo
  apart : (O.map fun p => p.2.1).Nodup
  obl : own bl
  obo : own bo
/-- No address without any. -/
def Full (O : Os) : Prop := ∀ p ∈ O, p.2.2 ≠ []
def look (O : Os) : St := fun a k => (get O a).bind fun p => (get p.2 k).map (·.2)
section
variable {W W' : World} {own own2 m : Nat → Prop} {bl bo : Nat} {O : Os}
theorem Kv.kept (h : Kv W own bl bo O) (hf : Fr W W' m) (hn : ∀ k, own k → ¬ m k) : Kv W' own bl bo O :=
  ⟨lies_fr h.cell hf (hn _ h.obl), map_fr h.map hf (hn _ h.obo), fun p hp => (h.vals p hp).fr hf (hn _ (h.own' p hp).1), fun p hp c hc => (h.bts p hp c hc).kept hf hn, h.own', h.apart, h.obl, h.obo⟩
theorem Kv.later (h : Kv W own bl bo O) (hb : Below W.heap.size W W') : Kv W' own bl bo O := h.kept (m := fun _ => False) (Fr.of_below hb _) (fun _ _ h => h)
theorem Kv.drew (h : Kv W own bl bo O) : Kv W.drew own bl bo O := h.later (Below.refl _ _).drew
theorem Kv.alloc (h : Kv W own bl bo O) (o : Obj) : Kv (W.alloc o) own bl bo O := h.later ((Below.refl _ _).alloc (Nat.le_refl _) o)
theorem Kv.mono (h : Kv W own bl bo O) (ho : ∀ k, k < W.heap.size → own k → own2 k) : Kv W own2 bl bo O :=
  ⟨h.cell, h.map, h.vals, fun p hp c hc => (h.bts p hp c hc).mono ho, fun p hp => ⟨ho _ (h.vals p hp).lt (h.own' p hp).1, (h.own' p hp).2⟩, h.apart, ho _ h.cell.lt h.obl, ho _ h.map.lt h.obo⟩
theorem Kv.one (h : Kv W own bl bo O) : One O := by
  have := h.map.nodup
  rw [List.map_map] at this
  exact this
theorem Kv.ones (h : Kv W own bl bo O) {p : A8 × (Nat × Vs)} (hp : p ∈ O) : One p.2.2 := by
  have := (h.vals p hp).one
  unfold One at this ⊢
  rw [List.map_map] at this
  exact this
theorem Kv.ne_bl (h : Kv W own bl bo O) {p : A8 × (Nat × Vs)} (hp : p ∈ O) : p.2.1 ≠ bl := fun e => (h.vals p hp).not_lies (e ▸ h.cell)
theorem Kv.ne (h : Kv W own bl bo O) : bl ≠ bo := fun e => IsMap.not_lies h.map (e ▸ h.cell)
theorem get_okv (O : Os) (a : A8) : valAt (O.map okv) a = (get O a).map fun p => Value.map (some p.1) := by
  unfold valAt get
  rw [List.find?_map, Option.map_map, Option.map_map]
  rfl
theorem get_ikv (K : Vs) (k : Bs) : get (K.map ikv) k = (get K k).map (·.1) := by
  unfold get
  rw [List.find?_map, Option.map_map, Option.map_map]
  rfl
theorem strike_okv (O : Os) (a : A8) : strike (O.map okv) a = (cut O a).map okv := by
  unfold strike cut
  rw [List.filter_map]
  rfl
theorem cut_ikv (K : Vs) (k : Bs) : cut (K.map ikv) k = (cut K k).map ikv := by
  unfold cut
  rw [List.filter_map]
  rfl
theorem put_ikv (K : Vs) (k : Bs) (v : Value) (b : Bs) : put (K.map ikv) k v = (put K k (v, b)).map ikv := by
  unfold put
  rw [cut_ikv]
  rfl
theorem zeroMap (w : World) : (zeroValue 106).run Try.prog w = .ok (.map none) w := by kernel_rfl
/-- What an address has: a map or none. -/
def mapOf (O : Os) (a : A8) : Value := match get O a with | some p => .map (some p.1) | none => .map none
theorem look_okv (h : Kt.IsMap A8.v W bo (O.map okv)) (a : A8) : (Instr.lookup 103 (.map (some bo)) a.v false).run Try.prog W = .ok (mapOf O a) W := by
  have := h.look encAddr Try.underlying103 false (zeroMap W) a
  rw [get_okv] at this
  rw [this]
  unfold mapOf
  cases get O a <;> rfl
theorem Kv.lookA (h : Kv W own bl bo O) (a : A8) : (Instr.lookup 103 (.map (some bo)) a.v false).run Try.prog W = .ok (mapOf O a) W := look_okv h.map a
/-- .. and what a key has within it. -/
theorem Kv.lookK (h : Kv W own bl bo O) (a : A8) (k : Bs) (hk : k.length ≤ maxLen) (c : Bool) : (Instr.lookup 106 (mapOf O a) (sv k) c).run Try.prog W = .ok (lookVal c (.slice none 0 0) ((get O a).bind fun p => (get p.2 k).map (·.1))) W := by
  unfold mapOf
  cases e : get O a with
  | none => exact nil_look W c k hk
  | some p =>
    have := (h.vals _ (get_mem e)).look c k hk
    rw [get_ikv] at this
    exact this
end
section
variable {W W' : World} {own own2 : Nat → Prop} {bl bo : Nat} {O : Os}
theorem Kv.far (h : Kv W own bl bo O) {a : A8} {m : Nat} {K : Vs} (e : get O a = some (m, K)) : (O.map fun p => p.2.1).Perm (m :: (cut O a).map fun p => p.2.1) :=
  (perm_put h.one (get_mem e)).map _
/-- What an address has is another list now. -/
theorem Kv.setK (h : Kv W own bl bo O) {a : A8} {m : Nat} {K K' : Vs} (e : get O a = some (m, K)) (hf : Fr W W' (fun i => i = m)) (hm : KMap W' m (K'.map ikv)) (hb : ∀ c ∈ K', Bts W own c.2.1 c.2.2) : Kv W' own bl bo (put O a (m, K')) := by
  have hp := get_mem e
  have hno := (h.far e).nodup_iff.1 h.apart
  have hmap : Kt.IsMap A8.v W bo ((put O a (m, K')).map okv) := h.map.perm ((perm_put h.one hp).map okv)
  have hmo := h.own' _ hp
  have hty : ∀ k, k = m → ∀ cur, ¬ Lies W k 5 cur := fun k e cur hl => (h.vals _ hp).not_lies (e ▸ hl)
  refine ⟨lies_fr h.cell hf (fun e' => h.ne_bl hp e'.symm), map_fr hmap hf (fun e' => hmo.2 e'.symm), fun p hp' => ?_, fun p hp' c hc => ?_, fun p hp' => ?_, hno, h.obl, h.obo⟩
  · rcases List.mem_cons.1 hp' with rfl | hp'
    · exact hm
    · exact (h.vals p (mem_cut.1 hp').1).fr hf (fun e' => (List.nodup_cons.1 hno).1 (List.mem_map.2 ⟨p, hp', e'⟩))
  · rcases List.mem_cons.1 hp' with rfl | hp'
    · exact (hb c hc).kept_ty hf hty
    · exact (h.bts p (mem_cut.1 hp').1 c hc).kept_ty hf hty
  · rcases List.mem_cons.1 hp' with rfl | hp'
    · exact hmo
    · exact h.own' p (mem_cut.1 hp').1
/-- An address has nothing any more. -/
theorem Kv.cutA (h : Kv W own bl bo O) (a : A8) (hf : Fr W W' (fun i => i = bo)) (hm : Kt.IsMap A8.v W' bo (strike (O.map okv) a)) : Kv W' own bl bo (cut O a) := by
  rw [strike_okv] at hm
  have hty : ∀ k, k = bo → ∀ cur, ¬ Lies W k 5 cur := fun k e cur hl => IsMap.not_lies h.map (e ▸ hl)
  exact ⟨lies_fr h.cell hf h.ne, hm, fun p hp => (h.vals p (mem_cut.1 hp).1).fr hf (h.own' p (mem_cut.1 hp).1).2, fun p hp c hc => (h.bts p (mem_cut.1 hp).1 c hc).kept_ty hf hty, fun p hp => h.own' p (mem_cut.1 hp).1, (List.Sublist.map _ List.filter_sublist).nodup h.apart, h.obl, h.obo⟩
/-- An address has an empty map. -/
theorem Kv.addA (h : Kv W own bl bo O) {a : A8} (e : get O a = none) {m : Nat} (hK : KMap W m []) (hom : own m) (hne : m ≠ bo) (hnm : ∀ p ∈ O, p.2.1 ≠ m) (hf : Fr W W' (fun i => i = bo)) (hm : Kt.IsMap A8.v W' bo (putAt (O.map okv) a (.map (some m)))) : Kv W' own bl bo (put O a (m, [])) := by
  have hm' : Kt.IsMap A8.v W' bo ((put O a (m, [])).map okv) := by
    unfold putAt at hm
    rw [strike_okv] at hm
    exact hm
  have hty : ∀ k, k = bo → ∀ cur, ¬ Lies W k 5 cur := fun k e cur hl => IsMap.not_lies h.map (e ▸ hl)
  refine ⟨lies_fr h.cell hf h.ne, hm', fun p hp => ?_, fun p hp c hc => ?_, fun p hp => ?_, ?_, h.obl, h.obo⟩
  · rcases List.mem_cons.1 hp with rfl | hp
    · exact hK.fr hf hne
    · exact (h.vals p (mem_cut.1 hp).1).fr hf (h.own' p (mem_cut.1 hp).1).2
  · rcases List.mem_cons.1 hp with rfl | hp
    · cases hc
    · exact (h.bts p (mem_cut.1 hp).1 c hc).kept_ty hf hty
  · rcases List.mem_cons.1 hp with rfl | hp
    · exact ⟨hom, hne⟩
    · exact h.own' p (mem_cut.1 hp).1
  · unfold put
    rw [cut_none e, List.map_cons, List.nodup_cons]
    exact ⟨fun hx => by obtain ⟨p, hp, e'⟩ := List.mem_map.1 hx; exact hnm p hp e', h.apart⟩
end
theorem look_put {O : Os} (a : A8) (m : Nat) (K : Vs) (k : Bs) (v : Value) (b : Bs) (hK : ∀ k', (get K k').map (·.2) = look O a k') : look (put O a (m, put K k (v, b))) = (look O).put a k (some b) := by
  funext a' k'
  unfold look St.put
  rw [get_put]
  by_cases ha : a' = a
  · subst ha
    simp only [if_true, Option.bind_some, true_and]
    rw [get_put]
    by_cases hk : k' = k
    · simp [hk]
    · rw [if_neg hk, if_neg hk]
      exact hK k'
  · rw [if_neg ha, if_neg (fun e => ha e.1)]
theorem look_cut {O : Os} (a : A8) (m : Nat) (K : Vs) (k : Bs) (hK : ∀ k', (get K k').map (·.2) = look O a k') : look (put O a (m, cut K k)) = (look O).put a k none := by
  funext a' k'
  unfold look St.put
  rw [get_put]
  by_cases ha : a' = a
  · subst ha
    simp only [if_true, Option.bind_some, true_and]
    rw [get_cut]
    by_cases hk : k' = k
    · simp [hk]
    · rw [if_neg hk, if_neg hk]
      exact hK k'
  · rw [if_neg ha, if_neg (fun e => ha e.1)]
theorem look_cutA {O : Os} (a : A8) (k : Bs) (hK : ∀ k', k' ≠ k → look O a k' = none) : look (cut O a) = (look O).put a k none := by
  funext a' k'
  unfold look St.put
  rw [get_cut]
  by_cases ha : a' = a
  · subst ha
    simp only [if_true, Option.bind_none, true_and]
    by_cases hk : k' = k
    · simp [hk]
    · rw [if_neg hk]
      exact (hK k' hk).symm
  · rw [if_neg ha, if_neg (fun e => ha e.1)]
end Go.Proofs.Yteeghdkejnhjnaa.Kv
