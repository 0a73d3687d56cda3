/- Maps with strings as keys, as functions. -/
import Derived.Maps.OwnSet
import Derived.Sort.KeysCollected
import Derived.StringKeys
set_option linter.unusedVariables false
set_option linter.unusedSimpArgs false
set_option linter.unusedSectionVars false
set_option linter.deprecated false
set_option linter.unnecessarySimpa false
namespace Go.Proofs.YtmdimhcjogjcgaaGreatDoor.Mp
open Go.Maps Go.RowKit Go.ChangeMaps Go.WideElems Go.WideMaps
set_option linter.unusedVariables false
abbrev Ks := List UInt8
/-- A value as it stands. -/
def rawR (v : Value) : Option (DataW Value × List MemPlace) := some (.held v, [])
def viewD (D : DataW Value) (s : Ks) : Option Value := if has D (.string s) = true then (match D.atKey (.string s) .nil with | .held v => some v | _ => none) else none
def upd {α : Type} (f : Ks → Option α) (s : Ks) (o : Option α) : Ks → Option α := fun x => if x = s then o else f x
theorem upd_same {α : Type} (f : Ks → Option α) (s : Ks) (o : Option α) : upd f s o s = o := by simp [upd]
theorem upd_ne {α : Type} (f : Ks → Option α) {s x : Ks} (o : Option α) (h : x ≠ s) : upd f s o x = f x := by simp [upd, h]
theorem at_default {D : DataW Value} {k : Lit} (h : has D k = true) (z z' : DataW Value) : D.atKey k z = D.atKey k z' := by
  cases D <;> first | (simp [has] at h; done) | skip
  rename_i es
  simp only [has] at h
  simp only [DataW.atKey]
  cases hf : es.find? (fun p => p.1.sameKey k) with
  | some p => rfl
  | none =>
    rw [List.find?_eq_none] at hf
    rw [List.any_eq_true] at h
    obtain ⟨p, hp, hk⟩ := h
    exact absurd hk (hf p hp)
/-- Block b is a map of at most n entries, which is f. -/
def MapF (P : Program) (k : TypeId) (w : World) (b n : Nat) (f : Ks → Option Value) : Prop := ∃ D, w.ownsMap P k rawR b n D ∧ f = viewD D
section
variable {P : Program} {k e t : TypeId} {w : World} {b n : Nat} {f : Ks → Option Value}
theorem MapF.lt (h : MapF P k w b n f) : b < w.heap.size := by obtain ⟨D, h, _⟩ := h; exact h.lt
theorem MapF.blk (h : MapF P k w b n f) : ∃ es clock, w.heap[b]? = some (.map es clock) := by obtain ⟨D, ⟨es, clock, h, _⟩, _⟩ := h; exact ⟨es, clock, h⟩
theorem MapF.mono (h : MapF P k w b n f) {m : Nat} (hm : n ≤ m) : MapF P k w b m f := by obtain ⟨D, h, hf⟩ := h; exact ⟨D, h.mono hm, hf⟩
theorem MapF.keptB {w' : World} (h : MapF P k w b n f) (he : w'.heap[b]? = w.heap[b]?) : MapF P k w' b n f := by
  obtain ⟨D, ⟨es, clock, h1, h2, h3, h4⟩, hf⟩ := h
  exact ⟨D, ⟨es, clock, he.trans h1, h2, h3, h4⟩, hf⟩
theorem MapF.made (P : Program) (k : TypeId) (w : World) : MapF P k (w.alloc (.map #[] 0)) w.heap.size 0 fun _ => none := ⟨.map [], World.ownsMap_made w P k rawR, by funext s; simp [viewD, has]⟩
variable (hk : P.underlying k = some .string) (ht : P.underlying t = some (.map k e))
include hk ht
theorem MapF.look (h : MapF P k w b n f) {z : Value} (hz : (zeroValue e).run P w = .ok z w) (s : ByteArray) (hs : s.size ≤ maxLen) :
    (Instr.lookup t (.map (some b)) (.string s) true).run P w = .ok (.tuple #[(f s.data.toList).getD z, .bool (f s.data.toList).isSome]) w := by
  obtain ⟨D, h, rfl⟩ := h
  obtain ⟨v, ps, hrun, hR⟩ := h.look_ok (string_keyed hk) ht hz (zd := .held z) (zp := []) rfl (keyOf_string_mk hk hs)
  rw [hrun]
  simp only [rawR, Option.some.injEq, Prod.mk.injEq] at hR
  unfold viewD
  cases hh : has D (.string s.data.toList) with
  | false =>
    have h1 := hR.1
    rw [atKey_of_not_has hh] at h1
    cases h1
    simp
  | true =>
    have h1 := hR.1
    rw [at_default hh (.held z) .nil] at h1
    simp [← h1]
theorem MapF.look0 (h : MapF P k w b n f) {z : Value} (hz : (zeroValue e).run P w = .ok z w) (s : ByteArray) (hs : s.size ≤ maxLen) :
    (Instr.lookup t (.map (some b)) (.string s) false).run P w = .ok ((f s.data.toList).getD z) w := by
  obtain ⟨D, h, rfl⟩ := h
  obtain ⟨v, ps, hrun, hR⟩ := h.lookup (string_keyed hk) ht hz (zd := .held z) (zp := []) rfl (keyOf_string_mk hk hs)
  rw [hrun]
  simp only [rawR, Option.some.injEq, Prod.mk.injEq] at hR
  unfold viewD
  cases hh : has D (.string s.data.toList) with
  | false =>
    have h1 := hR.1
    rw [atKey_of_not_has hh] at h1
    cases h1
    simp
  | true =>
    have h1 := hR.1
    rw [at_default hh (.held z) .nil] at h1
    simp [← h1]
omit hk ht in
theorem view_put {D : DataW Value} (hD : IsMap D) (s : Ks) (v : Value) : viewD (D.put (.string s) (.held v)) = upd (viewD D) s (some v) := by
  funext x
  unfold viewD upd
  by_cases hx : x = s
  · subst hx
    rw [if_pos rfl, has_put_same hD (by simp [WideAt.IsKeyLit]) _, atKey_put_same hD (by simp [WideAt.IsKeyLit])]
    simp
  · have hne : Lit.string x ≠ Lit.string s := fun c => hx (by cases c; rfl)
    rw [if_neg hx, has_put_other hne, atKey_put_other hne]
omit hk ht in
theorem view_del {D : DataW Value} (s : Ks) : viewD (D.del (.string s)) = upd (viewD D) s none := by
  funext x
  unfold viewD upd
  by_cases hx : x = s
  · subst hx
    rw [if_pos rfl, has_del_same]
    simp
  · have hne : Lit.string x ≠ Lit.string s := fun c => hx (by cases c; rfl)
    rw [if_neg hx, has_del_other hne, atKey_del_other hne]
theorem MapF.store (h : MapF P k w b n f) (hn : n < maxLen) (s : ByteArray) (hs : s.size ≤ maxLen) (v : Value) :
    ∃ w', (Instr.mapUpdate t (.map (some b)) (.string s) v).run P w = .ok () w' ∧ MapF P k w' b (n + 1) (upd f s.data.toList (some v)) ∧ w.mapTurned w' b := by
  obtain ⟨D, h, rfl⟩ := h
  obtain ⟨w', h1, h2, h3⟩ := h.store (string_keyed hk) ht hn (keyOf_string_mk hk hs) (d := .held v) (ps := []) (val := v) rfl
  exact ⟨w', h1, ⟨_, h2, (view_put h.isMap _ _).symm⟩, h3⟩
theorem MapF.drop (h : MapF P k w b n f) (s : ByteArray) (hs : s.size ≤ maxLen) (ty : TypeId) :
    ∃ w', (Builtin.delete_ #[t, k] ty #[.map (some b), .string s]).run P w = .ok (.tuple #[]) w' ∧ MapF P k w' b n (upd f s.data.toList none) ∧ w.mapTurned w' b := by
  obtain ⟨D, h, rfl⟩ := h
  obtain ⟨w', h1, h2, h3⟩ := h.drop (string_keyed hk) ht (keyOf_string_mk hk hs) ty
  exact ⟨w', h1, ⟨_, h2, (view_del _).symm⟩, h3⟩
omit ht in
theorem mem_keys {D : DataW Value} (h : w.ownsMap P k rawR b n D) (s : Ks) : s ∈ strKeys D ↔ viewD D s ≠ none := by
  obtain ⟨es, clock, hb, F, hs, rfl⟩ := h
  have hkeys : ∀ p ∈ (es.toList.map (rg P k rawR)).foldr DataW.insert [], (∃ x, p.1 = .string x) ∧ ∃ v, p.2 = .held v := by
    intro p hp
    have hm : p ∈ es.toList.map (rg P k rawR) := mem_sorted.1 hp
    obtain ⟨x, hx, rfl⟩ := List.mem_map.1 hm
    obtain ⟨y, hy⟩ := F.reads x hx
    have h1 := WideElems.rd_key hy
    obtain ⟨z, h2, h3⟩ := WideElems.rd_val hy
    rw [WideElems.rg_of hy]
    obtain ⟨q, _, hq, _⟩ := Maps.keyOf_str hk h1
    refine ⟨⟨q, hq⟩, ?_⟩
    simp only [rawR, Option.some.injEq] at h2
    rw [h3, ← h2]
    exact ⟨_, rfl⟩
  generalize (es.toList.map (rg P k rawR)).foldr DataW.insert [] = l at *
  unfold viewD
  have hat : ∀ s, has (.map l) (.string s) = true → ∃ v, (DataW.map l).atKey (.string s) .nil = .held v := by
    intro s hh
    simp only [has, List.any_eq_true] at hh
    simp only [DataW.atKey]
    cases hf : l.find? (fun p => p.1.sameKey (.string s)) with
    | none =>
      rw [List.find?_eq_none] at hf
      obtain ⟨p, hp, hq⟩ := hh
      exact absurd hq (hf p hp)
    | some p => exact (hkeys p (List.mem_of_find?_eq_some hf)).2
  have hmem : s ∈ strKeys (.map l) ↔ has (.map l) (.string s) = true := by
    simp only [has, List.any_eq_true]
    unfold strKeys
    simp only [List.mem_map]
    constructor
    · rintro ⟨p, hp, hs⟩
      obtain ⟨⟨x, hx⟩, _⟩ := hkeys p hp
      refine ⟨p, hp, ?_⟩
      rw [hx] at hs ⊢
      simp only [strOf] at hs
      subst hs
      simp [Lit.sameKey]
    · rintro ⟨p, hp, hs⟩
      obtain ⟨⟨x, hx⟩, _⟩ := hkeys p hp
      refine ⟨p, hp, ?_⟩
      rw [hx] at hs ⊢
      simp [Lit.sameKey] at hs
      subst hs
      rfl
  rw [hmem]
  cases hh : has (.map l) (.string s) with
  | false => simp
  | true =>
    obtain ⟨v, hv⟩ := hat s hh
    simp [hv]
omit ht in
theorem nodup_keys {D : DataW Value} (h : w.ownsMap P k rawR b n D) : (strKeys D).Nodup := by
  obtain ⟨es, rfl, hp⟩ := h.tidy (string_keyed hk)
  obtain ⟨es', he, hko⟩ := h.keysOf
  cases he
  unfold strKeys
  rw [List.Nodup, List.pairwise_map]
  refine List.Pairwise.imp_of_mem (fun {p q} hp hq h e => h ?_) hp
  obtain ⟨v1, h1⟩ := hko p hp
  obtain ⟨v2, h2⟩ := hko q hq
  obtain ⟨x, _, hx, _⟩ := Maps.keyOf_str hk h1
  obtain ⟨y, _, hy, _⟩ := Maps.keyOf_str hk h2
  rw [hx, hy] at e ⊢
  simp only [strOf] at e
  rw [e]
omit ht in
theorem len_keys {D : DataW Value} (h : w.ownsMap P k rawR b n D) : (strKeys D).length ≤ n := by
  obtain ⟨es, rfl, _⟩ := h.tidy (string_keyed hk)
  have := h.size_le
  simpa [strKeys, Maps.size] using this
end
end Go.Proofs.YtmdimhcjogjcgaaGreatDoor.Mp
