/- Maps with strings as keys, as functions. -/
import Derived.Maps.OwnSet
import Derived.Sort.KeysCollected
import Derived.StringKeys
import Derived.Test.YtmdimhcjogjcgaaGreatDoorGac
import Derived.Shelf.Spec.SearchS
import Derived.Ground.Names2Prog
import Derived.Shelf.Slices.Clone
import Derived.Shelf.Spec.SlicesInsert
import Derived.Shelf.Spec.SlicesInsertGrow
import Derived.Shelf.SlIter.Nil
import Derived.Shelf.SortM.Plain
import Derived.Shelf.SortM.SortNone
import Derived.Ground.GgzProg
import Derived.Ground.SlgmProg
import Derived.Ground.Names8Prog
import Derived.Shelf.Spec.SlicesGrow
import Derived.Ground.NamesProg
import Derived.Shelf.Small.Bits
import Derived.Test.YtmdimhcjogjcgaaGreatDoorProg
import Derived.Test.YtmdimhcjogjcgaaGreatDoorGah
import Derived.RegionTactic
import Derived.Deep.RegionHeld3
import Derived.Deep.MidRow
import Derived.Maps.OwnOps
import Derived.Lib.Hide
set_option linter.all false
set_option maxRecDepth 100000
set_option maxHeartbeats 4000000
noncomputable section
namespace Go.Proofs.YtmdimhcjogjcgaaGreatDoor.Mp
open Go.Maps Go.RowKit Go.ChangeMaps Go.WideElems Go.WideMaps
abbrev Ks := List UInt8
def zr (v : Value) : Option (DataW Value × List MemPlace) := some (.held v, [])
def xn (D : DataW Value) (s : Ks) : Option Value := if has D (.string s) = true then (match D.atKey (.string s) .nil with | .held v => some v | _ => none) else none
def upd {α : Type} (f : Ks → Option α) (s : Ks) (o : Option α) : Ks → Option α := fun x => if x = s then o else f x
theorem oc {α : Type} (f : Ks → Option α) (s : Ks) (o : Option α) : upd f s o s = o := by simp [upd]
theorem vu {α : Type} (f : Ks → Option α) {s x : Ks} (o : Option α) (h : x ≠ s) : upd f s o x = f x := by simp [upd, h]
theorem amj {D : DataW Value} {k : Lit} (h : has D k = true) (z z' : DataW Value) : D.atKey k z = D.atKey k z' := by
 cases D <;> first | (simp [has] at h; done) | skip
 rename_i es
 simp only [has] at h
 simp only [DataW.atKey]
 cases hf : es.find? (fun p => p.1.sameKey k) with
 | some p => rfl
 | none =>
  rw [List.find?_eq_none] at hf
  rw [List.any_eq_true] at h
  obtain ⟨p, hp, hk⟩ := h
  exact absurd hk (hf p hp)
def jl (P : Program) (k : TypeId) (w : World) (b n : Nat) (f : Ks → Option Value) : Prop := ∃ D, w.ownsMap P k zr b n D ∧ f = xn D
section
variable {P : Program} {k e t : TypeId} {w : World} {b n : Nat} {f : Ks → Option Value}
theorem jl.lt (h : jl P k w b n f) : b < w.heap.size := by obtain ⟨D, h, _⟩ := h; exact h.lt
theorem jl.blk (h : jl P k w b n f) : ∃ es clock, w.heap[b]? = some (.map es clock) := by obtain ⟨D, ⟨es, clock, h, _⟩, _⟩ := h; exact ⟨es, clock, h⟩
theorem jl.mono (h : jl P k w b n f) {m : Nat} (hm : n ≤ m) : jl P k w b m f := by obtain ⟨D, h, hf⟩ := h; exact ⟨D, h.mono hm, hf⟩
theorem jl.aao {w' : World} (h : jl P k w b n f) (he : w'.heap[b]? = w.heap[b]?) : jl P k w' b n f := by
 obtain ⟨D, ⟨es, clock, h1, h2, h3, h4⟩, hf⟩ := h
 exact ⟨D, ⟨es, clock, he.trans h1, h2, h3, h4⟩, hf⟩
theorem jl.made (P : Program) (k : TypeId) (w : World) : jl P k (w.alloc (.map #[] 0)) w.heap.size 0 fun _ => none := ⟨.map [], World.ownsMap_made w P k zr, by funext s; simp [xn, has]⟩
variable (hk : P.underlying k = some .string) (ht : P.underlying t = some (.map k e))
include hk ht
theorem jl.look (h : jl P k w b n f) {z : Value} (hz : (zeroValue e).run P w = .ok z w) (s : ByteArray) (hs : s.size ≤ maxLen) :
  (Instr.lookup t (.map (some b)) (.string s) true).run P w = .ok (.tuple #[(f s.data.toList).getD z, .bool (f s.data.toList).isSome]) w := by
 obtain ⟨D, h, rfl⟩ := h
 obtain ⟨v, ps, hrun, hR⟩ := h.look_ok (string_keyed hk) ht hz (zd := .held z) (zp := []) rfl (keyOf_string_mk hk hs)
 rw [hrun]
 simp only [zr, Option.some.injEq, Prod.mk.injEq] at hR
 unfold xn
 cases hh : has D (.string s.data.toList) with
 | false =>
  have h1 := hR.1
  rw [atKey_of_not_has hh] at h1
  cases h1
  simp
 | true =>
  have h1 := hR.1
  rw [amj hh (.held z) .nil] at h1
  simp [← h1]
theorem jl.azk (h : jl P k w b n f) {z : Value} (hz : (zeroValue e).run P w = .ok z w) (s : ByteArray) (hs : s.size ≤ maxLen) :
  (Instr.lookup t (.map (some b)) (.string s) false).run P w = .ok ((f s.data.toList).getD z) w := by
 obtain ⟨D, h, rfl⟩ := h
 obtain ⟨v, ps, hrun, hR⟩ := h.lookup (string_keyed hk) ht hz (zd := .held z) (zp := []) rfl (keyOf_string_mk hk hs)
 rw [hrun]
 simp only [zr, Option.some.injEq, Prod.mk.injEq] at hR
 unfold xn
 cases hh : has D (.string s.data.toList) with
 | false =>
  have h1 := hR.1
  rw [atKey_of_not_has hh] at h1
  cases h1
  simp
 | true =>
  have h1 := hR.1
  rw [amj hh (.held z) .nil] at h1
  simp [← h1]
omit hk ht in
theorem a74 {D : DataW Value} (hD : IsMap D) (s : Ks) (v : Value) : xn (D.put (.string s) (.held v)) = upd (xn D) s (some v) := by
 funext x
 unfold xn upd
 by_cases hx : x = s
 ·subst hx
  rw [if_pos rfl, has_put_same hD (by simp [WideAt.IsKeyLit]) _, atKey_put_same hD (by simp [WideAt.IsKeyLit])]
  simp
 ·have hne : Lit.string x ≠ Lit.string s := fun c => hx (by cases c; rfl)
  rw [if_neg hx, has_put_other hne, atKey_put_other hne]
omit hk ht in
theorem a77 {D : DataW Value} (s : Ks) : xn (D.del (.string s)) = upd (xn D) s none := by
 funext x
 unfold xn upd
 by_cases hx : x = s
 ·subst hx
  rw [if_pos rfl, has_del_same]
  simp
 ·have hne : Lit.string x ≠ Lit.string s := fun c => hx (by cases c; rfl)
  rw [if_neg hx, has_del_other hne, atKey_del_other hne]
theorem jl.store (h : jl P k w b n f) (hn : n < maxLen) (s : ByteArray) (hs : s.size ≤ maxLen) (v : Value) :
  ∃ w', (Instr.mapUpdate t (.map (some b)) (.string s) v).run P w = .ok () w' ∧ jl P k w' b (n + 1) (upd f s.data.toList (some v)) ∧ w.mapTurned w' b := by
 obtain ⟨D, h, rfl⟩ := h
 obtain ⟨w', h1, h2, h3⟩ := h.store (string_keyed hk) ht hn (keyOf_string_mk hk hs) (d := .held v) (ps := []) (val := v) rfl
 exact ⟨w', h1, ⟨_, h2, (a74 h.isMap _ _).symm⟩, h3⟩
theorem jl.drop (h : jl P k w b n f) (s : ByteArray) (hs : s.size ≤ maxLen) (ty : TypeId) :
  ∃ w', (Builtin.delete_ #[t, k] ty #[.map (some b), .string s]).run P w = .ok (.tuple #[]) w' ∧ jl P k w' b n (upd f s.data.toList none) ∧ w.mapTurned w' b := by
 obtain ⟨D, h, rfl⟩ := h
 obtain ⟨w', h1, h2, h3⟩ := h.drop (string_keyed hk) ht (keyOf_string_mk hk hs) ty
 exact ⟨w', h1, ⟨_, h2, (a77 _).symm⟩, h3⟩
omit ht in
theorem mem_keys {D : DataW Value} (h : w.ownsMap P k zr b n D) (s : Ks) : s ∈ strKeys D ↔ xn D s ≠ none := by
 obtain ⟨es, clock, hb, F, hs, rfl⟩ := h
 have hkeys : ∀ p ∈ (es.toList.map (rg P k zr)).foldr DataW.insert [], (∃ x, p.1 = .string x) ∧ ∃ v, p.2 = .held v := by
  intro p hp
  have hm : p ∈ es.toList.map (rg P k zr) := mem_sorted.1 hp
  obtain ⟨x, hx, rfl⟩ := List.mem_map.1 hm
  obtain ⟨y, hy⟩ := F.reads x hx
  have h1 := WideElems.rd_key hy
  obtain ⟨z, h2, h3⟩ := WideElems.rd_val hy
  rw [WideElems.rg_of hy]
  obtain ⟨q, _, hq, _⟩ := Maps.keyOf_str hk h1
  refine ⟨⟨q, hq⟩, ?_⟩
  simp only [zr, Option.some.injEq] at h2
  rw [h3, ← h2]
  exact ⟨_, rfl⟩
 generalize (es.toList.map (rg P k zr)).foldr DataW.insert [] = l at *
 unfold xn
 have hat : ∀ s, has (.map l) (.string s) = true → ∃ v, (DataW.map l).atKey (.string s) .nil = .held v := by
  intro s hh
  simp only [has, List.any_eq_true] at hh
  simp only [DataW.atKey]
  cases hf : l.find? (fun p => p.1.sameKey (.string s)) with
  | none =>
   rw [List.find?_eq_none] at hf
   obtain ⟨p, hp, hq⟩ := hh
   exact absurd hq (hf p hp)
  | some p => exact (hkeys p (List.mem_of_find?_eq_some hf)).2
 have hmem : s ∈ strKeys (.map l) ↔ has (.map l) (.string s) = true := by
  simp only [has, List.any_eq_true]
  unfold strKeys
  simp only [List.mem_map]
  constructor
  ·rintro ⟨p, hp, hs⟩
   obtain ⟨⟨x, hx⟩, _⟩ := hkeys p hp
   refine ⟨p, hp, ?_⟩
   rw [hx] at hs ⊢
   simp only [strOf] at hs
   subst hs
   simp [Lit.sameKey]
  ·rintro ⟨p, hp, hs⟩
   obtain ⟨⟨x, hx⟩, _⟩ := hkeys p hp
   refine ⟨p, hp, ?_⟩
   rw [hx] at hs ⊢
   simp [Lit.sameKey] at hs
   subst hs
   rfl
 rw [hmem]
 cases hh : has (.map l) (.string s) with
 | false => simp
 | true =>
  obtain ⟨v, hv⟩ := hat s hh
  simp [hv]
omit ht in
theorem nodup_keys {D : DataW Value} (h : w.ownsMap P k zr b n D) : (strKeys D).Nodup := by
 obtain ⟨es, rfl, hp⟩ := h.tidy (string_keyed hk)
 obtain ⟨es', he, hko⟩ := h.keysOf
 cases he
 unfold strKeys
 rw [List.Nodup, List.pairwise_map]
 refine List.Pairwise.imp_of_mem (fun {p q} hp hq h e => h ?_) hp
 obtain ⟨v1, h1⟩ := hko p hp
 obtain ⟨v2, h2⟩ := hko q hq
 obtain ⟨x, _, hx, _⟩ := Maps.keyOf_str hk h1
 obtain ⟨y, _, hy, _⟩ := Maps.keyOf_str hk h2
 rw [hx, hy] at e ⊢
 simp only [strOf] at e
 rw [e]
omit ht in
theorem aue {D : DataW Value} (h : w.ownsMap P k zr b n D) : (strKeys D).length ≤ n := by
 obtain ⟨es, rfl, _⟩ := h.tidy (string_keyed hk)
 have := h.size_le
 simpa [strKeys, Maps.size] using this
end
end Go.Proofs.YtmdimhcjogjcgaaGreatDoor.Mp
namespace Go.Proofs.YtmdimhcjogjcgaaGreatDoor.Gr
open Go.Proofs.YtmdimhcjogjcgaaGreatDoor.Lat Go.Proofs.YtmdimhcjogjcgaaGreatDoor.Mp
open Go.Proofs.YtmdimhcjogjcgaaGreatDoor.Abs (aw)
abbrev Ris (l : List Bs) : Prop := l.Pairwise fun x y => aw x y = true
theorem Ris.nodup {l : List Bs} (h : Ris l) : l.Nodup := h.imp fun {a b} h e => by subst e; rw [mo] at h; cases h
theorem amk : ∀ {l m : List Bs}, Ris l → Ris m → (∀ x, x ∈ l ↔ x ∈ m) → l = m
 | [], [], _, _, _ => rfl
 | [], b :: m, _, _, h => by simpa using (h b).2 (by simp)
 | a :: l, [], _, _, h => by simpa using (h a).1 (by simp)
 | a :: l, b :: m, h1, h2, h => by
  have h1' := List.pairwise_cons.1 h1
  have h2' := List.pairwise_cons.1 h2
  have hab : a = b := by
   rcases List.mem_cons.1 ((h a).1 (by simp)) with e | ha
   ·exact e
   ·rcases List.mem_cons.1 ((h b).2 (by simp)) with e | hb
    ·exact e.symm
    ·have x1 := h2'.1 a ha
     have x2 := h1'.1 b hb
     rw [acr _ _ x1] at x2; cases x2
  subst hab
  rw [amk h1'.2 h2'.2 fun x => ?_]
  constructor
  ·intro hx
   rcases List.mem_cons.1 ((h x).1 (List.mem_cons_of_mem _ hx)) with e | hx'
   ·subst e; have := h1'.1 x hx; rw [mo] at this; cases this
   ·exact hx'
  ·intro hx
   rcases List.mem_cons.1 ((h x).2 (List.mem_cons_of_mem _ hx)) with e | hx'
   ·subst e; have := h2'.1 x hx; rw [mo] at this; cases this
   ·exact hx'
theorem auf : ∀ x y : Bs, aw x y = true ↔ x < y
 | [], [] => by simp [aw]
 | [], b :: y => by simp [aw]
 | a :: x, [] => by simp [aw]
 | a :: x, b :: y => by
  rw [aw, List.cons_lt_cons_iff, ← auf x y]
  simp
theorem tf {l : List Bs} (h : l.Nodup) : Ris (l.mergeSort fun x y => decide (x ≤ y)) := by
 have h1 : (l.mergeSort fun x y => decide (x ≤ y)).Pairwise fun x y => decide (x ≤ y) = true := List.pairwise_mergeSort (fun a b c h1 h2 => by simp only [decide_eq_true_eq] at *; exact List.le_trans h1 h2) (fun a b => by simp only [Bool.or_eq_true, decide_eq_true_eq]; exact List.le_total a b) l
 have h2 : (l.mergeSort fun x y => decide (x ≤ y)).Nodup := (List.mergeSort_perm l _).nodup_iff.2 h
 refine List.Pairwise.imp₂ (fun a b h1 h2 => ?_) h1 h2
 rw [auf]
 simp only [decide_eq_true_eq] at h1
 rcases List.le_iff_lt_or_eq.1 h1 with h | h
 ·exact h
 ·exact absurd h h2
def pos (l : List Bs) (x : Bs) : Nat := (l.takeWhile fun y => aw y x).length
def ade (l : List Bs) (x : Bs) : List Bs := l.take (pos l x) ++ x :: l.drop (pos l x)
theorem aml (l : List Bs) (x : Bs) : pos l x ≤ l.length := (List.takeWhile_sublist _).length_le
theorem ago (a : Bs) (l : List Bs) (x : Bs) : pos (a :: l) x = if aw a x then pos l x + 1 else 0 := by
 unfold pos
 rw [List.takeWhile_cons]
 split <;> simp
theorem ako : ∀ (l : List Bs) (x : Bs) (t : Nat) (y : Bs), t < pos l x → l[t]? = some y → aw y x = true
 | [], x, t, y, h, _ => by simp [pos] at h
 | a :: l, x, 0, y, h, hy => by
  rw [ago] at h
  simp at hy; subst hy
  split at h
  ·assumption
  ·omega
 | a :: l, x, t + 1, y, h, hy => by
  rw [ago] at h
  split at h
  ·exact ako l x t y (by omega) (by simpa using hy)
  ·omega
theorem aog : ∀ (l : List Bs) (x : Bs), Ris l → ∀ (t : Nat) (y : Bs), pos l x ≤ t → l[t]? = some y → aw y x = false
 | [], x, _, t, y, h, hy => by simp at hy
 | a :: l, x, hr, t, y, h, hy => by
  rw [ago] at h
  have hr' := List.pairwise_cons.1 hr
  split at h
  ·rename_i ha
   cases t with
   | zero => omega
   | succ t => exact aog l x hr'.2 t y (by omega) (by simpa using hy)
  ·rename_i ha
   cases t with
   | zero => simp at hy; subst hy; simpa using ha
   | succ t =>
    have hm : y ∈ l := List.mem_of_getElem? (i := t) (by simpa using hy)
    have h1 := hr'.1 y hm
    cases hb : aw y x with
    | false => rfl
    | true => exact absurd (x9 _ _ _ h1 hb) ha
theorem akp {l : List Bs} {x y : Bs} : y ∈ ade l x ↔ y = x ∨ y ∈ l := by
 unfold ade
 rw [List.mem_append, List.mem_cons]
 conv => rhs; rw [← List.take_append_drop (pos l x) l, List.mem_append]
 constructor
 ·rintro (h | rfl | h)
  ·exact .inr (.inl h)
  ·exact .inl rfl
  ·exact .inr (.inr h)
 ·rintro (rfl | h | h)
  ·exact .inr (.inl rfl)
  ·exact .inl h
  ·exact .inr (.inr h)
theorem akq : ∀ {l : List Bs} {x : Bs}, Ris l → x ∉ l → Ris (ade l x)
 | [], x, _, _ => by simp [ade, pos]
 | a :: l, x, h, hx => by
  have h' := List.pairwise_cons.1 h
  unfold ade
  rw [ago]
  split
  ·rename_i ha
   rw [List.take_succ_cons, List.drop_succ_cons, List.cons_append]
   refine List.pairwise_cons.2 ⟨fun y hy => ?_, akq h'.2 fun c => hx (List.mem_cons_of_mem _ c)⟩
   rcases akp.1 hy with rfl | hy
   ·exact ha
   ·exact h'.1 y hy
  ·rename_i ha
   have hax : aw x a = true := by
    cases hb : aw x a with
    | true => rfl
    | false => exact absurd (vc a x (by simpa using ha) hb) (fun e => hx (by simp [e]))
   simp only [List.take_zero, List.drop_zero, List.nil_append]
   refine List.pairwise_cons.2 ⟨fun y hy => ?_, h⟩
   rcases List.mem_cons.1 hy with rfl | hy
   ·exact hax
   ·exact x9 _ _ _ hax (h'.1 y hy)
theorem ap6 {l : List Bs} {x : Bs} (h : Ris l) : (l[pos l x]? = some x) ↔ x ∈ l := by
 constructor
 ·exact fun h => List.mem_of_getElem? h
 ·intro hx
  obtain ⟨i, hi, he⟩ := List.getElem_of_mem hx
  have h1 : l[i]? = some x := by rw [List.getElem?_eq_getElem hi, he]
  by_cases hp : i < pos l x
  ·have := ako l x i x hp h1
   rw [mo] at this; cases this
  ·by_cases hq : pos l x < i
   ·have hlt : pos l x < l.length := by omega
    have h2 := aog l x h (pos l x) l[pos l x] (Nat.le_refl _) (List.getElem?_eq_getElem hlt)
    have h3 : aw l[pos l x] l[i] = true := List.pairwise_iff_getElem.1 h _ _ hlt hi hq
    rw [he, h2] at h3; cases h3
   ·rw [show pos l x = i by omega]; exact h1
theorem bah {l : List Bs} {x : Bs} (h : Ris l) (S : Nat → Bool) (h1 : ∀ t y, l[t]? = some y → S t = aw y x) (h2 : ∀ t, l.length ≤ t → S t = false) : Lib.bsGo S l.length 0 l.length = pos l x := by
 refine Lib.bsGo_spec S (pos l x) (fun t ht => ?_) (fun t ht => ?_) _ _ _ (by omega) (Nat.zero_le _) (aml l x)
 ·have hl : t < l.length := Nat.lt_of_lt_of_le ht (aml l x)
  rw [h1 t _ (List.getElem?_eq_getElem hl)]
  exact ako l x t _ ht (List.getElem?_eq_getElem hl)
 ·by_cases hl : t < l.length
  ·rw [h1 t _ (List.getElem?_eq_getElem hl)]
   exact aog l x h t _ ht (List.getElem?_eq_getElem hl)
  ·exact h2 t (by omega)
abbrev Gr := Bs → Option (List Bs)
def gf (f : Gr) (k : Bs) : Gr := upd f k (some ((f k).getD []))
theorem a78 {f : Gr} {k : Bs} {l : List Bs} (h : f k = some l) : gf f k = f := by
 funext x
 unfold gf upd
 split
 ·rename_i e; subst e; rw [h]; rfl
 ·rfl
def xo (f : Gr) (a b : Bs) : Gr :=
 let f1 := gf (gf f a) b
 let l := (f1 a).getD []
 if b ∈ l then f1 else upd f1 a (some (ade l b))
def ju (f : Gr) (a b : Bs) : Prop := ∃ l, f a = some l ∧ b ∈ l
structure sg (f : Gr) : Prop where
 ris : ∀ k l, f k = some l → Ris l
 pt : ∀ k l y, f k = some l → y ∈ l → f y ≠ none
theorem bf7 : sg fun _ => none := ⟨fun _ _ h => (nomatch h), fun _ _ _ h => (nomatch h)⟩
theorem ab9 {f : Gr} {k x : Bs} : gf f k x ≠ none ↔ x = k ∨ f x ≠ none := by
 unfold gf upd
 split
 ·rename_i e; simp [e]
 ·rename_i e; simp [e]
theorem ael {f : Gr} {k a b : Bs} : ju (gf f k) a b ↔ ju f a b := by
 unfold ju gf upd
 by_cases h : a = k
 ·subst h
  rw [if_pos rfl]
  cases hf : f a with
  | none => simp
  | some l => simp
 ·rw [if_neg h]
theorem ahu {f : Gr} (h : sg f) (k : Bs) : sg (gf f k) := by
 refine ⟨fun x l hx => ?_, fun x l y hx hy => ?_⟩
 ·unfold gf upd at hx
  split at hx
  ·cases hf : f k with
   | none => rw [hf] at hx; cases hx; exact List.Pairwise.nil
   | some m => rw [hf] at hx; cases hx; exact h.ris _ _ hf
  ·exact h.ris _ _ hx
 ·rw [ab9]
  obtain ⟨m, hm, hy'⟩ := ael.1 ⟨l, hx, hy⟩
  exact .inr (h.pt _ _ _ hm hy')
theorem aoh {f : Gr} {a b x : Bs} : xo f a b x ≠ none ↔ x = a ∨ x = b ∨ f x ≠ none := by
 have h1 : gf (gf f a) b x ≠ none ↔ x = a ∨ x = b ∨ f x ≠ none := by rw [ab9, ab9]; constructor <;> (rintro (h | h | h) <;> simp [h])
 unfold xo
 try simp only
 split
 ·exact h1
 ·unfold upd
  split
  ·rename_i e; simp [e]
  ·exact h1
theorem ahv {f : Gr} {a b x y : Bs} : ju (xo f a b) x y ↔ (x = a ∧ y = b) ∨ ju f x y := by
 have h1 : ju (gf (gf f a) b) x y ↔ ju f x y := by rw [ael, ael]
 have ha : gf (gf f a) b a ≠ none := by rw [ab9, ab9]; simp
 obtain ⟨l, hl⟩ := Option.ne_none_iff_exists'.1 ha
 unfold xo
 simp only [hl, Option.getD_some]
 split
 ·rename_i hb
  rw [h1]
  constructor
  ·exact .inr
  ·rintro (⟨rfl, rfl⟩ | h)
   ·rw [← h1]; exact ⟨l, hl, hb⟩
   ·exact h
 ·rename_i hb
  rw [← h1]
  unfold ju upd
  by_cases hx : x = a
  ·subst hx
   simp only [if_true, Option.some.injEq, exists_eq_left', hl, akp, true_and]
  ·simp [hx]
theorem axz {f : Gr} (h : sg f) (a b : Bs) : sg (xo f a b) := by
 have h1 := ahu (ahu h a) b
 refine ⟨fun x l hx => ?_, fun x l y hx hy => ?_⟩
 ·unfold xo at hx
  try simp only at hx
  split at hx
  ·exact h1.ris _ _ hx
  ·rename_i hb
   unfold upd at hx
   split at hx
   ·cases hx
    refine akq ?_ hb
    cases hf : gf (gf f a) b a with
    | none => exact List.Pairwise.nil
    | some m => exact h1.ris _ _ hf
   ·exact h1.ris _ _ hx
 ·rw [aoh]
  rcases ahv.1 ⟨l, hx, hy⟩ with ⟨_, rfl⟩ | ⟨m, hm, hy⟩
  ·exact .inr (.inl rfl)
  ·exact .inr (.inr (h.pt _ _ _ hm hy))
end Go.Proofs.YtmdimhcjogjcgaaGreatDoor.Gr
namespace Go.Proofs
open Go.Shelf
def Tryz.azl : Go.Shelf.Ren := ⟨fun | 16 => 160 | n => n, fun | 24 => 37 | 9 => 9 | 4 => 4 | n => n, fun | n => n⟩
theorem Tryz.za : Go.Proofs.Lays2.n16 Tryz.prog Tryz.azl := {
 mixed := by kernel_rfl
 f16 := Tryz.func160.trans (congrArg some (by kernel_rfl))
 t4 := Tryz.underlying4
 a4 := Tryz.isAgg4
 z4 := Tryz.sizeOf4
 v4 := Tryz.zeroValue4
 t9 := Tryz.underlying9
 a9 := Tryz.isAgg9
 z9 := Tryz.sizeOf9
 v9 := Tryz.zeroValue9
 t24 := Tryz.underlying37
 a24 := Tryz.isAgg37
 z24 := Tryz.sizeOf37
 v24 := Tryz.zeroValue37
 i9 := by kernel_rfl }
def Tryz.mi : Go.Shelf.Ren := ⟨fun | 22 => 159 | 29 => 202 | 30 => 203 | 36 => 250 | 17 => 275 | n => n, fun | 24 => 37 | 9 => 9 | 3 => 3 | 4 => 4 | 0 => 0 | n => n, fun | n => n⟩
theorem Tryz.ahw : Go.Proofs.Lays2.n22 Tryz.prog Tryz.mi := {
 mixed := by kernel_rfl
 f17 := Tryz.func275.trans (congrArg some (by kernel_rfl))
 f22 := Tryz.func159.trans (congrArg some (by kernel_rfl))
 f29 := Tryz.func202.trans (congrArg some (by kernel_rfl))
 f30 := Tryz.func203.trans (congrArg some (by kernel_rfl))
 f36 := Tryz.func250.trans (congrArg some (by kernel_rfl))
 t0 := Tryz.underlying0
 a0 := Tryz.isAgg0
 z0 := Tryz.sizeOf0
 v0 := Tryz.zeroValue0
 t3 := Tryz.underlying3
 a3 := Tryz.isAgg3
 z3 := Tryz.sizeOf3
 v3 := Tryz.zeroValue3
 t4 := Tryz.underlying4
 a4 := Tryz.isAgg4
 z4 := Tryz.sizeOf4
 v4 := Tryz.zeroValue4
 t9 := Tryz.underlying9
 a9 := Tryz.isAgg9
 z9 := Tryz.sizeOf9
 v9 := Tryz.zeroValue9
 t24 := Tryz.underlying37
 a24 := Tryz.isAgg37
 z24 := Tryz.sizeOf37
 v24 := Tryz.zeroValue37
 i9 := by kernel_rfl }
def Tryz.azm : Go.Shelf.Ren := ⟨fun | 26 => 158 | 33 => 200 | 34 => 201 | 38 => 249 | n => n, fun | 24 => 37 | 9 => 9 | 3 => 3 | 4 => 4 | 40 => 142 | 0 => 0 | n => n, fun | n => n⟩
theorem Tryz.amm : Go.Proofs.Lays2.n26 Tryz.prog Tryz.azm := {
 mixed := by kernel_rfl
 f26 := Tryz.func158.trans (congrArg some (by kernel_rfl))
 f33 := Tryz.func200.trans (congrArg some (by kernel_rfl))
 f34 := Tryz.func201.trans (congrArg some (by kernel_rfl))
 f38 := Tryz.func249.trans (congrArg some (by kernel_rfl))
 t0 := Tryz.underlying0
 a0 := Tryz.isAgg0
 z0 := Tryz.sizeOf0
 v0 := Tryz.zeroValue0
 t3 := Tryz.underlying3
 a3 := Tryz.isAgg3
 z3 := Tryz.sizeOf3
 v3 := Tryz.zeroValue3
 t4 := Tryz.underlying4
 a4 := Tryz.isAgg4
 z4 := Tryz.sizeOf4
 v4 := Tryz.zeroValue4
 t9 := Tryz.underlying9
 a9 := Tryz.isAgg9
 z9 := Tryz.sizeOf9
 v9 := Tryz.zeroValue9
 t24 := Tryz.underlying37
 a24 := Tryz.isAgg37
 z24 := Tryz.sizeOf37
 v24 := Tryz.zeroValue37
 t40 := Tryz.underlying142
 a40 := Tryz.isAgg142
 z40 := Tryz.sizeOf142
 v40 := Tryz.zeroValue142 }
def Tryz.ajw : Go.Shelf.Ren := ⟨fun | 7 => 166 | 10 => 207 | n => n, fun | 23 => 219 | 26 => 9 | 3 => 3 | 28 => 225 | 0 => 0 | 27 => 224 | 33 => 30 | 4 => 4 | n => n, fun | n => n⟩
theorem Tryz.ax0 : Go.Proofs.SlLaysZ.n7 Tryz.prog Tryz.ajw := {
 mixed := by kernel_rfl
 f7 := ⟨Tryz.f166.name, by decide, Tryz.func166.trans (congrArg some (by kernel_rfl))⟩
 f10 := ⟨Tryz.f207.name, by decide, Tryz.func207.trans (congrArg some (by kernel_rfl))⟩
 t0 := Tryz.underlying0
 a0 := Tryz.isAgg0
 z0 := Tryz.sizeOf0
 v0 := Tryz.zeroValue0
 t4 := Tryz.underlying4
 a4 := Tryz.isAgg4
 z4 := Tryz.sizeOf4
 v4 := Tryz.zeroValue4
 t23 := Tryz.underlying219
 a23 := Tryz.isAgg219
 z23 := Tryz.sizeOf219
 v23 := Tryz.zeroValue219
 t26 := Tryz.underlying9
 a26 := Tryz.isAgg9
 z26 := Tryz.sizeOf9
 v26 := Tryz.zeroValue9
 t27 := Tryz.underlying224
 a27 := Tryz.isAgg224
 z27 := Tryz.sizeOf224
 v27 := Tryz.zeroValue224
 t28 := Tryz.underlying225
 a28 := Tryz.isAgg225
 z28 := Tryz.sizeOf225
 v28 := Tryz.zeroValue225
 t33 := Tryz.underlying30
 a33 := Tryz.isAgg30
 z33 := Tryz.sizeOf30
 v33 := Tryz.zeroValue30 }
def Tryz.ag3 : Go.Shelf.Ren := ⟨fun | 6 => 165 | 8 => 205 | 9 => 206 | 11 => 252 | 13 => 254 | 12 => 253 | 23 => 284 | 24 => 285 | 14 => 276 | 15 => 277 | 16 => 278 | 17 => 279 | 18 => 280 | 19 => 281 | 20 => 200 | 21 => 282 | 22 => 283 | 25 => 299 | 26 => 300 | 27 => 301 | 28 => 302 | 29 => 303 | 30 => 249 | 31 => 307 | n => n, fun | 26 => 9 | 28 => 225 | 24 => 37 | 0 => 0 | 3 => 3 | 37 => 142 | 48 => 293 | 50 => 35 | 4 => 4 | 40 => 287 | 39 => 286 | 45 => 214 | 5 => 5 | 9 => 9 | 51 => 308 | 55 => 311 | 57 => 315 | 58 => 316 | 33 => 30 | n => n, fun | n => n⟩
theorem Tryz.ap7 : Go.Proofs.SlLaysZ.n6 Tryz.prog Tryz.ag3 := {
 mixed := by kernel_rfl
 f6 := ⟨Tryz.f165.name, by decide, Tryz.func165.trans (congrArg some (by kernel_rfl))⟩
 f8 := ⟨Tryz.f205.name, by decide, Tryz.func205.trans (congrArg some (by kernel_rfl))⟩
 f11 := ⟨Tryz.f252.name, by decide, Tryz.func252.trans (congrArg some (by kernel_rfl))⟩
 t0 := Tryz.underlying0
 a0 := Tryz.isAgg0
 z0 := Tryz.sizeOf0
 v0 := Tryz.zeroValue0
 t24 := Tryz.underlying37
 a24 := Tryz.isAgg37
 z24 := Tryz.sizeOf37
 v24 := Tryz.zeroValue37
 t26 := Tryz.underlying9
 a26 := Tryz.isAgg9
 z26 := Tryz.sizeOf9
 v26 := Tryz.zeroValue9
 t28 := Tryz.underlying225
 a28 := Tryz.isAgg225
 z28 := Tryz.sizeOf225
 v28 := Tryz.zeroValue225
 i26 := by kernel_rfl }
def Tryz.av9 : Go.Shelf.Ren := ⟨fun | 6 => 206 | 8 => 254 | 9 => 253 | 19 => 284 | 20 => 285 | 21 => 276 | 22 => 277 | 23 => 278 | 24 => 279 | 25 => 280 | 26 => 281 | 27 => 200 | 28 => 282 | 29 => 283 | 36 => 299 | 31 => 300 | 32 => 301 | 37 => 302 | 38 => 303 | 39 => 249 | 41 => 307 | n => n, fun | 27 => 37 | 29 => 9 | 3 => 3 | 32 => 142 | 26 => 37 | 0 => 0 | 44 => 293 | 46 => 35 | 4 => 4 | 36 => 287 | 35 => 286 | 41 => 214 | 5 => 5 | 9 => 9 | 53 => 308 | 57 => 311 | 63 => 315 | 64 => 316 | n => n, fun | n => n⟩
theorem Tryz.ax1 : Go.Proofs.SlLaysM.n6 Tryz.prog Tryz.av9 := {
 mixed := by kernel_rfl
 f6 := ⟨Tryz.f206.name, by decide, Tryz.func206.trans (congrArg some (by kernel_rfl))⟩
 f8 := Tryz.func254.trans (congrArg some (by kernel_rfl))
 f9 := ⟨Tryz.f253.name, by decide, Tryz.func253.trans (congrArg some (by kernel_rfl))⟩
 f19 := Tryz.func284.trans (congrArg some (by kernel_rfl))
 f20 := Tryz.func285.trans (congrArg some (by kernel_rfl))
 f21 := ⟨Tryz.f276.name, by decide, Tryz.func276.trans (congrArg some (by kernel_rfl))⟩
 f22 := ⟨Tryz.f277.name, by decide, Tryz.func277.trans (congrArg some (by kernel_rfl))⟩
 f23 := ⟨Tryz.f278.name, by decide, Tryz.func278.trans (congrArg some (by kernel_rfl))⟩
 f24 := ⟨Tryz.f279.name, by decide, Tryz.func279.trans (congrArg some (by kernel_rfl))⟩
 f25 := ⟨Tryz.f280.name, by decide, Tryz.func280.trans (congrArg some (by kernel_rfl))⟩
 f26 := ⟨Tryz.f281.name, by decide, Tryz.func281.trans (congrArg some (by kernel_rfl))⟩
 f27 := ⟨Tryz.f200.name, by decide, Tryz.func200.trans (congrArg some (by kernel_rfl))⟩
 f28 := ⟨Tryz.f282.name, by decide, Tryz.func282.trans (congrArg some (by kernel_rfl))⟩
 f29 := ⟨Tryz.f283.name, by decide, Tryz.func283.trans (congrArg some (by kernel_rfl))⟩
 f31 := Tryz.func300.trans (congrArg some (by kernel_rfl))
 f32 := Tryz.func301.trans (congrArg some (by kernel_rfl))
 f36 := ⟨Tryz.f299.name, by decide, Tryz.func299.trans (congrArg some (by kernel_rfl))⟩
 f37 := ⟨Tryz.f302.name, by decide, Tryz.func302.trans (congrArg some (by kernel_rfl))⟩
 f38 := ⟨Tryz.f303.name, by decide, Tryz.func303.trans (congrArg some (by kernel_rfl))⟩
 f39 := ⟨Tryz.f249.name, by decide, Tryz.func249.trans (congrArg some (by kernel_rfl))⟩
 f41 := ⟨Tryz.f307.name, by decide, Tryz.func307.trans (congrArg some (by kernel_rfl))⟩
 t0 := Tryz.underlying0
 a0 := Tryz.isAgg0
 z0 := Tryz.sizeOf0
 v0 := Tryz.zeroValue0
 t3 := Tryz.underlying3
 a3 := Tryz.isAgg3
 z3 := Tryz.sizeOf3
 v3 := Tryz.zeroValue3
 t4 := Tryz.underlying4
 a4 := Tryz.isAgg4
 z4 := Tryz.sizeOf4
 v4 := Tryz.zeroValue4
 t5 := Tryz.underlying5
 a5 := Tryz.isAgg5
 z5 := Tryz.sizeOf5
 v5 := Tryz.zeroValue5
 t9 := Tryz.underlying9
 a9 := Tryz.isAgg9
 z9 := Tryz.sizeOf9
 v9 := Tryz.zeroValue9
 t26 := Tryz.underlying37
 a26 := Tryz.isAgg37
 z26 := Tryz.sizeOf37
 v26 := Tryz.zeroValue37
 t27 := Tryz.underlying37
 a27 := Tryz.isAgg37
 z27 := Tryz.sizeOf37
 v27 := Tryz.zeroValue37
 t29 := Tryz.underlying9
 a29 := Tryz.isAgg9
 z29 := Tryz.sizeOf9
 v29 := Tryz.zeroValue9
 t32 := Tryz.underlying142
 a32 := Tryz.isAgg142
 z32 := Tryz.sizeOf142
 v32 := Tryz.zeroValue142
 t35 := Tryz.underlying286
 a35 := Tryz.isAgg286
 z35 := Tryz.sizeOf286
 v35 := Tryz.zeroValue286
 t36 := Tryz.underlying287
 a36 := Tryz.isAgg287
 z36 := Tryz.sizeOf287
 v36 := Tryz.zeroValue287
 t41 := Tryz.underlying214
 a41 := Tryz.isAgg214
 z41 := Tryz.sizeOf214
 v41 := Tryz.zeroValue214
 t44 := Tryz.underlying293
 a44 := Tryz.isAgg293
 z44 := Tryz.sizeOf293
 v44 := Tryz.zeroValue293
 t46 := Tryz.underlying35
 a46 := Tryz.isAgg35
 z46 := Tryz.sizeOf35
 v46 := Tryz.zeroValue35
 t53 := Tryz.underlying308
 a53 := Tryz.isAgg308
 z53 := Tryz.sizeOf308
 v53 := Tryz.zeroValue308
 t57 := Tryz.underlying311
 a57 := Tryz.isAgg311
 z57 := Tryz.sizeOf311
 v57 := Tryz.zeroValue311
 t63 := Tryz.underlying315
 a63 := Tryz.isAgg315
 z63 := Tryz.sizeOf315
 v63 := Tryz.zeroValue315
 t64 := Tryz.underlying316
 a64 := Tryz.isAgg316
 z64 := Tryz.sizeOf316
 v64 := Tryz.zeroValue316 }
def Tryz.ajx : Go.Shelf.Ren := ⟨fun | 7 => 204 | 10 => 251 | n => n, fun | 23 => 211 | 26 => 9 | 3 => 37 | 28 => 225 | 0 => 0 | 27 => 224 | 33 => 30 | 4 => 4 | n => n, fun | n => n⟩
theorem Tryz.ax2 : Go.Proofs.SlLaysZ.n7 Tryz.prog Tryz.ajx := {
 mixed := by kernel_rfl
 f7 := ⟨Tryz.f204.name, by decide, Tryz.func204.trans (congrArg some (by kernel_rfl))⟩
 f10 := ⟨Tryz.f251.name, by decide, Tryz.func251.trans (congrArg some (by kernel_rfl))⟩
 t0 := Tryz.underlying0
 a0 := Tryz.isAgg0
 z0 := Tryz.sizeOf0
 v0 := Tryz.zeroValue0
 t4 := Tryz.underlying4
 a4 := Tryz.isAgg4
 z4 := Tryz.sizeOf4
 v4 := Tryz.zeroValue4
 t23 := Tryz.underlying211
 a23 := Tryz.isAgg211
 z23 := Tryz.sizeOf211
 v23 := Tryz.zeroValue211
 t26 := Tryz.underlying9
 a26 := Tryz.isAgg9
 z26 := Tryz.sizeOf9
 v26 := Tryz.zeroValue9
 t27 := Tryz.underlying224
 a27 := Tryz.isAgg224
 z27 := Tryz.sizeOf224
 v27 := Tryz.zeroValue224
 t28 := Tryz.underlying225
 a28 := Tryz.isAgg225
 z28 := Tryz.sizeOf225
 v28 := Tryz.zeroValue225
 t33 := Tryz.underlying30
 a33 := Tryz.isAgg30
 z33 := Tryz.sizeOf30
 v33 := Tryz.zeroValue30 }
def Tryz.awa : Go.Shelf.Ren := ⟨fun | 125 => 254 | 128 => 284 | 129 => 285 | n => n, fun | 46 => 142 | 3 => 3 | 51 => 293 | 53 => 35 | 4 => 4 | 5 => 5 | 9 => 9 | n => n, fun | n => n⟩
theorem Tryz.bb5 : Go.Proofs.Lays.n125 Tryz.prog Tryz.awa := {
 mixed := by kernel_rfl
 f125 := Tryz.func254.trans (congrArg some (by kernel_rfl))
 f128 := Tryz.func284.trans (congrArg some (by kernel_rfl))
 f129 := Tryz.func285.trans (congrArg some (by kernel_rfl))
 t3 := Tryz.underlying3
 a3 := Tryz.isAgg3
 z3 := Tryz.sizeOf3
 v3 := Tryz.zeroValue3
 t4 := Tryz.underlying4
 a4 := Tryz.isAgg4
 z4 := Tryz.sizeOf4
 v4 := Tryz.zeroValue4
 t5 := Tryz.underlying5
 a5 := Tryz.isAgg5
 z5 := Tryz.sizeOf5
 v5 := Tryz.zeroValue5
 t9 := Tryz.underlying9
 a9 := Tryz.isAgg9
 z9 := Tryz.sizeOf9
 v9 := Tryz.zeroValue9
 t46 := Tryz.underlying142
 a46 := Tryz.isAgg142
 z46 := Tryz.sizeOf142
 v46 := Tryz.zeroValue142
 t51 := Tryz.underlying293
 a51 := Tryz.isAgg293
 z51 := Tryz.sizeOf293
 v51 := Tryz.zeroValue293
 t53 := Tryz.underlying35
 a53 := Tryz.isAgg35
 z53 := Tryz.sizeOf35
 v53 := Tryz.zeroValue35 }
open Go.RowKit Go.Maps Go.Sort Go.Shelf
theorem Tryz.aug (m : Nat) : AnyZ.SortsIn Tryz.prog Tryz.ag3 Fence.wide m :=
 ⟨fun blk off cap ss W hH hblk hsz => callsIn_wide.2 (AnyM.slices_Sort_string Tryz.ax1 blk off cap ss W hH hblk hsz),
  fun p cap W => callsIn_wide.2 (AnyM.slices_Sort_string_none Tryz.ax1 p cap W)⟩
theorem Tryz.aq9 (mb : Option Nat) (W : World) : CallsIn Fence.wide 5 Tryz.prog 166 #[.map mb] W fun e w' => e = .returned (.func (.func 207) #[] #[.pointer (some ⟨W.heap.size, 0, none⟩)]) ∧ w' = W.alloc (.cells #[.map mb] 219) :=
 AnyZ.keys_in Tryz.ax0 Fence.wide 5 trivial rfl mb W
theorem Tryz.abe {H : Type} (b nn : Nat) (D0 : DataW H) (R : Value → Option (DataW H × List MemPlace)) (w : World) (hown : w.ownsMap Tryz.prog 9 R b nn D0) (hmax : Maps.size D0 ≤ maxLen) (hbytes : Maps.size D0 * 16 ≤ 140737488355328) :
  CallsIn Fence.wide 5 Tryz.prog 165 #[.func (.func 207) #[] #[.pointer (some ⟨w.heap.size, 0, none⟩)]] (w.alloc (.cells #[.map (some b)] 219)) fun e w' => ∃ (v : Value) (ss : List (List UInt8)), e = .returned v ∧ ss.Perm (strKeys D0) ∧
   w'.ownsRow (w.alloc (.cells #[.map (some b)] 219)).heap.size 9 1 v ss.length ((ss.mergeSort (fun x y => decide (x ≤ y))).map encStr) ∧ (v = .slice none 0 0 ↔ ss = []) ∧ Below (w.alloc (.cells #[.map (some b)] 219)).heap.size (w.alloc (.cells #[.map (some b)] 219)) w' := by
 have hbl := hown.lt
 have hseq : SeqGives Fence.wide 2 Tryz.prog 207 #[.pointer (some ⟨w.heap.size, 0, none⟩)] encStr (fun ss => ss.Perm (strKeys D0)) (Maps.size D0) (w.alloc (.cells #[.map (some b)] 219)) :=
  AnyZ.keys_gives (ρ := Tryz.ajw) { Tryz.ax0 with } Fence.wide _ trivial rfl (by omega) w.heap.size b nn D0 _ (by simp) (by simp) (by
   obtain ⟨es, clock, hb, Ft, hs, hD⟩ := hown
   exact ⟨es, clock, (Below.heap_alloc _ _ b hbl).trans hb, Ft, hs, hD⟩)
 exact AnyZ.sorted_in Tryz.ap7 Fence.wide 5 trivial trivial trivial trivial rfl (by omega) (Tryz.aug _) (enters_of Tryz.func206 (by kernel_rfl) rfl) 207 #[.pointer (some ⟨w.heap.size, 0, none⟩)] trivial (enters_of Tryz.func207 (by kernel_rfl) rfl) _ _ hmax hbytes _ hseq
theorem Tryz.ara (mb : Option Nat) (W : World) : CallsIn Fence.wide 5 Tryz.prog 204 #[.map mb] W fun e w' => e = .returned (.func (.func 251) #[] #[.pointer (some ⟨W.heap.size, 0, none⟩)]) ∧ w' = W.alloc (.cells #[.map mb] 211) :=
 AnyZ.keys_in Tryz.ax2 Fence.wide 5 trivial rfl mb W
theorem Tryz.abf {H : Type} (b nn : Nat) (D0 : DataW H) (R : Value → Option (DataW H × List MemPlace)) (w : World) (hown : w.ownsMap Tryz.prog 9 R b nn D0) (hmax : Maps.size D0 ≤ maxLen) (hbytes : Maps.size D0 * 16 ≤ 140737488355328) :
  CallsIn Fence.wide 5 Tryz.prog 165 #[.func (.func 251) #[] #[.pointer (some ⟨w.heap.size, 0, none⟩)]] (w.alloc (.cells #[.map (some b)] 211)) fun e w' => ∃ (v : Value) (ss : List (List UInt8)), e = .returned v ∧ ss.Perm (strKeys D0) ∧
   w'.ownsRow (w.alloc (.cells #[.map (some b)] 211)).heap.size 9 1 v ss.length ((ss.mergeSort (fun x y => decide (x ≤ y))).map encStr) ∧ (v = .slice none 0 0 ↔ ss = []) ∧ Below (w.alloc (.cells #[.map (some b)] 211)).heap.size (w.alloc (.cells #[.map (some b)] 211)) w' := by
 have hbl := hown.lt
 have hseq : SeqGives Fence.wide 2 Tryz.prog 251 #[.pointer (some ⟨w.heap.size, 0, none⟩)] encStr (fun ss => ss.Perm (strKeys D0)) (Maps.size D0) (w.alloc (.cells #[.map (some b)] 211)) :=
  AnyZ.keys_gives (ρ := Tryz.ajx) { Tryz.ax2 with } Fence.wide _ trivial rfl (by omega) w.heap.size b nn D0 _ (by simp) (by simp) (by
   obtain ⟨es, clock, hb, Ft, hs, hD⟩ := hown
   exact ⟨es, clock, (Below.heap_alloc _ _ b hbl).trans hb, Ft, hs, hD⟩)
 exact AnyZ.sorted_in Tryz.ap7 Fence.wide 5 trivial trivial trivial trivial rfl (by omega) (Tryz.aug _) (enters_of Tryz.func206 (by kernel_rfl) rfl) 251 #[.pointer (some ⟨w.heap.size, 0, none⟩)] trivial (enters_of Tryz.func251 (by kernel_rfl) rfl) _ _ hmax hbytes _ hseq
end Go.Proofs
namespace Go.Proofs.YtmdimhcjogjcgaaGreatDoor.Gr
open Go.RowKit Go.Lib Go.Proofs.YtmdimhcjogjcgaaGreatDoor.Lat Go.Proofs.YtmdimhcjogjcgaaGreatDoor.Mp Go.Maps
structure IsG (w : World) (B bg bm n : Nat) (f : Gr) : Prop where
 hB : B ≤ bg
 hBm : B ≤ bm
 blk : w.heap[bg]? = some (.cells #[.map (some bm)] 213 (0, 0))
 map : ∃ F, jl Tryz.prog 9 w bm n F ∧ ∀ k, (F k = none ↔ f k = none) ∧ ∀ v l, F k = some v → f k = some l → w.ownsRow B 9 1 v l.length (l.map encStr)
theorem zs {w w' : World} {B : Nat} {v : Value} {n : Nat} {xs : List Value} (h : w.ownsRow B 9 1 v n xs) (hb : ∀ b cs t fr, w.heap[b]? = some (.cells cs t fr) → b ≥ B → t = 9 → w'.heap[b]? = w.heap[b]?) : w'.ownsRow B 9 1 v n xs := by
 obtain ⟨h1, h2 | ⟨g, cap, cur, h2, h3, h4, h5, h6, h7, h8⟩⟩ := h
 ·exact ⟨h1, .inl h2⟩
 ·exact ⟨h1, .inr ⟨g, cap, cur, h2, h3, (hb _ _ _ _ h4 h3 rfl).trans h4, h5, h6, h7, h8⟩⟩
theorem tk {w : World} {B B' : Nat} {v : Value} {n : Nat} {xs : List Value} (h : w.ownsRow B 9 1 v n xs) (hb : B' ≤ B) : w.ownsRow B' 9 1 v n xs := by
 obtain ⟨h1, h2 | ⟨g, cap, cur, h2, h3, h4⟩⟩ := h
 ·exact ⟨h1, .inl h2⟩
 ·exact ⟨h1, .inr ⟨g, cap, cur, h2, Nat.le_trans hb h3, h4⟩⟩
theorem fj {w : World} {b : Nat} {o : Obj} (h : w.heap[b]? = some o) : b < w.heap.size := (Array.getElem?_eq_some_iff.1 h).1
theorem IsG.kept {w w' : World} {B bg bm n : Nat} {f : Gr} (h : IsG w B bg bm n f) (hk : ∀ b, b < w.heap.size → B ≤ b → w'.heap[b]? = w.heap[b]?) : IsG w' B bg bm n f := by
 obtain ⟨F, h1, h2⟩ := h.map
 refine ⟨h.hB, h.hBm, (hk _ (fj h.blk) h.hB).trans h.blk, F, h1.aao (hk _ h1.lt h.hBm), fun k => ⟨(h2 k).1, fun v l hv hl => zs ((h2 k).2 v l hv hl) fun b cs t fr hb hB _ => hk b (fj hb) hB⟩⟩
theorem IsG.below {w w' : World} {B bg bm n : Nat} {f : Gr} (h : IsG w B bg bm n f) (hk : Below w.heap.size w w') : IsG w' B bg bm n f := h.kept fun b hb _ => hk.block b hb
theorem IsG.other {w w' : World} {B bg bm n m : Nat} {f : Gr} (h : IsG w B bg bm n f) (hk : w.grownBy w' (some m)) {es : Array MapEntry} {c : Nat} (hm : w.heap[m]? = some (.map es c)) (hne : m ≠ bm) : IsG w' B bg bm n f := by
 obtain ⟨F, h1, h2⟩ := h.map
 have ne : ∀ b cs t fr, w.heap[b]? = some (.cells cs t fr) → some b ≠ some m := fun b cs t fr hb e => by cases e; rw [hb] at hm; cases hm
 refine ⟨h.hB, h.hBm, (hk.block _ (fj h.blk) (ne _ _ _ _ h.blk)).trans h.blk, F, h1.aao (hk.block _ h1.lt fun e => by cases e; exact hne rfl), fun k => ⟨(h2 k).1, fun v l hv hl => zs ((h2 k).2 v l hv hl) fun b cs t fr hb hB _ => hk.block b (fj hb) (ne _ _ _ _ hb)⟩⟩
theorem IsG.mono {w : World} {B bg bm n m : Nat} {f : Gr} (h : IsG w B bg bm n f) (hm : n ≤ m) : IsG w B bg bm m f := by
 obtain ⟨F, h1, h2⟩ := h.map
 exact ⟨h.hB, h.hBm, h.blk, F, h1.mono hm, h2⟩
theorem IsG.cell {w : World} {B bg bm n : Nat} {f : Gr} (h : IsG w B bg bm n f) : w.cell? ⟨bg, 0, none⟩ = some (.map (some bm)) := by rw [Abs.cell_of h.blk]; rfl
theorem bb6 {w : World} {B bg bm n : Nat} {f : Gr} (h : IsG w B bg bm n f) (k : ByteArray) (hk : k.size ≤ maxLen) :
  Calls Tryz.prog 157 #[.pointer (some ⟨bg, 0, none⟩), .string k] w fun e w' => e = .returned (.bool (f k.data.toList).isSome) ∧ w' = w := by
 obtain ⟨F, h1, h2⟩ := h.map
 have hl := h1.look Tryz.underlying9 Tryz.underlying211 (Tryz.zeroValue37 w) k hk
 have hc := h.cell
 have hs : (F k.data.toList).isSome = (f k.data.toList).isSome := by
  have := (h2 k.data.toList).1
  cases hF : F k.data.toList <;> cases hf : f k.data.toList <;> simp [hF, hf] at this ⊢
 rw [hs] at hl
 generalize (f k.data.toList).isSome = r at *
 generalize (F k.data.toList).getD _ = u at *
 clear h h1 h2 hs
 go_enter Tryz.func157, Tryz.ntmps157
 go_wp2_with fail
 go_ret
 exact ⟨rfl, rfl⟩
theorem tm (w : World) (r : Option Nat) : w.grownBy w r := ⟨rfl, rfl, rfl, Nat.le_refl _, fun _ _ _ => rfl⟩
theorem gj {a b c : World} {r : Option Nat} (h : a.grownBy b r) (k : b.grownBy c r) : a.grownBy c r :=
 ⟨k.os.trans h.os, k.tape.trans h.tape, k.output.trans h.output, Nat.le_trans h.size k.size, fun i hi hr => (k.block i (Nat.lt_of_lt_of_le hi h.size) hr).trans (h.block i hi hr)⟩
theorem lb {w w' : World} (r : Option Nat) (h : Below w.heap.size w w') : w.grownBy w' r := ⟨h.os, h.tape, h.output, h.size, fun i hi _ => h.block i hi⟩
theorem IsG.put {w w1 : World} {B bg bm n m : Nat} {f : Gr} {F : Ks → Option Value} {k : Bs} {v : Value} {l : List Bs} (h : IsG w B bg bm n f) (hF : jl Tryz.prog 9 w1 bm m (upd F k (some v))) (hg : w.grownBy w1 (some bm))
  (h2 : ∀ k, (F k = none ↔ f k = none) ∧ ∀ v l, F k = some v → f k = some l → w.ownsRow B 9 1 v l.length (l.map encStr)) (hv : w1.ownsRow B 9 1 v l.length (l.map encStr)) : IsG w1 B bg bm m (upd f k (some l)) := by
 obtain ⟨es, c, hm⟩ : ∃ es c, w.heap[bm]? = some (.map es c) := by obtain ⟨F, h1, _⟩ := h.map; exact h1.blk
 have ne : ∀ b cs t fr, w.heap[b]? = some (.cells cs t fr) → some b ≠ some bm := fun b cs t fr hb e => by cases e; rw [hb] at hm; cases hm
 refine ⟨h.hB, h.hBm, (hg.block _ (fj h.blk) (ne _ _ _ _ h.blk)).trans h.blk, _, hF, fun x => ?_⟩
 by_cases hx : x = k
 ·subst hx
  rw [oc, oc]
  refine ⟨by simp, fun v' l' e e' => ?_⟩
  cases e; cases e'
  exact hv
 ·rw [vu _ _ hx, vu _ _ hx]
  exact ⟨(h2 x).1, fun v' l' hv' hl' => zs ((h2 x).2 v' l' hv' hl') fun b cs t fr hb hB _ => hg.block b (fj hb) (ne _ _ _ _ hb)⟩
theorem ax3 {w : World} {B bg bm n : Nat} {f : Gr} (h : IsG w B bg bm n f) (k : ByteArray) (hk : k.size ≤ maxLen) (hn : n < maxLen) :
  Calls Tryz.prog 116 #[.pointer (some ⟨bg, 0, none⟩), .string k] w fun e w' => e = .returned (.tuple #[]) ∧ IsG w' B bg bm (n + 1) (gf f k.data.toList) ∧ w.grownBy w' (some bm) := by
 obtain ⟨F, h1, h2⟩ := h.map
 obtain ⟨w1, hrun, hF, hturn⟩ := h1.store Tryz.underlying9 Tryz.underlying211 hn k hk (.slice none 0 0)
 have hc := h.cell
 have C := Lib.hid (bb6 h k hk)
 have hgr := Lib.hid hturn.grown
 have hI := Lib.hid h
 have hFF := Lib.hid hF
 have h22 := Lib.hid h2
 clear h h1 h2 hF hturn
 cases hf : f k.data.toList with
 | some l =>
  rw [hf] at C
  clear hrun hgr hFF
  go_enter Tryz.func116, Tryz.ntmps116
  go_wp2_with fail
  refine C.out.mono ?_
  rintro e w' ⟨rfl, rfl⟩
  go_wp2_with fail
  go_end0
  refine ⟨rfl, ?_, tm _ _⟩
  rw [a78 hf]
  exact hI.out.mono (Nat.le_succ _)
 | none =>
  rw [hf] at C
  go_enter Tryz.func116, Tryz.ntmps116
  go_wp2_with fail
  refine C.out.mono ?_
  rintro e w' ⟨rfl, rfl⟩
  go_wp2_with fail
  go_end0
  refine ⟨rfl, ?_, hgr.out⟩
  have := hI.out.put (l := []) hFF.out hgr.out h22.out ⟨rfl, .inl ⟨rfl, rfl⟩⟩
  have e : gf f k.data.toList = upd f k.data.toList (some []) := by unfold gf; rw [hf]; rfl
  rw [e]
  exact this
end Go.Proofs.YtmdimhcjogjcgaaGreatDoor.Gr
