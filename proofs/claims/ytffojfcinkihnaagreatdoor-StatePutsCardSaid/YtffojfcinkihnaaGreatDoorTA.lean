/- Several texts of mine in one (merge.py). -/
import Derived.Test.YtffojfcinkihnaaGreatDoorZs
import Derived.Maps.AppendAt
import Derived.Deep.RegionHeld3
/- Things in memory of their own: a copy of one. -/
set_option linter.unusedVariables false
set_option linter.unusedSimpArgs false
set_option linter.unusedSectionVars false
set_option linter.deprecated false
set_option linter.unnecessarySimpa false
namespace Go.Proofs.YtffojfcinkihnaaGreatDoor.Th
open Go.RowKit Go.Lib Go.Proofs.YtffojfcinkihnaaGreatDoor.Abs Go.Proofs.YtffojfcinkihnaaGreatDoor.Lat Go.Proofs.YtffojfcinkihnaaGreatDoor.Lat.Cp Go.Proofs.YtffojfcinkihnaaGreatDoor.Gr
set_option linter.unusedVariables false
/-- What lies from B on is never written. -/
def Kb (B : Nat) : Cls := fun b => if b < B then .box 0 else .frz
/-- .. but for one block. -/
def Kc (B g : Nat) : Cls := fun b => if b < B ∨ b = g then .box 0 else .frz
theorem stab_Kb {B b i : Nat} : stab (Kb B) b i ↔ B ≤ b := by
  unfold stab Kb
  by_cases h : b < B
  · rw [if_pos h]; simp; omega
  · rw [if_neg h]; simp; omega
theorem ext0 {w w' : World} {c c' : Cls} (hs : w.heap.size ≤ w'.heap.size) (ho : w'.os = w.os) (ht : w'.tape = w.tape) (hp : w'.output = w.output) (h : ∀ b i, stab c b i → b < w.heap.size → w'.heap[b]? = w.heap[b]? ∧ stab c' b i) : Ext 0 w c w' c' :=
  ⟨ho, ht, hp, hs, fun b hb => absurd hb (Nat.not_lt_zero b), fun b i v hv hb => by
    obtain ⟨h1, h2⟩ := h b i hb (World.block_lt_of_cell? w _ hv)
    exact ⟨(cell_heap h1).trans hv, h2⟩⟩
theorem row_rep {w : World} {B : Nat} {v : Value} {d : List Bs} {c : Cls} (hc : ∀ b, B ≤ b → c b = .frz) (h : w.ownsRow B 9 1 v d.length (d.map encStr)) : Rep w c v (.sl 1 (encD d)) := by
  obtain ⟨A, cap, rfl, hA⟩ := row_read h
  cases d with
  | nil =>
    obtain ⟨_, ⟨e, _⟩ | ⟨g, cap', cur, e, _⟩⟩ := h
    · cases e; exact .nil _
    · cases e; exact .emp _ _ _
  | cons x l =>
    obtain ⟨_, ⟨e, _⟩ | ⟨g, cap', cur, e, hB, hb, h5, h6, h7, h8⟩⟩ := h
    · cases e
    · cases e
      have hl : (encD (x :: l)).length = (x :: l).length := encD_len _
      rw [← hl]
      refine Rep.sl g 0 cap 1 _ (fun i j => .string ⟨((x :: l).getD i []).toArray⟩) (by rw [hl]; exact h5) (fun i cs hi => ?_) (fun i j hi hj => ?_) (fun i j hi hj => ?_) (fun i j cs a hi hj => ?_)
      · rw [encD, List.getElem?_map] at hi
        cases hx : (x :: l)[i]? with
        | none => rw [hx] at hi; cases hi
        | some f => rw [hx] at hi; cases hi; rfl
      · rw [hl] at hi
        obtain rfl : j = 0 := by omega
        obtain ⟨g', e, _, _, h9⟩ := hA i _ (List.getElem?_eq_getElem hi)
        cases e
        rw [Nat.zero_add, Nat.mul_one, Nat.add_zero, h9]
        simp [List.getD_eq_getElem?_getD, List.getElem?_eq_getElem hi]
      · unfold stab; rw [hc g hB]; trivial
      · have hi' := (List.getElem?_eq_some_iff.1 hi).1
        rw [hl] at hi'
        rw [encD, List.getElem?_map, List.getElem?_eq_getElem hi'] at hi
        cases hi
        cases j with
        | zero =>
          cases hj
          have : (x :: l).getD i [] = (x :: l)[i] := by rw [List.getD_eq_getElem?_getD, List.getElem?_eq_getElem hi']; rfl
          rw [this]
          have := Rep.str (w := w) (c := c) ⟨((x :: l)[i]).toArray⟩
          simpa using this
        | succ j => simp at hj
theorem cloneD0 {w : World} {c : Cls} {v : Value} {d : List Bs} (h : Rep w c v (.sl 1 (encD d))) (hl : d.length ≤ 1073741824) :
    Calls Tryz.prog 61 #[v] w fun e w' => ∃ v', e = .returned v' ∧ Gr.Ax (w'.ownsRow w.heap.size 9 1 v' d.length (d.map encStr) ∧ Below w.heap.size w w') := by
  obtain ⟨A, cap, rfl, _, hn, hm⟩ := rep_sl h
  rw [encD_len] at hm ⊢
  cases d with
  | nil =>
    cases A with
    | none => exact (Any.slices_Clone_string_nil Tryz.lays16 0 cap w).mono fun e w' ⟨he, hw⟩ => ⟨_, he, ⟨⟨rfl, .inl ⟨rfl, rfl⟩⟩, by subst hw; exact Below.refl _ _⟩⟩
    | some a => exact (Any.slices_Clone_string_zero Tryz.lays16 a cap w).mono fun e w' ⟨v', he, h1, _, h2⟩ => ⟨v', he, ⟨h1, h2⟩⟩
  | cons x l =>
    obtain ⟨g, o, rfl, _, f, hc, _, hr⟩ := hm (by simp)
    refine (Any.slices_Clone_string Tryz.lays16 g o (x :: l).length cap ((x :: l).map fun y => ⟨y.toArray⟩) w (by simp) (by omega) fun j hj => ?_).mono fun e w' ⟨v', he, h1, _, h2⟩ => ⟨v', he, ⟨?_, h2⟩⟩
    · rw [List.length_map] at hj
      have h3 := hc j 0 hj (by decide)
      have h4 := Abs.str_is (hr j 0 _ _ (encD_at (List.getElem?_eq_getElem hj)) rfl)
      rw [h4] at h3
      rw [show o + j = o + (j * 1 + 0) by omega, h3]
      rw [List.getD_eq_getElem?_getD, List.getElem?_map, List.getElem?_eq_getElem hj]; rfl
    · have e : ((List.map (fun y => (⟨y.toArray⟩ : ByteArray)) (x :: l)).take (x :: l).length).map Value.string = (x :: l).map encStr := by
        rw [List.take_of_length_le (by simp), List.map_map]; rfl
      rw [e] at h1
      exact h1
theorem cloneD {w : World} {c : Cls} {v : Value} {d : List Bs} (h : Rep w c v (.sl 1 (encD d))) (hl : d.length ≤ 1073741824) :
    Calls Tryz.prog 61 #[v] w fun e w' => ∃ b n c, e = .returned (.slice b n c) ∧ Gr.Ax (w'.ownsRow w.heap.size 9 1 (.slice b n c) d.length (d.map encStr) ∧ Below w.heap.size w w') :=
  (cloneD0 h hl).mono fun e w' ⟨v', he, hx⟩ => by
    obtain ⟨A, cap, rfl, _⟩ := row_read hx.out.1
    exact ⟨_, _, _, he, hx⟩
/-- A copy of a thing: what is handed back. -/
def OwnP (w : World) (t : Th) (e : Ending) (w' : World) : Prop := ∃ (s : ByteArray) (b1 b2 : Option Addr) (n1 c1 n2 c2 : Nat), e = .returned (.agg #[.string s, .slice b1 n1 c1, .slice b2 n2 c2]) ∧ s.data.toList = t.n ∧ Below w.heap.size w w' ∧
  Rep w' (Kb w.heap.size) (.slice b1 n1 c1) (.sl 8 (encV t.v)) ∧ Rep w' (Kb w.heap.size) (.slice b2 n2 c2) (.sl 1 (encD t.d))
end Go.Proofs.YtffojfcinkihnaaGreatDoor.Th
/- Rows of things in memory of their own; a state without a thing. -/
set_option linter.unusedVariables false
set_option linter.unusedSimpArgs false
set_option linter.unusedSectionVars false
set_option linter.deprecated false
set_option linter.unnecessarySimpa false
namespace Go.Proofs.YtffojfcinkihnaaGreatDoor.Th
open Go.RowKit Go.Lib Go.Proofs.YtffojfcinkihnaaGreatDoor.Abs Go.Proofs.YtffojfcinkihnaaGreatDoor.Lat Go.Proofs.YtffojfcinkihnaaGreatDoor.Lat.Cp Go.Proofs.YtffojfcinkihnaaGreatDoor.Gr
set_option linter.unusedVariables false
def Kx (B : Nat) (v : Value) : Cls := fun b => if b < B ∨ v.ownBlock = some b then .box 0 else .frz
theorem stab_Kx {B b i : Nat} {v : Value} : stab (Kx B v) b i ↔ B ≤ b ∧ v.ownBlock ≠ some b := by
  unfold stab Kx
  by_cases h : b < B ∨ v.ownBlock = some b
  · rw [if_pos h]; simp only [false_iff, not_and, Classical.not_not]; intro h1; rcases h with h | h
    · omega
    · exact h
  · rw [if_neg h]; simp only [not_or, Nat.not_lt] at h; simp only [true_iff]; exact h
/-- A thing in a row. -/
structure At (w : World) (c : Cls) (A : Option Addr) (i : Nat) (t : Th) : Prop where
  ex : ∃ g o s b1 n1 c1 b2 n2 c2, A = some ⟨g, o, none⟩ ∧ s.data.toList = t.n ∧ w.cell? ⟨g, o + i * 3, none⟩ = some (.string s) ∧ w.cell? ⟨g, o + i * 3 + 1, none⟩ = some (.slice b1 n1 c1) ∧ w.cell? ⟨g, o + i * 3 + 2, none⟩ = some (.slice b2 n2 c2) ∧
    Rep w c (.slice b1 n1 c1) (.sl 8 (encV t.v)) ∧ Rep w c (.slice b2 n2 c2) (.sl 1 (encD t.d))
theorem things_at {w : World} {c : Cls} {v : Value} {l : List Th} (h : Rep w c v (.sl 3 (encTs l))) : ∃ A cap, v = .slice A l.length cap ∧ ∀ i t, l[i]? = some t → At w c A i t := by
  obtain ⟨A, cap, rfl, _, _, hm⟩ := rep_sl h
  rw [encTs_len] at hm ⊢
  refine ⟨A, cap, rfl, fun i t hi => ?_⟩
  have hl := (List.getElem?_eq_some_iff.1 hi).1
  obtain ⟨g, o, rfl, _, f, hc, _, hr⟩ := hm (by omega)
  obtain ⟨s, e0, e1⟩ := rep_str (hr i 0 _ _ (encTs_at hi) rfl)
  obtain ⟨A1, cap1, r1, _⟩ := rep_sl (hr i 1 _ _ (encTs_at hi) rfl)
  obtain ⟨A2, cap2, r2, _⟩ := rep_sl (hr i 2 _ _ (encTs_at hi) rfl)
  have h1 := hr i 1 _ _ (encTs_at hi) rfl
  have h2 := hr i 2 _ _ (encTs_at hi) rfl
  rw [r1] at h1
  rw [r2] at h2
  have c0 := hc i 0 hl (by omega)
  have c1 := hc i 1 hl (by omega)
  have c2 := hc i 2 hl (by omega)
  rw [e0] at c0
  rw [r1] at c1
  rw [r2] at c2
  exact ⟨g, o, s, A1, _, cap1, A2, _, cap2, rfl, e1, c0, c1, c2, h1, h2⟩
theorem At.below {w W : World} {c : Cls} {A : Option Addr} {i : Nat} {t : Th} (h : At w c A i t) (hB : Below w.heap.size w W) : At W (fun b => if b < w.heap.size then c b else .frz) A i t := by
  obtain ⟨g, o, s, b1, n1, c1, b2, n2, c2, rfl, h1, h2, h3, h4, h5, h6⟩ := h.ex
  exact ⟨g, o, s, b1, n1, c1, b2, n2, c2, rfl, h1, cell_below hB h2, cell_below hB h3, cell_below hB h4, h5.ext (Cp.ext_cut c hB), h6.ext (Cp.ext_cut c hB)⟩
/-- A row of things of its own: what they hold lies in other blocks, that are never written. -/
structure TRow (w : World) (B : Nat) (v : Value) (l : List Th) : Prop where
  ex : ∃ xs, w.ownsRow B 28 3 v l.length xs ∧ ∀ i t j a, l[i]? = some t → (encTh t)[j]? = some a → ∃ u, xs[i * 3 + j]? = some u ∧ Rep w (Kx B v) u a
theorem rep_grown {w w' : World} {B : Nat} {v v' u : Value} {a : AV} (h : Rep w (Kx B v) u a) (hg : w.grownBy w' v.ownBlock) (hat : v'.ownBlock = v.ownBlock ∨ v'.ownBlock = some w.heap.size) : Rep w' (Kx B v') u a :=
  h.ext (ext0 hg.size hg.os hg.tape hg.output fun b i hb hl => by
    obtain ⟨h1, h2⟩ := stab_Kx.1 hb
    refine ⟨hg.block b hl fun e => h2 e.symm, stab_Kx.2 ⟨h1, fun e => ?_⟩⟩
    rcases hat with q | q
    · exact h2 (q.symm.trans e)
    · rw [q] at e; cases e; omega)
theorem TRow.nil (w : World) (B : Nat) : TRow w B (.slice none 0 0) [] := ⟨[], ⟨rfl, .inl ⟨rfl, rfl⟩⟩, fun i t j a hi => by simp at hi⟩
theorem TRow.below {w w' : World} {B : Nat} {v : Value} {l : List Th} (h : TRow w B v l) (hB : Below w.heap.size w w') : TRow w' B v l := by
  obtain ⟨xs, ⟨h1, h2⟩, h3⟩ := h.ex
  refine ⟨xs, ⟨h1, ?_⟩, fun i t j a hi hj => ?_⟩
  · rcases h2 with h2 | ⟨g, cap, cur, e, h4, h5, h6⟩
    · exact .inl h2
    · exact .inr ⟨g, cap, cur, e, h4, (hB.block g (blk_lt' h5)).trans h5, h6⟩
  · obtain ⟨u, e, hr⟩ := h3 i t j a hi hj
    exact ⟨u, e, rep_grown hr (grown_below _ hB) (.inl rfl)⟩
/-- One more. -/
theorem TRow.snoc {w wn w' : World} {B : Nat} {v v' : Value} {l : List Th} {xs us : List Value} {t : Th}
    (h3 : ∀ i t j a, l[i]? = some t → (encTh t)[j]? = some a → ∃ u, xs[i * 3 + j]? = some u ∧ Rep w (Kx B v) u a) (hxs : xs.length = l.length * 3)
    (hu : ∀ (j : Nat) (a : AV), (encTh t)[j]? = some a → ∃ u : Value, us[j]? = some u ∧ Rep w (Kx B v) u a)
    (hown : w'.ownsRow B 28 3 v' (l.length + 1) (xs ++ us)) (hg : w.grownBy w' v.ownBlock) (hat : v'.ownBlock = v.ownBlock ∨ v'.ownBlock = some w.heap.size) : TRow w' B v' (l ++ [t]) := by
  refine ⟨xs ++ us, by rw [List.length_append]; exact hown, fun i t' j a hi hj => ?_⟩
  have hj3 : j < 3 := by have := (List.getElem?_eq_some_iff.1 hj).1; simpa [encTh] using this
  by_cases h : i < l.length
  · rw [List.getElem?_append_left h] at hi
    obtain ⟨u, e, hr⟩ := h3 i t' j a hi hj
    refine ⟨u, ?_, rep_grown hr hg hat⟩
    rw [List.getElem?_append_left (by rw [hxs]; omega)]; exact e
  · have hil := (List.getElem?_eq_some_iff.1 hi).1
    rw [List.length_append, List.length_singleton] at hil
    obtain rfl : i = l.length := by omega
    rw [List.getElem?_append_right (Nat.le_refl _), Nat.sub_self] at hi
    cases hi
    obtain ⟨u, e, hr⟩ := hu j a hj
    refine ⟨u, ?_, rep_grown hr hg hat⟩
    rw [List.getElem?_append_right (by rw [hxs]; omega), hxs, Nat.add_sub_cancel_left]; exact e
theorem TRow.rep {w : World} {B : Nat} {v : Value} {l : List Th} {c : Cls} (h : TRow w B v l) (hc : ∀ b, B ≤ b → c b = .frz) : Rep w c v (.sl 3 (encTs l)) := by
  have hst : ∀ b i, B ≤ b → stab c b i := fun b i hb => by unfold stab; rw [hc b hb]; trivial
  obtain ⟨xs, ⟨h1, h2⟩, h3⟩ := h.ex
  have hR : ∀ {u a}, Rep w (Kx B v) u a → Rep w c u a := fun hr => hr.ext (ext0 (Nat.le_refl _) rfl rfl rfl fun b i hb _ => ⟨rfl, hst _ _ (stab_Kx.1 hb).1⟩)
  rcases h2 with ⟨rfl, h2⟩ | ⟨g, cap, cur, rfl, h4, h5, h6, h7, h8, h9⟩
  · obtain rfl := List.eq_nil_of_length_eq_zero h2
    exact .nil _
  · have hl := encTs_len l
    rw [← hl]
    have hcell : ∀ i t j a, l[i]? = some t → (encTh t)[j]? = some a → ∃ u, cur[i * 3 + j]? = some u ∧ Rep w c u a := fun i t j a hi hj => by
      obtain ⟨u, e, hr⟩ := h3 i t j a hi hj
      refine ⟨u, ?_, hR hr⟩
      rw [← h9, List.getElem?_take] at e
      split at e
      · simpa using e
      · cases e
    refine Rep.sl g 0 cap 3 _ (fun i j => cur.getD (i * 3 + j) undef) (by omega) (fun i cs hi => ?_) (fun i j hi hj => ?_) (fun i j hi hj => hst _ _ h4) (fun i j cs a hi hj => ?_)
    · rw [encTs, List.getElem?_map] at hi
      cases hx : l[i]? with
      | none => rw [hx] at hi; cases hi
      | some f => rw [hx] at hi; cases hi; rfl
    · rw [cell_of h5, Nat.zero_add]
      have : i * 3 + j < cur.size := by omega
      simp [Array.getD_eq_getD_getElem?, this]
    · rw [encTs, List.getElem?_map] at hi
      cases hx : l[i]? with
      | none => rw [hx] at hi; cases hi
      | some t =>
        rw [hx] at hi; cases hi
        obtain ⟨u, e, hr⟩ := hcell i t j a hx hj
        show Rep w c (cur.getD (i * 3 + j) undef) a
        simp only [Array.getD_eq_getD_getElem?, e, Option.getD_some]; exact hr
theorem info28 : (Tryz.prog.info? 28).map (fun i => (i.zero, i.size, i.bytes)) = some (some (.agg #[.string ⟨#[]⟩, .slice none 0 0, .slice none 0 0]), 3, 64) := by kernel_rfl
def TsOK (l : List Th) : Prop := l.length ≤ 1073741824 ∧ ∀ t ∈ l, szV t.v ≤ 1073741824 ∧ t.d.length ≤ 1073741824
def dropT (l : List Th) (s : Bs) : List Th := l.filter fun t => decide (t.n ≠ s)
theorem dropT_len (l : List Th) (s : Bs) : (dropT l s).length ≤ l.length := List.length_filter_le _ _
theorem dropT_snoc {l : List Th} {s : Bs} {i : Nat} {t : Th} (h : l[i]? = some t) : dropT (l.take (i + 1)) s = if t.n ≠ s then dropT (l.take i) s ++ [t] else dropT (l.take i) s := by
  have e : l.take (i + 1) = l.take i ++ [t] := by rw [List.take_add_one, h]; rfl
  rw [e, dropT, List.filter_append]
  by_cases hn : t.n = s
  · rw [if_neg (by simpa using hn)]; simp [dropT, hn]
  · rw [if_pos hn]; simp [dropT, hn]
theorem cells_three (w : World) (x y z : Value) (t : TypeId) : ∀ (j : Nat) (u : Value), [x, y, z][j]? = some u → (w.alloc (.cells #[x, y, z] t)).cell? ((⟨w.heap.size, 0, none⟩ : Addr).add j) = some u := fun j u hu => by
  rw [add_none, cell_of (heap_alloc_new w _), Nat.zero_add]
  simpa using hu
/-- What Drop has so far. -/
structure DropI (w : World) (l : List Th) (s : Bs) (i : Nat) (v : Value) (W : World) : Prop where
  row : TRow W w.heap.size v (dropT (l.take i) s)
  bel : Below w.heap.size w W
end Go.Proofs.YtffojfcinkihnaaGreatDoor.Th
