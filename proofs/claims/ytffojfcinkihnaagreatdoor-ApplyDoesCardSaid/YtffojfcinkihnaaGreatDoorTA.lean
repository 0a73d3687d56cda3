/- Several texts of mine in one (merge.py). -/
import Derived.Test.YtffojfcinkihnaaGreatDoorZs
import Derived.Maps.AppendAt
import Derived.Deep.RegionHeld3
set_option linter.unusedVariables false
set_option linter.unusedSimpArgs false
set_option linter.unusedSectionVars false
set_option linter.deprecated false
set_option linter.unnecessarySimpa false
/- Things in memory of their own: a copy of one. -/
namespace Go.Proofs.YtffojfcinkihnaaGreatDoor.Th
open Go.RowKit Go.Lib Go.Proofs.YtffojfcinkihnaaGreatDoor.Abs Go.Proofs.YtffojfcinkihnaaGreatDoor.Lat Go.Proofs.YtffojfcinkihnaaGreatDoor.Lat.Cp Go.Proofs.YtffojfcinkihnaaGreatDoor.Gr
/-- What lies from B on is never written. -/
def Kb (B : Nat) : Cls := fun b => if b < B then .box 0 else .frz
/-- .. but for one block. -/
def Kc (B g : Nat) : Cls := fun b => if b < B ∨ b = g then .box 0 else .frz
theorem stab_Kb {B b i : Nat} : stab (Kb B) b i ↔ B ≤ b := by
  unfold stab Kb
  by_cases h : b < B
  · rw [if_pos h]; simp; omega
  · rw [if_neg h]; simp; omega
theorem ext0 {w w' : World} {c c' : Cls} (hs : w.heap.size ≤ w'.heap.size) (ho : w'.os = w.os) (ht : w'.tape = w.tape) (hp : w'.output = w.output) (h : ∀ b i, stab c b i → b < w.heap.size → w'.heap[b]? = w.heap[b]? ∧ stab c' b i) : Ext 0 w c w' c' :=
  ⟨ho, ht, hp, hs, fun b hb => absurd hb (Nat.not_lt_zero b), fun b i v hv hb => by
    obtain ⟨h1, h2⟩ := h b i hb (World.block_lt_of_cell? w _ hv)
    exact ⟨(cell_heap h1).trans hv, h2⟩⟩
theorem row_rep {w : World} {B : Nat} {v : Value} {d : List Bs} {c : Cls} (hc : ∀ b, B ≤ b → c b = .frz) (h : w.ownsRow B 9 1 v d.length (d.map encStr)) : Rep w c v (.sl 1 (encD d)) := by
  obtain ⟨A, cap, rfl, hA⟩ := row_read h
  cases d with
  | nil =>
    obtain ⟨_, ⟨e, _⟩ | ⟨g, cap', cur, e, _⟩⟩ := h
    · cases e; exact .nil _
    · cases e; exact .emp _ _ _
  | cons x l =>
    obtain ⟨_, ⟨e, _⟩ | ⟨g, cap', cur, e, hB, hb, h5, h6, h7, h8⟩⟩ := h
    · cases e
    · cases e
      have hl : (encD (x :: l)).length = (x :: l).length := encD_len _
      rw [← hl]
      refine Rep.sl g 0 cap 1 _ (fun i j => .string ⟨((x :: l).getD i []).toArray⟩) (by rw [hl]; exact h5) (fun i cs hi => ?_) (fun i j hi hj => ?_) (fun i j hi hj => ?_) (fun i j cs a hi hj => ?_)
      · rw [encD, List.getElem?_map] at hi
        cases hx : (x :: l)[i]? with
        | none => rw [hx] at hi; cases hi
        | some f => rw [hx] at hi; cases hi; rfl
      · rw [hl] at hi
        obtain rfl : j = 0 := by omega
        obtain ⟨g', e, _, _, h9⟩ := hA i _ (List.getElem?_eq_getElem hi)
        cases e
        rw [Nat.zero_add, Nat.mul_one, Nat.add_zero, h9]
        simp [List.getD_eq_getElem?_getD, List.getElem?_eq_getElem hi]
      · unfold stab; rw [hc g hB]; trivial
      · have hi' := (List.getElem?_eq_some_iff.1 hi).1
        rw [hl] at hi'
        rw [encD, List.getElem?_map, List.getElem?_eq_getElem hi'] at hi
        cases hi
        cases j with
        | zero =>
          cases hj
          have : (x :: l).getD i [] = (x :: l)[i] := by rw [List.getD_eq_getElem?_getD, List.getElem?_eq_getElem hi']; rfl
          rw [this]
          have := Rep.str (w := w) (c := c) ⟨((x :: l)[i]).toArray⟩
          simpa using this
        | succ j => simp at hj
theorem cloneD0 {w : World} {c : Cls} {v : Value} {d : List Bs} (h : Rep w c v (.sl 1 (encD d))) (hl : d.length ≤ 1073741824) :
    Calls Tryz.prog 61 #[v] w fun e w' => ∃ v', e = .returned v' ∧ Gr.Ax (w'.ownsRow w.heap.size 9 1 v' d.length (d.map encStr) ∧ Below w.heap.size w w') := by
  obtain ⟨A, cap, rfl, _, hn, hm⟩ := rep_sl h
  rw [encD_len] at hm ⊢
  cases d with
  | nil =>
    cases A with
    | none => exact (Any.slices_Clone_string_nil Tryz.lays16 0 cap w).mono fun e w' ⟨he, hw⟩ => ⟨_, he, ⟨⟨rfl, .inl ⟨rfl, rfl⟩⟩, by subst hw; exact Below.refl _ _⟩⟩
    | some a => exact (Any.slices_Clone_string_zero Tryz.lays16 a cap w).mono fun e w' ⟨v', he, h1, _, h2⟩ => ⟨v', he, ⟨h1, h2⟩⟩
  | cons x l =>
    obtain ⟨g, o, rfl, _, f, hc, _, hr⟩ := hm (by simp)
    refine (Any.slices_Clone_string Tryz.lays16 g o (x :: l).length cap ((x :: l).map fun y => ⟨y.toArray⟩) w (by simp) (by omega) fun j hj => ?_).mono fun e w' ⟨v', he, h1, _, h2⟩ => ⟨v', he, ⟨?_, h2⟩⟩
    · rw [List.length_map] at hj
      have h3 := hc j 0 hj (by decide)
      have h4 := Abs.str_is (hr j 0 _ _ (encD_at (List.getElem?_eq_getElem hj)) rfl)
      rw [h4] at h3
      rw [show o + j = o + (j * 1 + 0) by omega, h3]
      rw [List.getD_eq_getElem?_getD, List.getElem?_map, List.getElem?_eq_getElem hj]; rfl
    · have e : ((List.map (fun y => (⟨y.toArray⟩ : ByteArray)) (x :: l)).take (x :: l).length).map Value.string = (x :: l).map encStr := by
        rw [List.take_of_length_le (by simp), List.map_map]; rfl
      rw [e] at h1
      exact h1
theorem cloneD {w : World} {c : Cls} {v : Value} {d : List Bs} (h : Rep w c v (.sl 1 (encD d))) (hl : d.length ≤ 1073741824) :
    Calls Tryz.prog 61 #[v] w fun e w' => ∃ b n c, e = .returned (.slice b n c) ∧ Gr.Ax (w'.ownsRow w.heap.size 9 1 (.slice b n c) d.length (d.map encStr) ∧ Below w.heap.size w w') :=
  (cloneD0 h hl).mono fun e w' ⟨v', he, hx⟩ => by
    obtain ⟨A, cap, rfl, _⟩ := row_read hx.out.1
    exact ⟨_, _, _, he, hx⟩
/-- A copy of a thing: what is handed back. -/
def OwnP (w : World) (t : Th) (e : Ending) (w' : World) : Prop := ∃ (s : ByteArray) (b1 b2 : Option Addr) (n1 c1 n2 c2 : Nat), e = .returned (.agg #[.string s, .slice b1 n1 c1, .slice b2 n2 c2]) ∧ s.data.toList = t.n ∧ Below w.heap.size w w' ∧
  Rep w' (Kb w.heap.size) (.slice b1 n1 c1) (.sl 8 (encV t.v)) ∧ Rep w' (Kb w.heap.size) (.slice b2 n2 c2) (.sl 1 (encD t.d))
theorem own_any (w : World) (c : Cls) (t : Th) (s : ByteArray) (b1 b2 : Option Addr) (n1 c1 n2 c2 : Nat) (hs : s.data.toList = t.n) (h1 : Rep w c (.slice b1 n1 c1) (.sl 8 (encV t.v))) (h2 : Rep w c (.slice b2 n2 c2) (.sl 1 (encD t.d)))
    (hv : szV t.v ≤ 1073741824) (hd : t.d.length ≤ 1073741824) : Calls Tryz.prog 31 #[.agg #[.string s, .slice b1 n1 c1, .slice b2 n2 c2]] w (OwnP w t) := by
  have CC := Lib.hid fun W (hB : Below w.heap.size w W) => copy_any 1073741824 (by decide) t.v (.slice b1 n1 c1) W _ hv (h1.ext (Cp.ext_cut c hB))
  have CD := Lib.hid fun W (hB : Below w.heap.size w W) => cloneD (h2.ext (Cp.ext_cut c hB)) hd
  clear h1 h2
  go_enter Tryz.func31, Tryz.ntmps31
  go_wp2_with fail
  have hA : Below w.heap.size w ((w.alloc (.cells #[.string s, .slice b1 n1 c1, .slice b2 n2 c2] 28)).alloc (.cells #[.string ⟨#[]⟩, .slice none 0 0, .slice none 0 0] 28)) := ((Below.refl _ w).alloc (Nat.le_refl _) _).alloc (by simp) _
  have hAs : ((w.alloc (.cells #[.string s, .slice b1 n1 c1, .slice b2 n2 c2] 28)).alloc (.cells #[.string ⟨#[]⟩, .slice none 0 0, .slice none 0 0] 28)).heap.size = w.heap.size + 2 := by simp
  have hA0 : ((w.alloc (.cells #[.string s, .slice b1 n1 c1, .slice b2 n2 c2] 28)).alloc (.cells #[.string ⟨#[]⟩, .slice none 0 0, .slice none 0 0] 28)).heap[w.heap.size]? = some (.cells #[.string s, .slice b1 n1 c1, .slice b2 n2 c2] 28 (0, 0)) := by
    rw [heap_alloc_old]
    · exact heap_alloc_new w _
    · simp
  have hA1 : ((w.alloc (.cells #[.string s, .slice b1 n1 c1, .slice b2 n2 c2] 28)).alloc (.cells #[.string ⟨#[]⟩, .slice none 0 0, .slice none 0 0] 28)).heap[w.heap.size + 1]? = some (.cells #[.string ⟨#[]⟩, .slice none 0 0, .slice none 0 0] 28 (0, 0)) := by
    have := heap_alloc_new (w.alloc (Obj.cells #[.string s, .slice b1 n1 c1, .slice b2 n2 c2] 28)) (.cells #[.string ⟨#[]⟩, .slice none 0 0, .slice none 0 0] 28)
    simpa using this
  generalize ((w.alloc (.cells #[.string s, .slice b1 n1 c1, .slice b2 n2 c2] 28)).alloc (.cells #[.string ⟨#[]⟩, .slice none 0 0, .slice none 0 0] 28)) = wA at *
  have K : ∀ W : World, Below wA.heap.size wA W → W.cell? ⟨w.heap.size, 0, none⟩ = some (.string s) ∧ W.cell? ⟨w.heap.size, 1, none⟩ = some (.slice b1 n1 c1) ∧ W.cell? ⟨w.heap.size, 2, none⟩ = some (.slice b2 n2 c2) := fun W hB => by
    have e0 := (hB.block _ (by omega)).trans hA0
    exact ⟨by rw [cell_of e0]; rfl, by rw [cell_of e0]; rfl, by rw [cell_of e0]; rfl⟩
  obtain ⟨q0, q1, q2⟩ := K wA (Below.refl _ _)
  have K := Lib.hid K
  have K1 := Lib.hid fun (W : World) (hB : Below wA.heap.size wA W) => (hB.block (w.heap.size + 1) (by omega)).trans hA1
  have K2 := Lib.hid (show ∀ W : World, Below wA.heap.size wA W → W.cell? ⟨w.heap.size + 1, 0, none⟩ = some (.string ⟨#[]⟩) ∧ W.cell? ⟨w.heap.size + 1, 1, none⟩ = some (.slice none 0 0) ∧ W.cell? ⟨w.heap.size + 1, 2, none⟩ = some (.slice none 0 0) ∧
      W.frozen? ⟨w.heap.size + 1, 0, none⟩ = false ∧ W.frozen? ⟨w.heap.size + 1, 1, none⟩ = false ∧ W.frozen? ⟨w.heap.size + 1, 2, none⟩ = false from fun W hB => by
    have e0 := K1.out W hB
    exact ⟨by rw [cell_of e0]; rfl, by rw [cell_of e0]; rfl, by rw [cell_of e0]; rfl, frozen_of_row W _ 0 _ _ e0, frozen_of_row W _ 1 _ _ e0, frozen_of_row W _ 2 _ _ e0⟩)
  have hA := Lib.hid hA
  have hAs := Lib.hid hAs
  have bd := Lib.hid (show Below wA.heap.size wA wA.drew from (Below.refl _ wA).drew)
  clear hA0 hA1
  go_region_held3 (fun W => W.cell? ⟨w.heap.size, 0, none⟩ = some (.string s) ∧ W.cell? ⟨w.heap.size, 1, none⟩ = some (.slice b1 n1 c1) ∧ W.cell? ⟨w.heap.size, 2, none⟩ = some (.slice b2 n2 c2)) (go_keep)
    (first
      | (go_at_call 60; refine (CC.out _ (below_up hA.out bd.out)).mono ?_; rintro e w1 ⟨v1, fp, rfl, hB1, hO, hnd⟩; obtain ⟨bo, no, co, rfl⟩ := ov_slice hO; obtain ⟨p0, p1, p2⟩ := K.out w1 (below_up bd.out hB1))
      | (go_at_call 61; refine (CD.out _ (below_up hA.out (below_up bd.out hB1))).mono ?_; rintro e w2 ⟨bo2, no2, co2, rfl, hx⟩; obtain ⟨r0, r1, r2⟩ := K.out w2 (below_up (below_up bd.out hB1) hx.out.2); obtain ⟨g0, g1, g2, z0, z1, z2⟩ := K2.out w2 (below_up (below_up bd.out hB1) hx.out.2)))
  have hB2 : Below w1.heap.size w1 w2 := hx.out.2
  have hBw : Below wA.heap.size wA w2 := below_up (below_up bd.out hB1) hB2
  have m1 := heap_setCell_same w2 (w.heap.size + 1) 0 _ _ (.string s) (K1.out w2 hBw)
  have m2 := heap_setCell_same _ (w.heap.size + 1) 1 _ _ (.slice bo no co) m1
  have m3 := Lib.hid (heap_setCell_same _ (w.heap.size + 1) 2 _ _ (.slice bo2 no2 co2) m2)
  have hZ := Lib.hid (below_put (below_put (below_put (below_up hA.out hBw) (show w.heap.size ≤ w.heap.size + 1 by omega) (i := 0) (.string s)) (show w.heap.size ≤ w.heap.size + 1 by omega) (i := 1) (.slice bo no co)) (show w.heap.size ≤ w.heap.size + 1 by omega) (i := 2) (.slice bo2 no2 co2))
  have hE : ∀ b, b ≠ w.heap.size + 1 → (((w2.setCell ⟨w.heap.size + 1, 0, none⟩ (.string s)).setCell ⟨w.heap.size + 1, 1, none⟩ (.slice bo no co)).setCell ⟨w.heap.size + 1, 2, none⟩ (.slice bo2 no2 co2)).heap[b]? = w2.heap[b]? := fun b hb => by
    rw [Below.heap_setCell _ _ _ b hb, Below.heap_setCell _ _ _ b hb, Below.heap_setCell _ _ _ b hb]
  have hE := Lib.hid hE
  have hSz : w2.heap.size ≤ (((w2.setCell ⟨w.heap.size + 1, 0, none⟩ (.string s)).setCell ⟨w.heap.size + 1, 1, none⟩ (.slice bo no co)).setCell ⟨w.heap.size + 1, 2, none⟩ (.slice bo2 no2 co2)).heap.size := by
    simp
  have hSz := Lib.hid hSz
  clear m1 m2 g0 g1 g2 z0 z1 z2 r0 r1 r2 p0 p1 p2 q0 q1 q2
  generalize (((w2.setCell ⟨w.heap.size + 1, 0, none⟩ (.string s)).setCell ⟨w.heap.size + 1, 1, none⟩ (.slice bo no co)).setCell ⟨w.heap.size + 1, 2, none⟩ (.slice bo2 no2 co2)) = wZ at *
  go_wp2_with fail
  refine bodyPost_ret (results_cell_row (g := w.heap.size + 1) (cs := #[.string s, .slice bo no co, .slice bo2 no2 co2]) (fr := (0, 0)) rfl _ _ _ _ rfl m3.out Tryz.underlying28 rfl (by kernel_rfl)) rfl ?_
  have hs1 : wA.heap.size ≤ w1.heap.size := hB1.size
  have hAs := hAs.out
  refine ⟨s, bo, bo2, no, co, no2, co2, rfl, hs, hZ.out, ?_, ?_⟩
  · refine (hO.rep (c := Kb wA.heap.size) (fun b hb => by unfold Kb; rw [if_neg (by have : wA.heap.size ≤ b := hb; omega)])).ext (ext0 (Nat.le_trans hB2.size hSz.out) ?_ ?_ ?_ fun b i hb hl => ?_)
    · rw [hZ.out.os, ← hA.out.os]; exact hB1.os.symm
    · rw [hZ.out.tape, ← hA.out.tape]; exact hB1.tape.symm
    · rw [hZ.out.output, ← hA.out.output]; exact hB1.output.symm
    · have := stab_Kb.1 hb
      exact ⟨(hE.out b (by omega)).trans (hB2.block b hl), stab_Kb.2 (by omega)⟩
  · refine (row_rep (c := Kb w1.heap.size) (fun b hb => by unfold Kb; rw [if_neg (by omega)]) hx.out.1).ext (ext0 hSz.out ?_ ?_ ?_ fun b i hb hl => ?_)
    · rw [hZ.out.os, ← hA.out.os, ← hBw.os]
    · rw [hZ.out.tape, ← hA.out.tape, ← hBw.tape]
    · rw [hZ.out.output, ← hA.out.output, ← hBw.output]
    · have := stab_Kb.1 hb
      exact ⟨hE.out b (by omega), stab_Kb.2 (by omega)⟩
end Go.Proofs.YtffojfcinkihnaaGreatDoor.Th
/- Rows of things in memory of their own; a state without a thing. -/
namespace Go.Proofs.YtffojfcinkihnaaGreatDoor.Th
open Go.RowKit Go.Lib Go.Proofs.YtffojfcinkihnaaGreatDoor.Abs Go.Proofs.YtffojfcinkihnaaGreatDoor.Lat Go.Proofs.YtffojfcinkihnaaGreatDoor.Lat.Cp Go.Proofs.YtffojfcinkihnaaGreatDoor.Gr
def Kx (B : Nat) (v : Value) : Cls := fun b => if b < B ∨ v.ownBlock = some b then .box 0 else .frz
theorem stab_Kx {B b i : Nat} {v : Value} : stab (Kx B v) b i ↔ B ≤ b ∧ v.ownBlock ≠ some b := by
  unfold stab Kx
  by_cases h : b < B ∨ v.ownBlock = some b
  · rw [if_pos h]; simp only [false_iff, not_and, Classical.not_not]; intro h1; rcases h with h | h
    · omega
    · exact h
  · rw [if_neg h]; simp only [not_or, Nat.not_lt] at h; simp only [true_iff]; exact h
/-- A thing in a row. -/
structure At (w : World) (c : Cls) (A : Option Addr) (i : Nat) (t : Th) : Prop where
  ex : ∃ g o s b1 n1 c1 b2 n2 c2, A = some ⟨g, o, none⟩ ∧ s.data.toList = t.n ∧ w.cell? ⟨g, o + i * 3, none⟩ = some (.string s) ∧ w.cell? ⟨g, o + i * 3 + 1, none⟩ = some (.slice b1 n1 c1) ∧ w.cell? ⟨g, o + i * 3 + 2, none⟩ = some (.slice b2 n2 c2) ∧
    Rep w c (.slice b1 n1 c1) (.sl 8 (encV t.v)) ∧ Rep w c (.slice b2 n2 c2) (.sl 1 (encD t.d))
theorem things_at {w : World} {c : Cls} {v : Value} {l : List Th} (h : Rep w c v (.sl 3 (encTs l))) : ∃ A cap, v = .slice A l.length cap ∧ ∀ i t, l[i]? = some t → At w c A i t := by
  obtain ⟨A, cap, rfl, _, _, hm⟩ := rep_sl h
  rw [encTs_len] at hm ⊢
  refine ⟨A, cap, rfl, fun i t hi => ?_⟩
  have hl := (List.getElem?_eq_some_iff.1 hi).1
  obtain ⟨g, o, rfl, _, f, hc, _, hr⟩ := hm (by omega)
  obtain ⟨s, e0, e1⟩ := rep_str (hr i 0 _ _ (encTs_at hi) rfl)
  obtain ⟨A1, cap1, r1, _⟩ := rep_sl (hr i 1 _ _ (encTs_at hi) rfl)
  obtain ⟨A2, cap2, r2, _⟩ := rep_sl (hr i 2 _ _ (encTs_at hi) rfl)
  have h1 := hr i 1 _ _ (encTs_at hi) rfl
  have h2 := hr i 2 _ _ (encTs_at hi) rfl
  rw [r1] at h1
  rw [r2] at h2
  have c0 := hc i 0 hl (by omega)
  have c1 := hc i 1 hl (by omega)
  have c2 := hc i 2 hl (by omega)
  rw [e0] at c0
  rw [r1] at c1
  rw [r2] at c2
  exact ⟨g, o, s, A1, _, cap1, A2, _, cap2, rfl, e1, c0, c1, c2, h1, h2⟩
theorem At.below {w W : World} {c : Cls} {A : Option Addr} {i : Nat} {t : Th} (h : At w c A i t) (hB : Below w.heap.size w W) : At W (fun b => if b < w.heap.size then c b else .frz) A i t := by
  obtain ⟨g, o, s, b1, n1, c1, b2, n2, c2, rfl, h1, h2, h3, h4, h5, h6⟩ := h.ex
  exact ⟨g, o, s, b1, n1, c1, b2, n2, c2, rfl, h1, cell_below hB h2, cell_below hB h3, cell_below hB h4, h5.ext (Cp.ext_cut c hB), h6.ext (Cp.ext_cut c hB)⟩
/-- A row of things of its own: what they hold lies in other blocks, that are never written. -/
structure TRow (w : World) (B : Nat) (v : Value) (l : List Th) : Prop where
  ex : ∃ xs, w.ownsRow B 28 3 v l.length xs ∧ ∀ i t j a, l[i]? = some t → (encTh t)[j]? = some a → ∃ u, xs[i * 3 + j]? = some u ∧ Rep w (Kx B v) u a
theorem rep_grown {w w' : World} {B : Nat} {v v' u : Value} {a : AV} (h : Rep w (Kx B v) u a) (hg : w.grownBy w' v.ownBlock) (hat : v'.ownBlock = v.ownBlock ∨ v'.ownBlock = some w.heap.size) : Rep w' (Kx B v') u a :=
  h.ext (ext0 hg.size hg.os hg.tape hg.output fun b i hb hl => by
    obtain ⟨h1, h2⟩ := stab_Kx.1 hb
    refine ⟨hg.block b hl fun e => h2 e.symm, stab_Kx.2 ⟨h1, fun e => ?_⟩⟩
    rcases hat with q | q
    · exact h2 (q.symm.trans e)
    · rw [q] at e; cases e; omega)
theorem rep_Kb {w : World} {B B' : Nat} {v u : Value} {a : AV} (h : Rep w (Kb B') u a) (hB : B ≤ B') (hv : ∀ g, v.ownBlock = some g → g < B') : Rep w (Kx B v) u a :=
  h.ext (ext0 (Nat.le_refl _) rfl rfl rfl fun b i hb hl => ⟨rfl, stab_Kx.2 ⟨by have := stab_Kb.1 hb; omega, fun e => by have := stab_Kb.1 hb; have := hv b e; omega⟩⟩)
theorem trow_shape {w : World} {B : Nat} {v : Value} {l : List Th} (h : TRow w B v l) : ∃ A cap, v = .slice A l.length cap := by
  obtain ⟨xs, ⟨h1, ⟨rfl, h2⟩ | ⟨g, cap, cur, rfl, _⟩⟩, _⟩ := h.ex
  · exact ⟨none, 0, by rw [h2]⟩
  · exact ⟨_, _, rfl⟩
theorem trow_blk {w : World} {B : Nat} {v : Value} {l : List Th} (h : TRow w B v l) : ∀ g, v.ownBlock = some g → B ≤ g ∧ g < w.heap.size := fun g e => by
  obtain ⟨xs, ⟨h1, ⟨rfl, h2⟩ | ⟨g', cap, cur, rfl, h3, h4, _⟩⟩, _⟩ := h.ex
  · cases e
  · cases e; exact ⟨h3, blk_lt' h4⟩
theorem TRow.nil (w : World) (B : Nat) : TRow w B (.slice none 0 0) [] := ⟨[], ⟨rfl, .inl ⟨rfl, rfl⟩⟩, fun i t j a hi => by simp at hi⟩
theorem TRow.below {w w' : World} {B : Nat} {v : Value} {l : List Th} (h : TRow w B v l) (hB : Below w.heap.size w w') : TRow w' B v l := by
  obtain ⟨xs, ⟨h1, h2⟩, h3⟩ := h.ex
  refine ⟨xs, ⟨h1, ?_⟩, fun i t j a hi hj => ?_⟩
  · rcases h2 with h2 | ⟨g, cap, cur, e, h4, h5, h6⟩
    · exact .inl h2
    · exact .inr ⟨g, cap, cur, e, h4, (hB.block g (blk_lt' h5)).trans h5, h6⟩
  · obtain ⟨u, e, hr⟩ := h3 i t j a hi hj
    exact ⟨u, e, rep_grown hr (grown_below _ hB) (.inl rfl)⟩
/-- One more. -/
theorem TRow.snoc {w wn w' : World} {B : Nat} {v v' : Value} {l : List Th} {xs us : List Value} {t : Th}
    (h3 : ∀ i t j a, l[i]? = some t → (encTh t)[j]? = some a → ∃ u, xs[i * 3 + j]? = some u ∧ Rep w (Kx B v) u a) (hxs : xs.length = l.length * 3)
    (hu : ∀ (j : Nat) (a : AV), (encTh t)[j]? = some a → ∃ u : Value, us[j]? = some u ∧ Rep w (Kx B v) u a)
    (hown : w'.ownsRow B 28 3 v' (l.length + 1) (xs ++ us)) (hg : w.grownBy w' v.ownBlock) (hat : v'.ownBlock = v.ownBlock ∨ v'.ownBlock = some w.heap.size) : TRow w' B v' (l ++ [t]) := by
  refine ⟨xs ++ us, by rw [List.length_append]; exact hown, fun i t' j a hi hj => ?_⟩
  have hj3 : j < 3 := by have := (List.getElem?_eq_some_iff.1 hj).1; simpa [encTh] using this
  by_cases h : i < l.length
  · rw [List.getElem?_append_left h] at hi
    obtain ⟨u, e, hr⟩ := h3 i t' j a hi hj
    refine ⟨u, ?_, rep_grown hr hg hat⟩
    rw [List.getElem?_append_left (by rw [hxs]; omega)]; exact e
  · have hil := (List.getElem?_eq_some_iff.1 hi).1
    rw [List.length_append, List.length_singleton] at hil
    obtain rfl : i = l.length := by omega
    rw [List.getElem?_append_right (Nat.le_refl _), Nat.sub_self] at hi
    cases hi
    obtain ⟨u, e, hr⟩ := hu j a hj
    refine ⟨u, ?_, rep_grown hr hg hat⟩
    rw [List.getElem?_append_right (by rw [hxs]; omega), hxs, Nat.add_sub_cancel_left]; exact e
theorem TRow.rep {w : World} {B : Nat} {v : Value} {l : List Th} {c : Cls} (h : TRow w B v l) (hc : ∀ b, B ≤ b → c b = .frz) : Rep w c v (.sl 3 (encTs l)) := by
  have hst : ∀ b i, B ≤ b → stab c b i := fun b i hb => by unfold stab; rw [hc b hb]; trivial
  obtain ⟨xs, ⟨h1, h2⟩, h3⟩ := h.ex
  have hR : ∀ {u a}, Rep w (Kx B v) u a → Rep w c u a := fun hr => hr.ext (ext0 (Nat.le_refl _) rfl rfl rfl fun b i hb _ => ⟨rfl, hst _ _ (stab_Kx.1 hb).1⟩)
  rcases h2 with ⟨rfl, h2⟩ | ⟨g, cap, cur, rfl, h4, h5, h6, h7, h8, h9⟩
  · obtain rfl := List.eq_nil_of_length_eq_zero h2
    exact .nil _
  · have hl := encTs_len l
    rw [← hl]
    have hcell : ∀ i t j a, l[i]? = some t → (encTh t)[j]? = some a → ∃ u, cur[i * 3 + j]? = some u ∧ Rep w c u a := fun i t j a hi hj => by
      obtain ⟨u, e, hr⟩ := h3 i t j a hi hj
      refine ⟨u, ?_, hR hr⟩
      rw [← h9, List.getElem?_take] at e
      split at e
      · simpa using e
      · cases e
    refine Rep.sl g 0 cap 3 _ (fun i j => cur.getD (i * 3 + j) undef) (by omega) (fun i cs hi => ?_) (fun i j hi hj => ?_) (fun i j hi hj => hst _ _ h4) (fun i j cs a hi hj => ?_)
    · rw [encTs, List.getElem?_map] at hi
      cases hx : l[i]? with
      | none => rw [hx] at hi; cases hi
      | some f => rw [hx] at hi; cases hi; rfl
    · rw [cell_of h5, Nat.zero_add]
      have : i * 3 + j < cur.size := by omega
      simp [Array.getD_eq_getD_getElem?, this]
    · rw [encTs, List.getElem?_map] at hi
      cases hx : l[i]? with
      | none => rw [hx] at hi; cases hi
      | some t =>
        rw [hx] at hi; cases hi
        obtain ⟨u, e, hr⟩ := hcell i t j a hx hj
        show Rep w c (cur.getD (i * 3 + j) undef) a
        simp only [Array.getD_eq_getD_getElem?, e, Option.getD_some]; exact hr
theorem info28 : (Tryz.prog.info? 28).map (fun i => (i.zero, i.size, i.bytes)) = some (some (.agg #[.string ⟨#[]⟩, .slice none 0 0, .slice none 0 0]), 3, 64) := by kernel_rfl
def TsOK (l : List Th) : Prop := l.length ≤ 1073741824 ∧ ∀ t ∈ l, szV t.v ≤ 1073741824 ∧ t.d.length ≤ 1073741824
def dropT (l : List Th) (s : Bs) : List Th := l.filter fun t => decide (t.n ≠ s)
theorem dropT_len (l : List Th) (s : Bs) : (dropT l s).length ≤ l.length := List.length_filter_le _ _
theorem dropT_snoc {l : List Th} {s : Bs} {i : Nat} {t : Th} (h : l[i]? = some t) : dropT (l.take (i + 1)) s = if t.n ≠ s then dropT (l.take i) s ++ [t] else dropT (l.take i) s := by
  have e : l.take (i + 1) = l.take i ++ [t] := by rw [List.take_add_one, h]; rfl
  rw [e, dropT, List.filter_append]
  by_cases hn : t.n = s
  · rw [if_neg (by simpa using hn)]; simp [dropT, hn]
  · rw [if_pos hn]; simp [dropT, hn]
theorem cells_three (w : World) (x y z : Value) (t : TypeId) : ∀ (j : Nat) (u : Value), [x, y, z][j]? = some u → (w.alloc (.cells #[x, y, z] t)).cell? ((⟨w.heap.size, 0, none⟩ : Addr).add j) = some u := fun j u hu => by
  rw [add_none, cell_of (heap_alloc_new w _), Nat.zero_add]
  simpa using hu
/-- What Drop has so far. -/
structure DropI (w : World) (l : List Th) (s : Bs) (i : Nat) (v : Value) (W : World) : Prop where
  row : TRow W w.heap.size v (dropT (l.take i) s)
  bel : Below w.heap.size w W
theorem drop_next {w W w1 w3 : World} {l : List Th} {ss s' : ByteArray} {i : Nat} {t : Th} {v v' : Value} {b1 b2 : Option Addr} {n1 c1 n2 c2 : Nat} {xs : List Value} {B' : Nat} {cs : Array Value} {ty : TypeId} (h : DropI w l ss.data.toList i v W) (hi : l[i]? = some t) (hne : t.n ≠ ss.data.toList)
    (hs : s'.data.toList = t.n) (hB1 : Below W.heap.size W w1) (hle : W.heap.size ≤ B') (hr1 : Rep w1 (Kb B') (.slice b1 n1 c1) (.sl 8 (encV t.v))) (hr2 : Rep w1 (Kb B') (.slice b2 n2 c2) (.sl 1 (encD t.d)))
    (hrow : (w1.alloc (.cells cs ty)).ownsRow w.heap.size 28 3 v (dropT (l.take i) ss.data.toList).length xs)
    (hxs : ∀ (i' : Nat) (t' : Th) (j : Nat) (a : AV), (dropT (l.take i) ss.data.toList)[i']? = some t' → (encTh t')[j]? = some a → ∃ u, xs[i' * 3 + j]? = some u ∧ Rep w1 (Kx w.heap.size v) u a)
    (hown : w3.ownsRow w.heap.size 28 3 v' ((dropT (l.take i) ss.data.toList).length + 1) (xs ++ [.string s', .slice b1 n1 c1, .slice b2 n2 c2])) (hg : (w1.alloc (.cells cs ty)).grownBy w3 v.ownBlock) (hat : v'.ownBlock = v.ownBlock ∨ v'.ownBlock = some (w1.alloc (.cells cs ty)).heap.size) :
    DropI w l ss.data.toList (i + 1) v' w3 := by
  have hal : Below w1.heap.size w1 (w1.alloc (.cells cs ty)) := (Below.refl _ w1).alloc (Nat.le_refl _) _
  have hblk := trow_blk h.row
  have hWle := h.bel.size
  refine ⟨?_, ?_⟩
  · rw [dropT_snoc hi, if_pos hne]
    refine TRow.snoc (w := w1.alloc (.cells cs ty)) (xs := xs) (us := [.string s', .slice b1 n1 c1, .slice b2 n2 c2]) (wn := w1) (fun i' t' j a hi' hj => ?_) hrow.1 (fun j a hj => ?_) hown hg hat
    · obtain ⟨u, e, hr⟩ := hxs i' t' j a hi' hj
      exact ⟨u, e, rep_grown hr (grown_below _ hal) (.inl rfl)⟩
    · have k : ∀ {u a}, Rep w1 (Kb B') u a → Rep (w1.alloc (.cells cs ty)) (Kx w.heap.size v) u a := fun hr =>
        rep_grown (rep_Kb hr (by omega) fun g e => by have := hblk g e; omega) (grown_below _ hal) (.inl rfl)
      have hj3 := (List.getElem?_eq_some_iff.1 hj).1
      rcases (by simpa [encTh] using hj3 : j < 3) |> fun h => (by omega : j = 0 ∨ j = 1 ∨ j = 2) with rfl | rfl | rfl
      · cases hj
        refine ⟨_, rfl, ?_⟩
        rw [← hs]; exact .str _
      · cases hj; exact ⟨_, rfl, k hr1⟩
      · cases hj; exact ⟨_, rfl, k hr2⟩
  · have h1 := below_upG (below_upG h.bel (Nat.le_refl _) hB1) (Nat.le_refl _) hal
    refine ⟨hg.os.trans h1.os, hg.tape.trans h1.tape, hg.output.trans h1.output, Nat.le_trans h1.size hg.size, fun k hk => (hg.block k (Nat.lt_of_lt_of_le hk h1.size) fun e => ?_).trans (h1.block k hk)⟩
    have := (hblk k e.symm).1
    omega
set_option maxHeartbeats 4000000 in
set_option maxRecDepth 100000 in
theorem drop_any (w : World) (c : Cls) (v : Value) (l : List Th) (ss : ByteArray) (hR : Rep w c v (.sl 3 (encTs l))) (hok : TsOK l) :
    Calls Tryz.prog 12 #[v, .string ss] w fun e w' => ∃ A n cap, e = .returned (.slice A n cap) ∧ Gr.Ax (DropI w l ss.data.toList l.length (.slice A n cap) w') := by
  obtain ⟨A, cap, rfl, hA⟩ := things_at hR
  obtain ⟨i0, hi, hz0, hz1, hz2⟩ := info_parts info28
  have hl := hok.1
  replace hok := Lib.hid hok
  replace hA := Lib.hid hA
  clear hR
  go_enter Tryz.func12, Tryz.ntmps12
  go_wp2_with fail
  have h0 : DropI w l ss.data.toList 0 (.slice none 0 0) w := ⟨TRow.nil _ _, Below.refl _ _⟩
  replace h0 := Lib.hid h0
  go_loopg [10, 5] l.length (fun gk v10 v5 W => ∃ i : Nat, i + gk = l.length ∧ v10 = .int .i64 i ∧ Gr.Ax (DropI w l ss.data.toList i v5 W))
  case atStart => exact ⟨0, by omega, rfl, ⟨h0.out⟩⟩
  case round =>
    clear h0
    obtain ⟨i, hig, rfl, HM⟩ := hrel
    by_cases hil : i < l.length
    · obtain ⟨g1, rfl⟩ : ∃ j, gk = j + 1 := ⟨gk - 1, by omega⟩
      obtain ⟨t, hk⟩ : ∃ x, l[i]? = some x := ⟨l[i], List.getElem?_eq_getElem hil⟩
      have hAt := (hA.out i t hk).below (show Below w.heap.size w wr from HM.out.bel)
      obtain ⟨g, o, s, b1, n1, c1, b2, n2, c2, rfl, hs, q1, q2, q3, hr1, hr2⟩ := hAt.ex
      have hoki := hok.out.2 t (List.mem_of_getElem? hk)
      have hBa : Below wr.heap.size wr (wr.alloc (Obj.cells #[.string s, .slice b1 n1 c1, .slice b2 n2 c2] 28)) := (Below.refl _ wr).alloc (Nat.le_refl _) _
      have CO := Lib.hid (own_any (wr.alloc (Obj.cells #[.string s, .slice b1 n1 c1, .slice b2 n2 c2] 28)) _ t s b1 b2 n1 c1 n2 c2 hs (hr1.ext (Cp.ext_cut _ hBa)) (hr2.ext (Cp.ext_cut _ hBa)) hoki.1 hoki.2)
      replace hBa := Lib.hid hBa
      clear hr1 hr2 hAt
      have z0 : (wr.alloc (Obj.cells #[.string s, .slice b1 n1 c1, .slice b2 n2 c2] 28)).cell? ⟨wr.heap.size, 0, none⟩ = some (.string s) := by rw [cell_of (heap_alloc_new wr _)]; rfl
      by_cases hn : s = ss
      · have hnx := Lib.hid (show DropI w l ss.data.toList (i + 1) u5 (wr.alloc (Obj.cells #[.string s, .slice b1 n1 c1, .slice b2 n2 c2] 28)) from by
          refine ⟨?_, below_upG HM.out.bel (Nat.le_refl _) hBa.out⟩
          rw [dropT_snoc hk, if_neg (by rw [← hs, hn]; simp)]
          exact HM.out.row.below hBa.out)
        subst hn
        clear CO hBa HM hoki
        go_wp2_with fail
        go_roundg g1
        case measure => omega
        case rel => exact ⟨i + 1, by omega, by go_num, ⟨hnx.out⟩⟩
      · have hn' := Lib.hid (show t.n ≠ ss.data.toList from fun e => hn (by
          rw [← hs] at e
          cases s; cases ss; congr; exact Array.toList_inj.1 e))
        have hbn : (s.toList == ss.toList) = false := by
          rw [Lib.toList_data, Lib.toList_data, hs]
          exact beq_eq_false_iff_ne.2 hn'.out
        replace HM := Lib.hid HM
        replace hoki := Lib.hid hoki
        replace hs := Lib.hid hs
        have hi' := Lib.hid (And.intro hi (And.intro hz0 (And.intro hz1 hz2)))
        clear hi hz0 hz1 hz2
        go_wp2_with fail
        refine CO.out.mono ?_
        generalize hwD : (wr.alloc (Obj.cells #[.string s, .slice b1 n1 c1, .slice b2 n2 c2] 28)) = wD at *
        rintro e w1 ⟨s', bo1, bo2, no1, co1, no2, co2, rfl, hs', hB1, hv1, hd1⟩
        have hrow0 := HM.out.out.row.below hBa.out
        have hrow1 := hrow0.below hB1
        obtain ⟨xs, hown, hxs⟩ := hrow1.ex
        have hownA : ((w1.alloc (.cells #[.string s', .slice bo1 no1 co1, .slice bo2 no2 co2] 28))).ownsRow w.heap.size 28 3 u5 (dropT (l.take i) ss.data.toList).length xs := hown.alloc _
        have hdl : (dropT (l.take i) ss.data.toList).length ≤ i := Nat.le_trans (dropT_len _ _) (by rw [List.length_take]; omega)
        have hwD' : w.heap.size ≤ wD.heap.size := Nat.le_trans HM.out.out.bel.size hBa.out.size
        have hw1 : wD.heap.size ≤ w1.heap.size := hB1.size
        replace hs' := Lib.hid hs'
        replace hB1 := Lib.hid hB1
        replace hv1 := Lib.hid hv1
        replace hd1 := Lib.hid hd1
        replace hown := Lib.hid hown
        replace hxs := Lib.hid hxs
        clear hrow0 hrow1 CO
        have b1' : (dropT (l.take i) ss.data.toList).length + 1 ≤ maxLen := by unfold maxLen; omega
        have b2' : ((dropT (l.take i) ss.data.toList).length + 1) * 64 ≤ 140737488355328 := by omega
        have b3' : w.heap.size ≤ (w1.alloc (.cells #[.string s', .slice bo1 no1 co1, .slice bo2 no2 co2] 28)).heap.size := by simp; omega
        go_wp2_with (at_builtin; refine wpList_append_own_at _ rfl _ _ 22 rfl w.heap.size 28 i0 _ 3 64 Tryz.underlying22 hi'.out.1 hi'.out.2.1 hi'.out.2.2.1 hi'.out.2.2.2 rfl (by decide) u5 (dropT (l.take i) ss.data.toList).length xs rfl hownA ⟨w1.heap.size, 0, none⟩ 1 1 [.string s', .slice bo1 no1 co1, .slice bo2 no2 co2] rfl rfl (cells_three _ _ _ _ _) (by simp [Value.oneCell']) b1' b2' b3' ?_; intro v' w6 hown' hgrow hnil hloc)
        have hnx := Lib.hid (show DropI w l ss.data.toList (i + 1) v' w6 from
          drop_next HM.out.out hk hn'.out hs'.out (below_upG hBa.out (Nat.le_refl _) hB1.out) hBa.out.size hv1.out hd1.out hownA hxs.out hown' hgrow hloc)
        clear hown' hgrow hnil hloc hownA
        go_roundg g1
        case measure => omega
        case rel => exact ⟨i + 1, by omega, by go_num, ⟨hnx.out⟩⟩
    · obtain rfl : gk = 0 := by omega
      obtain rfl : i = l.length := by omega
      obtain ⟨A5, cap5, hA5⟩ := trow_shape HM.out.row
      subst hA5
      go_wp2_with fail
      go_ret
      exact ⟨_, _, _, rfl, ⟨HM.out⟩⟩
end Go.Proofs.YtffojfcinkihnaaGreatDoor.Th
