/- Few of actions: its list of things is built in the open (its length is bounded by the data's bytes alone). -/
import Derived.Test.YtmdimhcjogjcgaaGreatDoorXF
import Derived.Test.YtmdimhcjogjcgaaGreatDoorSZ
import Derived.Test.YtmdimhcjogjcgaaGreatDoorGD
set_option linter.unusedVariables false
set_option linter.unusedSimpArgs false
set_option linter.unusedSectionVars false
set_option linter.deprecated false
set_option linter.unnecessarySimpa false
namespace Go.Proofs.YtmdimhcjogjcgaaGreatDoor.Th
open Go.RowKit Go.Lib Go.Proofs.YtmdimhcjogjcgaaGreatDoor.Abs Go.Proofs.YtmdimhcjogjcgaaGreatDoor.Lat Go.Proofs.YtmdimhcjogjcgaaGreatDoor.Lat.Cp Go.Proofs.YtmdimhcjogjcgaaGreatDoor.Gr
set_option linter.unusedVariables false
theorem ext0 {w w' : World} {c c' : Cls} (hs : w.heap.size ≤ w'.heap.size) (ho : w'.os = w.os) (ht : w'.tape = w.tape) (hp : w'.output = w.output) (h : ∀ b i, stab c b i → b < w.heap.size → w'.heap[b]? = w.heap[b]? ∧ stab c' b i) : Ext 0 w c w' c' :=
  ⟨ho, ht, hp, hs, fun b hb => absurd hb (Nat.not_lt_zero b), fun b i v hv hb => by
    obtain ⟨h1, h2⟩ := h b i hb (World.block_lt_of_cell? w _ hv)
    exact ⟨(cell_heap h1).trans hv, h2⟩⟩
theorem cells_three (w : World) (x y z : Value) (t : TypeId) : ∀ (j : Nat) (u : Value), [x, y, z][j]? = some u → (w.alloc (.cells #[x, y, z] t)).cell? ((⟨w.heap.size, 0, none⟩ : Addr).add j) = some u := fun j u hu => by
  rw [add_none, cell_of (heap_alloc_new w _), Nat.zero_add]
  simpa using hu
theorem info70 : (Tryz.prog.info? 70).map (fun i => (i.zero, i.size, i.bytes)) = some (some (.agg #[.string ⟨#[]⟩, .slice none 0 0, .slice none 0 0]), 3, 64) := by kernel_rfl
def Sx (B : Nat) (c : Cls) (v : Value) : Cls := fun b => if v.ownBlock = some b then .box 0 else if b < B then c b else .frz
theorem stab_Sx {B b i : Nat} {c : Cls} {v : Value} : stab (Sx B c v) b i ↔ v.ownBlock ≠ some b ∧ (b < B → stab c b i) := by
  unfold stab Sx
  by_cases h : v.ownBlock = some b
  · rw [if_pos h]; simp [h]
  · rw [if_neg h]
    by_cases h2 : b < B
    · rw [if_pos h2]; simp [h, h2]
    · rw [if_neg h2]; simp [h, h2]
theorem stab_cut {B b i : Nat} {c : Cls} : stab (fun b => if b < B then c b else .frz) b i ↔ (b < B → stab c b i) := by
  by_cases h : b < B
  · simp [stab, h]
  · simp [stab, h]
structure SRow (w : World) (B : Nat) (c : Cls) (v : Value) (l : List Th) : Prop where
  ex : ∃ xs, w.ownsRow B 70 3 v l.length xs ∧ ∀ i t j a, l[i]? = some t → (encTh t)[j]? = some a → ∃ u, xs[i * 3 + j]? = some u ∧ Rep w (Sx B c v) u a
theorem repS_grown {w w' : World} {B : Nat} {c : Cls} {v v' u : Value} {a : AV} (h : Rep w (Sx B c v) u a) (hg : w.grownBy w' v.ownBlock) (hat : v'.ownBlock = v.ownBlock ∨ v'.ownBlock = some w.heap.size) : Rep w' (Sx B c v') u a :=
  h.ext (ext0 hg.size hg.os hg.tape hg.output fun b i hb hl => by
    obtain ⟨h1, h2⟩ := stab_Sx.1 hb
    refine ⟨hg.block b hl fun e => h1 e.symm, stab_Sx.2 ⟨fun e => ?_, h2⟩⟩
    rcases hat with q | q
    · exact h1 (q.symm.trans e)
    · rw [q] at e; cases e; omega)
theorem srow_blk {w : World} {B : Nat} {c : Cls} {v : Value} {l : List Th} (h : SRow w B c v l) : ∀ g, v.ownBlock = some g → B ≤ g ∧ g < w.heap.size := fun g e => by
  obtain ⟨xs, ⟨h1, ⟨rfl, h2⟩ | ⟨g', cap, cur, rfl, h3, h4, _⟩⟩, _⟩ := h.ex
  · cases e
  · cases e; exact ⟨h3, blk_lt' h4⟩
theorem SRow.nil (w : World) (B : Nat) (c : Cls) : SRow w B c (.slice none 0 0) [] := ⟨[], ⟨rfl, .inl ⟨rfl, rfl⟩⟩, fun i t j a hi => by simp at hi⟩
theorem SRow.snoc {w w' : World} {B : Nat} {c : Cls} {v v' : Value} {l : List Th} {xs us : List Value} {t : Th}
    (h3 : ∀ i t j a, l[i]? = some t → (encTh t)[j]? = some a → ∃ u, xs[i * 3 + j]? = some u ∧ Rep w (Sx B c v) u a) (hxs : xs.length = l.length * 3)
    (hu : ∀ (j : Nat) (a : AV), (encTh t)[j]? = some a → ∃ u : Value, us[j]? = some u ∧ Rep w (Sx B c v) u a)
    (hown : w'.ownsRow B 70 3 v' (l.length + 1) (xs ++ us)) (hg : w.grownBy w' v.ownBlock) (hat : v'.ownBlock = v.ownBlock ∨ v'.ownBlock = some w.heap.size) : SRow w' B c v' (l ++ [t]) := by
  refine ⟨xs ++ us, by rw [List.length_append]; exact hown, fun i t' j a hi hj => ?_⟩
  have hj3 : j < 3 := by have := (List.getElem?_eq_some_iff.1 hj).1; simpa [encTh] using this
  by_cases h : i < l.length
  · rw [List.getElem?_append_left h] at hi
    obtain ⟨u, e, hr⟩ := h3 i t' j a hi hj
    refine ⟨u, ?_, repS_grown hr hg hat⟩
    rw [List.getElem?_append_left (by rw [hxs]; omega)]; exact e
  · have hil := (List.getElem?_eq_some_iff.1 hi).1
    rw [List.length_append, List.length_singleton] at hil
    obtain rfl : i = l.length := by omega
    rw [List.getElem?_append_right (Nat.le_refl _), Nat.sub_self] at hi
    cases hi
    obtain ⟨u, e, hr⟩ := hu j a hj
    refine ⟨u, ?_, repS_grown hr hg hat⟩
    rw [List.getElem?_append_right (by rw [hxs]; omega), hxs, Nat.add_sub_cancel_left]; exact e
theorem SRow.rep {w : World} {B : Nat} {v : Value} {l : List Th} {c : Cls} (h : SRow w B c v l) : Rep w (fun b => if b < B then c b else .frz) v (.sl 3 (encTs l)) := by
  obtain ⟨xs, ⟨h1, h2⟩, h3⟩ := h.ex
  have hR : ∀ {u a}, Rep w (Sx B c v) u a → Rep w (fun b => if b < B then c b else .frz) u a := fun hr => hr.ext (ext0 (Nat.le_refl _) rfl rfl rfl fun b i hb _ => ⟨rfl, stab_cut.2 (stab_Sx.1 hb).2⟩)
  rcases h2 with ⟨rfl, h2⟩ | ⟨g, cap, cur, rfl, h4, h5, h6, h7, h8, h9⟩
  · obtain rfl := List.eq_nil_of_length_eq_zero h2
    exact .nil _
  · have hl := encTs_len l
    rw [← hl]
    have hcell : ∀ i t j a, l[i]? = some t → (encTh t)[j]? = some a → ∃ u, cur[i * 3 + j]? = some u ∧ Rep w (fun b => if b < B then c b else .frz) u a := fun i t j a hi hj => by
      obtain ⟨u, e, hr⟩ := h3 i t j a hi hj
      refine ⟨u, ?_, hR hr⟩
      rw [← h9, List.getElem?_take] at e
      split at e
      · simpa using e
      · cases e
    refine Rep.sl g 0 cap 3 _ (fun i j => cur.getD (i * 3 + j) undef) (by omega) (fun i cs hi => ?_) (fun i j hi hj => ?_) (fun i j hi hj => stab_cut.2 fun h => by omega) (fun i j cs a hi hj => ?_)
    · rw [encTs, List.getElem?_map] at hi
      cases hx : l[i]? with
      | none => rw [hx] at hi; cases hi
      | some f => rw [hx] at hi; cases hi; rfl
    · rw [cell_of h5, Nat.zero_add]
      have : i * 3 + j < cur.size := by omega
      simp [Array.getD_eq_getD_getElem?, this]
    · rw [encTs, List.getElem?_map] at hi
      cases hx : l[i]? with
      | none => rw [hx] at hi; cases hi
      | some t =>
        rw [hx] at hi; cases hi
        obtain ⟨u, e, hr⟩ := hcell i t j a hx hj
        show Rep w _ (cur.getD (i * 3 + j) undef) a
        simp only [Array.getD_eq_getD_getElem?, e, Option.getD_some]; exact hr
/-- An action in a row. -/
structure AtA (w : World) (c : Cls) (A : Option Addr) (i : Nat) (a : Ac) : Prop where
  ex : ∃ g o s b1 n1 c1 b2 n2 c2, A = some ⟨g, o, none⟩ ∧ s.data.toList = a.t.n ∧ w.cell? ⟨g, o + i * 4, none⟩ = some (.int .i64 a.k) ∧ w.cell? ⟨g, o + i * 4 + 1, none⟩ = some (.string s) ∧ w.cell? ⟨g, o + i * 4 + 2, none⟩ = some (.slice b1 n1 c1) ∧ w.cell? ⟨g, o + i * 4 + 3, none⟩ = some (.slice b2 n2 c2) ∧
    Rep w c (.slice b1 n1 c1) (.sl 8 (encV a.t.v)) ∧ Rep w c (.slice b2 n2 c2) (.sl 1 (encD a.t.d))
theorem acts_at {w : World} {c : Cls} {v : Value} {l : List Ac} (h : Rep w c v (.sl 4 (encAs l))) : ∃ A cap, v = .slice A l.length cap ∧ ∀ i t, l[i]? = some t → AtA w c A i t := by
  obtain ⟨A, cap, rfl, _, _, hm⟩ := rep_sl h
  rw [encAs_len] at hm ⊢
  refine ⟨A, cap, rfl, fun i t hi => ?_⟩
  have hl := (List.getElem?_eq_some_iff.1 hi).1
  obtain ⟨g, o, rfl, _, f, hc, _, hr⟩ := hm (by omega)
  have e3 := rep_int (hr i 0 _ _ (encAs_at hi) rfl)
  obtain ⟨s, e0, e1⟩ := rep_str (hr i 1 _ _ (encAs_at hi) rfl)
  obtain ⟨A1, cap1, r1, _⟩ := rep_sl (hr i 2 _ _ (encAs_at hi) rfl)
  obtain ⟨A2, cap2, r2, _⟩ := rep_sl (hr i 3 _ _ (encAs_at hi) rfl)
  have h1 := hr i 2 _ _ (encAs_at hi) rfl
  have h2 := hr i 3 _ _ (encAs_at hi) rfl
  rw [r1] at h1
  rw [r2] at h2
  have c0 := hc i 0 hl (by omega)
  have c1 := hc i 1 hl (by omega)
  have c2 := hc i 2 hl (by omega)
  have c3 := hc i 3 hl (by omega)
  rw [e3] at c0
  rw [e0] at c1
  rw [r1] at c2
  rw [r2] at c3
  exact ⟨g, o, s, A1, _, cap1, A2, _, cap2, rfl, e1, c0, c1, c2, c3, h1, h2⟩
/-- What Few has so far. -/
structure FewI (w : World) (c : Cls) (l : List Ac) (i : Nat) (v : Value) (W : World) : Prop where
  row : SRow W w.heap.size c v ((thsOf l).take i)
  bel : Below w.heap.size w W
theorem few_next {w W w3 : World} {c : Cls} {l : List Ac} {i : Nat} {a : Ac} {s : ByteArray} {v v' : Value} {b1 b2 : Option Addr} {n1 c1 n2 c2 : Nat} {xs : List Value} {ty : TypeId} {cs : Array Value} (h : FewI w c l i v W) (hi : l[i]? = some a)
    (hs : s.data.toList = a.t.n) (hr1 : Rep w c (.slice b1 n1 c1) (.sl 8 (encV a.t.v))) (hr2 : Rep w c (.slice b2 n2 c2) (.sl 1 (encD a.t.d)))
    (hxs : ∀ (i' : Nat) (t' : Th) (j : Nat) (a : AV), ((thsOf l).take i)[i']? = some t' → (encTh t')[j]? = some a → ∃ u, xs[i' * 3 + j]? = some u ∧ Rep W (Sx w.heap.size c v) u a) (hxl : xs.length = ((thsOf l).take i).length * 3)
    (hown : w3.ownsRow w.heap.size 70 3 v' (((thsOf l).take i).length + 1) (xs ++ [.string s, .slice b1 n1 c1, .slice b2 n2 c2])) (hg : (W.alloc (.cells cs ty)).grownBy w3 v.ownBlock) (hat : v'.ownBlock = v.ownBlock ∨ v'.ownBlock = some (W.alloc (.cells cs ty)).heap.size) :
    FewI w c l (i + 1) v' w3 := by
  have hal : Below W.heap.size W (W.alloc (.cells cs ty)) := (Below.refl _ W).alloc (Nat.le_refl _) _
  have hblk := srow_blk h.row
  have h1 := below_upG h.bel (Nat.le_refl _) hal
  have hi' : (thsOf l)[i]? = some a.t := by rw [thsOf, List.getElem?_map, hi]; rfl
  have e : (thsOf l).take (i + 1) = (thsOf l).take i ++ [a.t] := by rw [List.take_add_one, hi']; rfl
  refine ⟨?_, ?_⟩
  · rw [e]
    refine SRow.snoc (w := W.alloc (.cells cs ty)) (xs := xs) (us := [.string s, .slice b1 n1 c1, .slice b2 n2 c2]) (fun i' t' j a hi' hj => ?_) hxl (fun j a' hj => ?_) hown hg hat
    · obtain ⟨u, e, hr⟩ := hxs i' t' j a hi' hj
      exact ⟨u, e, repS_grown hr (grown_below _ hal) (.inl rfl)⟩
    · have k : ∀ {u a}, Rep w c u a → Rep (W.alloc (.cells cs ty)) (Sx w.heap.size c v) u a := fun hr =>
        hr.ext (ext0 h1.size h1.os h1.tape h1.output fun b i hb hl => ⟨h1.block b hl, stab_Sx.2 ⟨fun e => by have := (hblk b e).1; omega, fun _ => hb⟩⟩)
      have hj3 := (List.getElem?_eq_some_iff.1 hj).1
      rcases (by simpa [encTh] using hj3 : j < 3) |> fun h => (by omega : j = 0 ∨ j = 1 ∨ j = 2) with rfl | rfl | rfl
      · cases hj
        refine ⟨_, rfl, ?_⟩
        rw [← hs]; exact .str _
      · cases hj; exact ⟨_, rfl, k hr1⟩
      · cases hj; exact ⟨_, rfl, k hr2⟩
  · refine ⟨hg.os.trans h1.os, hg.tape.trans h1.tape, hg.output.trans h1.output, Nat.le_trans h1.size hg.size, fun k hk => (hg.block k (Nat.lt_of_lt_of_le hk h1.size) fun e => ?_).trans (h1.block k hk)⟩
    have := (hblk k e.symm).1
    omega
set_option maxHeartbeats 4000000 in
set_option maxRecDepth 100000 in
theorem few33_any (w : World) (c : Cls) (v : Value) (l : List Ac) (hR : Rep w c v (.sl 4 (encAs l))) (hG : GOK τ w c) (hl : l.length * 64 ≤ 140737488355328) (b : Bool) (hb : law30_Few (.sl 3 (encTs (thsOf l))) = some (.bool b)) :
    Calls Tryz.prog 22 #[v] w fun e w' => e = .returned (.bool b) ∧ Below w.heap.size w w' := by
  obtain ⟨A, cap, rfl, hA⟩ := acts_at hR
  obtain ⟨i0, hi, hz0, hz1, hz2⟩ := info_parts info70
  have hi' := Lib.hid (And.intro hi (And.intro hz0 (And.intro hz1 hz2)))
  have CF : ∀ (W : World) (x : Value), FewI w c l l.length x W → Calls Tryz.prog 12 #[x] W fun e w' => e = .returned (.bool b) ∧ Below w.heap.size w w' := fun W x h => by
    have hx := h.row.rep
    have htl : (thsOf l).take l.length = thsOf l := by rw [List.take_of_length_le (by simp [thsOf])]
    rw [htl] at hx
    refine (St.calls_plain sysOK (show ωκ S 12 _ = _ from hb) (vs := #[x]) (c := fun b => if b < w.heap.size then c b else .frz) Tryz.func12 rfl (by decide +kernel) (hG.ext (Abs.ext_cut c h.bel)) rfl (fun i v a hv ha => ?_)).mono fun e w' ⟨y, c', he, hx, hr⟩ => ?_
    · rcases i with _ | i
      · simp at hv ha; subst hv; subst ha; exact .inr hx
      · simp at hv
    · obtain rfl := rep_bool (show Rep w' c' y (.bool _) from hr)
      exact ⟨he, below_upG h.bel (Nat.le_refl _) (St.ext_below hx)⟩
  replace CF := Lib.hid CF
  replace hA := Lib.hid hA
  clear hR hG hb hi hz0 hz1 hz2
  go_enter Tryz.func22, Tryz.ntmps22
  go_wp2_with fail
  have h0 := Lib.hid (show FewI w c l 0 (.slice none 0 0) w from ⟨SRow.nil _ _ _, Below.refl _ _⟩)
  go_loopg [4, 3] l.length (fun gk v4 v3 W => ∃ i : Nat, i + gk = l.length ∧ v4 = .int .i64 i ∧ Gr.Ax (FewI w c l i v3 W))
  case atStart => exact ⟨0, by omega, rfl, ⟨h0.out⟩⟩
  case round =>
    clear h0
    obtain ⟨i, hig, rfl, HM⟩ := hrel
    by_cases hil : i < l.length
    · obtain ⟨g1, rfl⟩ : ∃ j, gk = j + 1 := ⟨gk - 1, by omega⟩
      obtain ⟨a, hk⟩ : ∃ x, l[i]? = some x := ⟨l[i], List.getElem?_eq_getElem hil⟩
      obtain ⟨g, o, s, b1, n1, c1, b2, n2, c2, rfl, hs, q0, q1, q2, q3, hr1, hr2⟩ := (hA.out i a hk).ex
      have q1 := cell_below HM.out.bel q1
      have q2 := cell_below HM.out.bel q2
      have q3 := cell_below HM.out.bel q3
      obtain ⟨xs, hown, hxs⟩ := HM.out.row.ex
      have hownA : (wr.alloc (.cells #[.string s, .slice b1 n1 c1, .slice b2 n2 c2] 70)).ownsRow w.heap.size 70 3 u3 ((thsOf l).take i).length xs := hown.alloc _
      have hdl : ((thsOf l).take i).length ≤ i := by rw [List.length_take]; omega
      have b1' : ((thsOf l).take i).length + 1 ≤ maxLen := by unfold maxLen; omega
      have b2' : (((thsOf l).take i).length + 1) * 64 ≤ 140737488355328 := by omega
      have b3' : w.heap.size ≤ (wr.alloc (.cells #[.string s, .slice b1 n1 c1, .slice b2 n2 c2] 70)).heap.size := by have := HM.out.bel.size; simp; omega
      replace hs := Lib.hid hs
      replace hr1 := Lib.hid hr1
      replace hr2 := Lib.hid hr2
      replace hxs := Lib.hid hxs
      have hxl := hown.1
      replace HM := Lib.hid HM
      clear q0 hown
      go_wp2_with (at_builtin; refine wpList_append_own_at _ rfl _ _ 23 rfl w.heap.size 70 i0 _ 3 64 Tryz.underlying23 hi'.out.1 hi'.out.2.1 hi'.out.2.2.1 hi'.out.2.2.2 rfl (by decide) u3 ((thsOf l).take i).length xs rfl hownA ⟨wr.heap.size, 0, none⟩ 1 1 [.string s, .slice b1 n1 c1, .slice b2 n2 c2] rfl rfl (cells_three _ _ _ _ _) (by simp [Value.oneCell']) b1' b2' b3' ?_; intro v' w6 hown' hgrow hnil hloc)
      have hnx := Lib.hid (show FewI w c l (i + 1) v' w6 from few_next HM.out.out hk hs.out hr1.out hr2.out hxs.out hxl hown' hgrow hloc)
      clear hown' hgrow hnil hloc hownA
      go_roundg g1
      case measure => omega
      case rel => exact ⟨i + 1, by omega, by go_num, ⟨hnx.out⟩⟩
    · obtain rfl : gk = 0 := by omega
      obtain rfl : i = l.length := by omega
      have CF2 := CF.out wr u3 HM.out
      clear CF
      go_wp2_with fail
      refine CF2.mono ?_
      rintro e w1 ⟨rfl, hB1⟩
      go_wp2_with fail
      go_ret
      exact ⟨rfl, hB1⟩
end Go.Proofs.YtmdimhcjogjcgaaGreatDoor.Th
