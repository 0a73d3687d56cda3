/- A state with a thing more. -/
import Derived.Test.YtffojfcinkihnaaGreatDoorIA
set_option linter.unusedVariables false
set_option linter.unusedSimpArgs false
set_option linter.unusedSectionVars false
set_option linter.deprecated false
set_option linter.unnecessarySimpa false
namespace Go.Proofs.YtffojfcinkihnaaGreatDoor.Th
open Go.RowKit Go.Lib Go.Proofs.YtffojfcinkihnaaGreatDoor.Abs Go.Proofs.YtffojfcinkihnaaGreatDoor.Lat Go.Proofs.YtffojfcinkihnaaGreatDoor.Lat.Cp Go.Proofs.YtffojfcinkihnaaGreatDoor.Gr
def gtAt (s : Bs) : List Th → Nat
  | [] => 0
  | x :: r => if bytesLt s x.n then 0 else gtAt s r + 1
theorem gtAt_le (s : Bs) : ∀ l : List Th, gtAt s l ≤ l.length
  | [] => Nat.le_refl _
  | x :: r => by rw [gtAt]; split <;> simp; exact gtAt_le s r
theorem gtAt_at (s : Bs) : ∀ (l : List Th) (i : Nat) (t : Th), (∀ j x, j < i → l[j]? = some x → bytesLt s x.n = false) → l[i]? = some t → bytesLt s t.n = true → gtAt s l = i
  | [], i, t, _, h, _ => by simp at h
  | x :: r, 0, t, _, h, ht => by cases h; rw [gtAt, if_pos ht]
  | x :: r, i + 1, t, h0, h, ht => by
    have := h0 0 x (Nat.succ_pos _) rfl
    rw [gtAt, if_neg (by rw [this]; simp), gtAt_at s r i t (fun j y hj hy => h0 (j + 1) y (by omega) hy) h ht]
theorem gtAt_none (s : Bs) : ∀ (l : List Th), (∀ (j : Nat) x, l[j]? = some x → bytesLt s x.n = false) → gtAt s l = l.length
  | [], _ => rfl
  | x :: r, h => by
    have := h 0 x rfl
    rw [gtAt, if_neg (by rw [this]; simp), gtAt_none s r fun j y hy => h (j + 1) y hy]; rfl
def putT (l : List Th) (t : Th) : List Th := (dropT l t.n).take (gtAt t.n (dropT l t.n)) ++ t :: (dropT l t.n).drop (gtAt t.n (dropT l t.n))
theorem TRow.base {w : World} {B B' : Nat} {v : Value} {l : List Th} (h : TRow w B v l) (hB : B' ≤ B) : TRow w B' v l := by
  obtain ⟨xs, ⟨h1, h2⟩, h3⟩ := h.ex
  refine ⟨xs, ⟨h1, ?_⟩, fun i t j a hi hj => ?_⟩
  · rcases h2 with h2 | ⟨g, cap, cur, e, h4, h5⟩
    · exact .inl h2
    · exact .inr ⟨g, cap, cur, e, Nat.le_trans hB h4, h5⟩
  · obtain ⟨u, e, hr⟩ := h3 i t j a hi hj
    exact ⟨u, e, hr.ext (ext0 (Nat.le_refl _) rfl rfl rfl fun b i hb hl => ⟨rfl, stab_Kx.2 ⟨by have := (stab_Kx.1 hb).1; omega, (stab_Kx.1 hb).2⟩⟩)⟩
theorem gtr_is (x s : Bs) : (!Op.bytesLess x s && !x == s) = bytesLt s x := by
  rw [bytesLt_eq]
  cases h1 : bytesLt x s with
  | true => rw [blt_asym _ _ h1]; rfl
  | false =>
    cases h2 : bytesLt s x with
    | true =>
      have : x ≠ s := fun e => by rw [e, blt_irr] at h2; cases h2
      simp [this]
    | false => rw [blt_total _ _ h1 h2]; simp
theorem later_any (w : World) (s x : ByteArray) (b1 b2 : Option Addr) (n1 c1 n2 c2 : Nat) (bx : Nat) (hb : w.cell? ⟨bx, 0, none⟩ = some (.string s)) :
    Calls Tryz.prog 29 #[.agg #[.string x, .slice b1 n1 c1, .slice b2 n2 c2], .pointer (some ⟨bx, 0, none⟩)] w fun e w' => e = .returned (.bool (bytesLt s.data.toList x.data.toList)) ∧ Below w.heap.size w w' := by
  have hlt := World.block_lt_of_cell? w _ hb
  have q0 : (w.alloc (.cells #[.string x, .slice b1 n1 c1, .slice b2 n2 c2] 28)).cell? ⟨w.heap.size, 0, none⟩ = some (.string x) := by rw [cell_of (heap_alloc_new w _)]; rfl
  have q1 : (w.alloc (.cells #[.string x, .slice b1 n1 c1, .slice b2 n2 c2] 28)).cell? ⟨bx, 0, none⟩ = some (.string s) := by rw [World.cell?_of_block (((Below.refl _ w).alloc (Nat.le_refl _) _).block bx hlt)]; exact hb
  go_enter Tryz.func29, Tryz.ntmps29
  go_wp2_with fail
  go_ret
  refine ⟨?_, (Below.refl _ w).alloc (Nat.le_refl _) _⟩
  rw [← gtr_is, ← Lib.toList_data, ← Lib.toList_data]; rfl
set_option maxHeartbeats 4000000 in
set_option maxRecDepth 100000 in
theorem index_any (w : World) (B : Nat) (v : Value) (l : List Th) (h : TRow w B v l) (hl : l.length ≤ 1073741824) (s : ByteArray) (bx : Nat) (hb : w.cell? ⟨bx, 0, none⟩ = some (.string s)) :
    Calls Tryz.prog 28 #[v, .func (.func 29) #[] #[.pointer (some ⟨bx, 0, none⟩)]] w fun e w' => e = .returned (.int .i64 (if gtAt s.data.toList l < l.length then (gtAt s.data.toList l : Int) else -1)) ∧ Below w.heap.size w w' := by
  obtain ⟨A, cap, rfl, hA⟩ := things_at (h.rep (c := Kb B) (fun b hb => by unfold Kb; rw [if_neg (by omega)]))
  replace hA := Lib.hid hA
  clear h
  obtain ⟨r, hr⟩ : ∃ r : Int, r = if gtAt s.data.toList l < l.length then (gtAt s.data.toList l : Int) else -1 := ⟨_, rfl⟩
  rw [← hr]
  replace hr := Lib.hid hr
  go_enter Tryz.func28, Tryz.ntmps28
  go_wp2_with fail
  go_loopg [8] l.length (fun gk v8 W => ∃ i : Nat, i + gk = l.length ∧ v8 = .int .i64 i ∧ Gr.Ax (Below w.heap.size w W ∧ ∀ j x, j < i → l[j]? = some x → bytesLt s.data.toList x.n = false))
  case atStart => exact ⟨0, by omega, rfl, ⟨Below.refl _ _, fun j x hj => by omega⟩⟩
  case round =>
    obtain ⟨i, hig, rfl, HM⟩ := hrel
    by_cases hil : i < l.length
    · obtain ⟨g1, rfl⟩ : ∃ j, gk = j + 1 := ⟨gk - 1, by omega⟩
      obtain ⟨t, hk⟩ : ∃ x, l[i]? = some x := ⟨l[i], List.getElem?_eq_getElem hil⟩
      have hAt := (hA.out i t hk).below (show Below w.heap.size w wr from HM.out.1)
      obtain ⟨g, o, x, b1, n1, c1, b2, n2, c2, rfl, hs, q1, q2, q3, hr1, hr2⟩ := hAt.ex
      have CL := Lib.hid (later_any wr s x b1 b2 n1 c1 n2 c2 bx (cell_below HM.out.1 hb))
      clear hr1 hr2 hAt
      go_wp2_with fail
      refine CL.out.mono ?_
      rintro e w1 ⟨rfl, hB1⟩
      clear CL
      cases hc : bytesLt s.data.toList x.data.toList with
      | true =>
        have hgt := gtAt_at s.data.toList l i t HM.out.2 hk (by rw [← hs]; exact hc)
        go_wp2_with fail
        go_ret
        refine ⟨?_, below_upG HM.out.1 (Nat.le_refl _) hB1⟩
        rw [hr.out, hgt, if_pos hil]; rfl
      | false =>
        have hnx := Lib.hid (show Below w.heap.size w w1 ∧ ∀ j y, j < i + 1 → l[j]? = some y → bytesLt s.data.toList y.n = false from
          ⟨below_upG HM.out.1 (Nat.le_refl _) hB1, fun j y hj hy => by
            by_cases hji : j = i
            · subst hji; rw [hk] at hy; cases hy; rw [← hs]; exact hc
            · exact HM.out.2 j y (by omega) hy⟩)
        clear HM hB1
        go_wp2_with fail
        go_roundg g1
        case measure => omega
        case rel => exact ⟨i + 1, by omega, by go_num, ⟨hnx.out⟩⟩
    · obtain rfl : gk = 0 := by omega
      obtain rfl : i = l.length := by omega
      have hgt := gtAt_none s.data.toList l fun j x hx => HM.out.2 j x (List.getElem?_eq_some_iff.1 hx).1 hx
      go_wp2_with fail
      go_ret
      refine ⟨?_, HM.out.1⟩
      rw [hr.out, hgt, if_neg (by omega)]; rfl
set_option maxHeartbeats 4000000 in
set_option maxRecDepth 100000 in
theorem put_any (w : World) (c : Cls) (v : Value) (l : List Th) (t : Th) (s : ByteArray) (b1 b2 : Option Addr) (n1 c1 n2 c2 : Nat) (hR : Rep w c v (.sl 3 (encTs l))) (hok : TsOK l) (hs : s.data.toList = t.n) (h1 : Rep w c (.slice b1 n1 c1) (.sl 8 (encV t.v))) (h2 : Rep w c (.slice b2 n2 c2) (.sl 1 (encD t.d)))
    (hv : szV t.v ≤ 1073741824) (hd : t.d.length ≤ 1073741824) :
    Calls Tryz.prog 11 #[v, .agg #[.string s, .slice b1 n1 c1, .slice b2 n2 c2]] w fun e w' => ∃ A n cap, e = .returned (.slice A n cap) ∧ Gr.Ax (TRow w' w.heap.size (.slice A n cap) (putT l t) ∧ Below w.heap.size w w') := by
  have hA : Below w.heap.size w (w.alloc (.cells #[.string s, .slice b1 n1 c1, .slice b2 n2 c2] 28)) := (Below.refl _ w).alloc (Nat.le_refl _) _
  have hAb := heap_alloc_new w (.cells #[.string s, .slice b1 n1 c1, .slice b2 n2 c2] 28)
  have hAs : (w.alloc (.cells #[.string s, .slice b1 n1 c1, .slice b2 n2 c2] 28)).heap.size = w.heap.size + 1 := by simp
  have CD := Lib.hid (drop_any _ _ v l s (hR.ext (Cp.ext_cut c hA)) hok)
  have CO := Lib.hid fun W (hB : Below w.heap.size w W) => own_any W _ t s b1 b2 n1 c1 n2 c2 hs (h1.ext (Cp.ext_cut c hB)) (h2.ext (Cp.ext_cut c hB)) hv hd
  obtain ⟨A, cap, rfl, _⟩ := things_at hR
  replace hs := Lib.hid hs
  have hl := Nat.le_trans (dropT_len l t.n) hok.1
  clear hR h1 h2
  go_enter Tryz.func11, Tryz.ntmps11
  have q0 : (w.alloc (.cells #[.string s, .slice b1 n1 c1, .slice b2 n2 c2] 28)).cell? ⟨w.heap.size, 0, none⟩ = some (.string s) := by rw [cell_of hAb]; rfl
  have q1 : (w.alloc (.cells #[.string s, .slice b1 n1 c1, .slice b2 n2 c2] 28)).cell? ⟨w.heap.size, 1, none⟩ = some (.slice b1 n1 c1) := by rw [cell_of hAb]; rfl
  have q2 : (w.alloc (.cells #[.string s, .slice b1 n1 c1, .slice b2 n2 c2] 28)).cell? ⟨w.heap.size, 2, none⟩ = some (.slice b2 n2 c2) := by rw [cell_of hAb]; rfl
  replace hA := Lib.hid hA
  go_wp2_with fail
  refine CD.out.mono ?_
  clear CD
  generalize (w.alloc (.cells #[.string s, .slice b1 n1 c1, .slice b2 n2 c2] 28)) = wA at *
  rintro e w1 ⟨A1, no, cap1, rfl, hx⟩
  have hrow1 : TRow w1 wA.heap.size (.slice A1 no cap1) (dropT l t.n) := by
    have := hx.out.row
    rw [List.take_length, hs.out] at this; exact this
  have hB1 : Below wA.heap.size wA w1 := hx.out.bel
  obtain ⟨_, _, hsh⟩ := trow_shape hrow1
  obtain rfl : no = (dropT l t.n).length := by injection hsh
  clear hsh
  have CI := Lib.hid (index_any w1 _ _ _ hrow1 hl s w.heap.size (cell_below hB1 q0))
  rw [hs.out] at CI
  have hle := gtAt_le t.n (dropT l t.n)
  generalize hout : dropT l t.n = out at *
  generalize hat : gtAt t.n out = at_ at *
  have q0 := cell_below hB1 q0
  have q1 := cell_below hB1 q1
  have q2 := cell_below hB1 q2
  replace hrow1 := Lib.hid hrow1
  replace hB1 := Lib.hid hB1
  clear hx hAb
  have go : ∀ (w2 w3 : World) (s' : ByteArray) (bo1 bo2 : Option Addr) (no1 co1 no2 co2 : Nat), Below w1.heap.size w1 w2 → s'.data.toList = t.n → Below w2.heap.size w2 w3 → Rep w3 (Kb w2.heap.size) (.slice bo1 no1 co1) (.sl 8 (encV t.v)) → Rep w3 (Kb w2.heap.size) (.slice bo2 no2 co2) (.sl 1 (encD t.d)) →
      Calls Tryz.prog 30 #[.slice A1 out.length cap1, .int .i64 at_, .slice (some ⟨w3.heap.size, 0, none⟩) 1 1] (w3.alloc (.cells #[.string s', .slice bo1 no1 co1, .slice bo2 no2 co2] 28)) fun e w' =>
        ∃ A n cap, e = .returned (.slice A n cap) ∧ Gr.Ax (TRow w' w.heap.size (.slice A n cap) (putT l t) ∧ Below w.heap.size w w') := by
    intro w2 w3 s' bo1 bo2 no1 co1 no2 co2 hB2 hs' hB3 hr1 hr2
    have hal : Below w3.heap.size w3 (w3.alloc (.cells #[.string s', .slice bo1 no1 co1, .slice bo2 no2 co2] 28)) := (Below.refl _ w3).alloc (Nat.le_refl _) _
    have hblk := trow_blk hrow1.out
    have z1 := hB1.out.size
    have z2 := hB2.size
    have z3 := hB3.size
    have hT := ((hrow1.out.below hB2).below hB3).below hal
    refine (ins_any hT (by simp; omega) hl at_ hle t w3.heap.size 28 _ _ _ (heap_alloc_new w3 _) (fun g e => by have := hblk g e; omega) (fun j a hj => ?_)).mono fun e w' ⟨A, n, cap, he, hT', hg⟩ => ⟨A, n, cap, he, ⟨?_, ?_⟩⟩
    · have k : ∀ {u a}, Rep w3 (Kb w2.heap.size) u a → Rep (w3.alloc (.cells #[.string s', .slice bo1 no1 co1, .slice bo2 no2 co2] 28)) (Kx wA.heap.size (.slice A1 out.length cap1)) u a := fun hr =>
        rep_grown (rep_Kb hr (by omega) fun g e => by have := hblk g e; omega) (grown_below _ hal) (.inl rfl)
      have hj3 := (List.getElem?_eq_some_iff.1 hj).1
      rcases (by simpa [encTh] using hj3 : j < 3) |> fun h => (by omega : j = 0 ∨ j = 1 ∨ j = 2) with rfl | rfl | rfl
      · cases hj
        refine ⟨_, rfl, ?_⟩
        rw [← hs']; exact .str _
      · cases hj; exact ⟨_, rfl, k hr1⟩
      · cases hj; exact ⟨_, rfl, k hr2⟩
    · have : putT l t = out.take at_ ++ t :: out.drop at_ := by unfold putT; rw [hout, hat]
      rw [this]
      exact hT'.base (by omega)
    · have h1 := below_upG (below_upG (below_upG (below_upG hA.out (Nat.le_refl _) hB1.out) (Nat.le_refl _) hB2) (Nat.le_refl _) hB3) (Nat.le_refl _) hal
      refine ⟨hg.os.trans h1.os, hg.tape.trans h1.tape, hg.output.trans h1.output, Nat.le_trans h1.size hg.size, fun k hk => (hg.block k (Nat.lt_of_lt_of_le hk h1.size) fun e => ?_).trans (h1.block k hk)⟩
      have := (hblk k e.symm).1
      omega
  replace go := Lib.hid go
  go_wp2_with fail
  refine CI.out.mono ?_
  clear CI
  rintro e w2 ⟨rfl, hB2⟩
  have CO := Lib.hid (CO.out w2 (below_upG (below_upG hA.out (Nat.le_refl _) hB1.out) (Nat.le_refl _) hB2))
  have q0 := cell_below hB2 q0
  have q1 := cell_below hB2 q1
  have q2 := cell_below hB2 q2
  by_cases hlt : at_ < out.length
  · rw [if_pos hlt]
    have hneg : ¬ ((at_ : Int) < 0) := by omega
    replace hB2 := Lib.hid hB2
    go_wp2_with fail
    refine CO.out.mono ?_
    rintro e w3 ⟨s', bo1, bo2, no1, co1, no2, co2, rfl, hs', hB3, hr1, hr2⟩
    have CG := Lib.hid (go.out w2 w3 s' bo1 bo2 no1 co1 no2 co2 hB2.out hs' hB3 hr1 hr2)
    clear hs' hB3 hr1 hr2 CO
    go_wp2_with fail
    refine CG.out.mono ?_
    rintro e w4 ⟨A4, n4, cap4, rfl, hz⟩
    go_wp2_with fail
    go_ret
    exact ⟨_, _, _, rfl, hz⟩
  · rw [if_neg hlt]
    obtain rfl : at_ = out.length := by omega
    replace hB2 := Lib.hid hB2
    go_wp2_with fail
    refine CO.out.mono ?_
    rintro e w3 ⟨s', bo1, bo2, no1, co1, no2, co2, rfl, hs', hB3, hr1, hr2⟩
    have CG := Lib.hid (go.out w2 w3 s' bo1 bo2 no1 co1 no2 co2 hB2.out hs' hB3 hr1 hr2)
    clear hs' hB3 hr1 hr2 CO
    go_wp2_with fail
    refine CG.out.mono ?_
    rintro e w4 ⟨A4, n4, cap4, rfl, hz⟩
    go_wp2_with fail
    go_ret
    exact ⟨_, _, _, rfl, hz⟩
end Go.Proofs.YtffojfcinkihnaaGreatDoor.Th
