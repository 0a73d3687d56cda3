/- The laws of names: the examples and what the laws return. -/
import Derived.Test.YteonbgknmpobpaaDoorNF
namespace Go.Proofs.YteonbgknmpobpaaDoor.NG
open Go.RowKit Go.Proofs.YteonbgknmpobpaaDoorW.PrintWords Go.Proofs.YteonbgknmpobpaaDoorW.PrintLast Go.Proofs.YteonbgknmpobpaaDoorW.PrintMore
open Go.Proofs.YteonbgknmpobpaaDoor.NX Go.Proofs.YteonbgknmpobpaaDoor.NW Go.Proofs.YteonbgknmpobpaaDoor.NR Go.Proofs.YteonbgknmpobpaaDoor.NP Go.Proofs.YteonbgknmpobpaaDoor.NQ Go.Proofs.YteonbgknmpobpaaDoor.NS Go.Proofs.YteonbgknmpobpaaDoor.NC Go.Proofs.YteonbgknmpobpaaDoor.ND Go.Proofs.YteonbgknmpobpaaDoor.NE Go.Proofs.YteonbgknmpobpaaDoor.NF
set_option linter.unusedVariables false

def ab1 : B := ⟨#[97, 46, 98, 49]⟩
def atrue : B := ⟨#[97, 46, 116, 114, 117, 101]⟩
theorem split_ab1 : splitV ab1 = [⟨#[97]⟩, ⟨#[98, 49]⟩] := by decide +kernel
theorem split_atrue : splitV atrue = [] := by decide +kernel
theorem word_true : wordV (⟨#[116, 114, 117, 101]⟩ : B).toList = 9 := by decide +kernel
set_option maxHeartbeats 1000000 in
theorem awake_any (w : World) (hG : Gl w) : Calls Tryd.prog 18 #[] w fun e w' => e = .returned (.bool true) ∧ Below w.heap.size w w' := by
  have C1 := split_any ab1 w hG
  unfold SplitPost at C1
  rw [split_ab1] at C1
  have C1 := Lib.hid C1
  have C2 := Aside0.mk fun wx (h : Below w.heap.size w wx) => by
    have := split_any atrue wx (hG.below h)
    unfold SplitPost at this
    rw [split_atrue] at this
    exact this
  have C3 := Aside0.mk fun wx (h : Below w.heap.size w wx) => by
    have := word_any ⟨#[116, 114, 117, 101]⟩ wx (hG.below h).words
    rw [word_true] at this
    exact this
  clear hG
  go_enter Tryd.func18, Tryd.ntmps18
  go_wp2_with fail
  refine C1.out.mono ?_
  rintro e w1 ⟨A, c, rfl, hc, hR, hB⟩
  obtain ⟨ad, rfl, h1⟩ := reads_at hR 1 (by decide)
  have h1' : w1.cell? (ad.add 1) = some (.string ⟨#[98, 49]⟩) := h1
  have C4 := Lib.hid (C2.out w1 hB)
  have HB := Lib.hid hB
  clear hB hR h1 hc
  go_wp2_with fail
  refine C4.out.mono ?_
  rintro e w2 ⟨A2, c2, rfl, hc2, hR2, hB2⟩
  have h2 : w2.cell? ⟨ad.block, ad.off + 1, none⟩ = some (.string ⟨#[98, 49]⟩) := pw_cell_below hB2 h1'
  have HB2 := Lib.hid (below_on HB.out hB2)
  have C5 := Lib.hid (C3.out w2 HB2.out)
  clear hB2 hR2 h1' hc2
  go_wp2_with fail
  refine C5.out.mono ?_
  rintro e w3 ⟨rfl, rfl⟩
  go_wp2_with fail
  go_ret
  exact ⟨rfl, HB2.out⟩

/-- The list came in so: its cells, and no text is too long to reckon. -/
structure In (w : World) (A : Option Addr) (c : Nat) (l : List B) : Prop where
  reads : Reads w A l.length l
  cap : l.length ≤ c
  len : l.length ≤ 4611686018427387904
  sizes : ∀ i, i < l.length → (nth l i).size ≤ 4611686018427387904
theorem few_any (A : Option Addr) (c : Nat) (l : List B) (w : World) (h : In w A c l) :
    ∃ r, (r = true → l.length ≤ 400 ∧ ∀ j, j < l.length → (nth l j).size ≤ 400) ∧ Calls Tryd.prog 17 #[.slice A l.length c] w fun e w' => e = .returned (.bool r) ∧ Below w.heap.size w w' := by
  obtain ⟨r, e, hr⟩ := few_is l h.sizes h.len
  exact ⟨r, hr, (treillagelaw02_few.calls _ A c l r w (Kd.C_of_reads h.reads) h.cap e).mono fun e w' (h : _ ∧ _) => ⟨h.1, h.2.below⟩⟩
theorem refPath_any (A : Option Addr) (c : Nat) (l : List B) (w : World) (hr : Reads w A l.length l) (hc : l.length ≤ c) (hl : l.length ≤ 400) (hs : ∀ j, j < l.length → (nth l j).size ≤ 400) :
    Calls Tryd.prog 24 #[.slice A l.length c] w fun e w' => e = .returned (.bool (pathV l)) ∧ Below w.heap.size w w' :=
  (treillageref02_Path.calls _ A c l _ w (Kd.C_of_reads hr) hc (refPath_is l hs (by omega) (l.length + 404) (by omega))).mono fun e w' (h : _ ∧ _) => ⟨h.1, h.2.below⟩
theorem refText_any (A : Option Addr) (c : Nat) (l : List B) (w : World) (hr : Reads w A l.length l) (hc : l.length ≤ c) (hl : l.length ≤ 400) (hs : ∀ j, j < l.length → (nth l j).size ≤ 400) :
    Calls Tryd.prog 30 #[.slice A l.length c] w fun e w' => e = .returned (.string (textV l)) ∧ Below w.heap.size w w' :=
  (treillageref02_Text.calls _ A c l _ w (Kd.C_of_reads hr) hc (refText_is l hs hl)).mono fun e w' (h : _ ∧ _) => ⟨h.1, h.2.below⟩
theorem refSplit_any (s : B) (w : World) (hs : s.size ≤ 400) :
    Calls Tryd.prog 28 #[.string s] w fun e w' => ∃ A c, e = .returned (.slice A (splitV s).length c) ∧ (splitV s).length ≤ c ∧ Reads w' A (splitV s).length (splitV s) ∧ Below w.heap.size w w' :=
  (treillageref02_Split.calls _ s _ w (refSplit_is s hs)).mono fun e w' ⟨v, he, hR, hB⟩ => by
    obtain ⟨A, c, rfl⟩ := Kd.R_slice hR
    obtain ⟨_, hc, hC⟩ := Kd.R_reads' hR
    exact ⟨A, c, he, hc, Kd.reads_of_C hC, hB⟩
theorem same_any (A0 A1 : Option Addr) (c0 c1 : Nat) (a b : List B) (w : World) (h0 : Reads w A0 a.length a) (hc0 : a.length ≤ c0) (h1 : Reads w A1 b.length b) (hc1 : b.length ≤ c1) (hl : a.length ≤ 4611686018427387904) :
    Calls Tryd.prog 31 #[.slice A0 a.length c0, .slice A1 b.length c1] w fun e w' => e = .returned (.bool (sameV a b)) ∧ Below w.heap.size w w' :=
  (treillageref02_Same.calls _ A0 c0 a A1 c1 b _ w (Kd.C_of_reads h0) hc0 (Kd.C_of_reads h1) hc1 (same_is a b hl)).mono fun e w' (h : _ ∧ _) => ⟨h.1, h.2.below⟩
theorem right_ref (s : B) (w : World) (hs : s.size ≤ 400) : Calls Tryd.prog 22 #[.string s] w fun e w' => e = .returned (.bool (rightV s.data.toList)) ∧ Below w.heap.size w w' :=
  (refRight_any s w (by omega)).mono fun e w' (h : _ ∧ _) => ⟨h.1, h.2.below⟩
theorem rising_ref (A : Option Addr) (c : Nat) (l : List B) (w : World) (hr : Reads w A l.length l) (hl : l.length ≤ 400) (hs : ∀ j, j < l.length → (nth l j).size ≤ 400) :
    Calls Tryd.prog 26 #[.slice A l.length c] w fun e w' => e = .returned (.bool (risingV l)) ∧ Below w.heap.size w w' :=
  (refRising_any A c l w hs hl hr).mono fun e w' (h : _ ∧ _) => ⟨h.1, h.2.below⟩
theorem ret_awake {w wx : World} (h : Below w.heap.size w wx) (hc : Calls Tryd.prog 18 #[] wx fun e w' => e = .returned (.bool true) ∧ Below wx.heap.size wx w') : Calls Tryd.prog 18 #[] wx fun e w' => e = .returned (.bool true) ∧ Below w.heap.size w w' :=
  hc.mono fun e w' ⟨a, b⟩ => ⟨a, below_on h b⟩

set_option maxHeartbeats 2000000 in
theorem rights_any (s : B) (A : Option Addr) (c : Nat) (l : List B) (w : World) (hG : Gl w) (hi : In w A c l) :
    Calls Tryd.prog 6 #[.string s, .slice A l.length c] w fun e w' => e = .returned (.bool true) ∧ Below w.heap.size w w' := by
  have CA := Aside0.mk fun wx (h : Below w.heap.size w wx) => ret_awake h (awake_any wx (hG.below h))
  obtain ⟨r, hf, C0⟩ := few_any A c l w hi
  by_cases h400 : 400 < s.size
  · have CA0 := Lib.hid (CA.out w (Below.refl _ _))
    have HI := Lib.hid hi
    clear hi C0 hf
    go_enter Tryd.func6, Tryd.ntmps6
    go_wp2_with fail
    refine CA0.out.mono ?_
    rintro e w1 ⟨rfl, hB⟩
    have HB := Lib.hid hB
    clear hB
    go_wp2_with fail
    go_ret
    exact ⟨rfl, HB.out⟩
  · have h401 : decide (400 < (s.size : Int)) = false := decide_eq_false (by omega)
    cases r
    · have C0 := Lib.hid C0
      have HI := Lib.hid hi
      clear hi hf h400
      go_enter Tryd.func6, Tryd.ntmps6
      go_wp2_with fail
      refine C0.out.mono ?_
      rintro e w1 ⟨rfl, hB⟩
      have CA0 := Lib.hid (CA.out w1 hB)
      clear hB
      go_wp2_with fail
      refine CA0.out.mono ?_
      rintro e w1 ⟨rfl, hB⟩
      have HB := Lib.hid hB
      clear hB
      go_wp2_with fail
      go_ret
      exact ⟨rfl, HB.out⟩
    · obtain ⟨hl, hs⟩ := hf rfl
      have C0 := Lib.hid C0
      have W1 := Aside0.mk fun wx (h : Below w.heap.size w wx) => word_any s wx (hG.below h).words
      have W2 := Aside0.mk fun wx => refWord_any s wx
      have R1 := Aside0.mk fun wx (h : Below w.heap.size w wx) => right_any s wx (hG.below h).words
      have R2 := Aside0.mk fun wx => right_ref s wx (by omega)
      have P1 := Aside0.mk fun wx (h : Below w.heap.size w wx) => path_any A c l wx (hG.below h).words (hi.reads.below h)
      have P2 := Aside0.mk fun wx (h : Below w.heap.size w wx) => refPath_any A c l wx (hi.reads.below h) hi.cap hl hs
      have G1 := Aside0.mk fun wx (h : Below w.heap.size w wx) => rising_any A c l wx (hG.below h).words (hi.reads.below h)
      have G2 := Aside0.mk fun wx (h : Below w.heap.size w wx) => rising_ref A c l wx (hi.reads.below h) hl hs
      clear hi hf h400 hG hl hs
      generalize wordV s.toList = v at W1 W2
      generalize rightV s.data.toList = r at R1 R2
      generalize pathV l = p at P1 P2
      generalize risingV l = g at G1 G2
      go_enter Tryd.func6, Tryd.ntmps6
      go_wp2_with fail
      refine C0.out.mono ?_
      rintro e w1 ⟨rfl, hB⟩
      have CA0 := Lib.hid (CA.out w1 hB)
      clear hB
      go_wp2_with fail
      refine CA0.out.mono ?_
      rintro e w2 ⟨rfl, hB⟩
      have C1 := Lib.hid (W1.out w2 hB)
      have HB := Lib.hid hB
      clear hB
      go_wp2_with fail
      refine C1.out.mono ?_
      rintro e w3 ⟨rfl, rfl⟩
      have C2 := Lib.hid (W2.out w2)
      go_wp2_with fail
      refine C2.out.mono ?_
      rintro e w3 ⟨rfl, hD⟩
      have HB3 := Lib.hid (below_on HB.out hD.below)
      clear hD
      have C3 := Lib.hid (R1.out w3 HB3.out)
      go_wp2_with fail
      refine C3.out.mono ?_
      rintro e w4 ⟨rfl, hB⟩
      have HB4 := Lib.hid (below_on HB3.out hB)
      clear hB
      have C4 := Lib.hid (R2.out w4)
      go_wp2_with fail
      refine C4.out.mono ?_
      rintro e w5 ⟨rfl, hB⟩
      have HB5 := Lib.hid (below_on HB4.out hB)
      clear hB
      have C5 := Lib.hid (P1.out w5 HB5.out)
      go_wp2_with fail
      refine C5.out.mono ?_
      rintro e w6 ⟨rfl, hB⟩
      have HB6 := Lib.hid (below_on HB5.out hB)
      clear hB
      have C6 := Lib.hid (P2.out w6 HB6.out)
      go_wp2_with fail
      refine C6.out.mono ?_
      rintro e w7 ⟨rfl, hB⟩
      have HB7 := Lib.hid (below_on HB6.out hB)
      clear hB
      have C7 := Lib.hid (G1.out w7 HB7.out)
      go_wp2_with fail
      refine C7.out.mono ?_
      rintro e w8 ⟨rfl, hB⟩
      have HB8 := Lib.hid (below_on HB7.out hB)
      clear hB
      have C8 := Lib.hid (G2.out w8 HB8.out)
      go_wp2_with fail
      refine C8.out.mono ?_
      rintro e w9 ⟨rfl, hB⟩
      have HB9 := Lib.hid (below_on HB8.out hB)
      clear hB
      go_wp2_with fail
      go_ret
      exact ⟨by simp, HB9.out⟩

/-! ### Split and Text -/
theorem lenD (s : B) : decide (0 < ((splitV s).length : Int)) = decide (0 < (splitV s).length) := decide_eq_decide.2 (by omega)
theorem splitV_len (s : B) (h : s.size ≤ 400) : (splitV s).length ≤ 401 := by
  have := cut_len s.data.toList
  rw [sizeL] at this
  unfold splitV fin
  split
  · rw [toB_len]; omega
  · simp
theorem text_ne (l : List B) : ((textV l).toList != ([] : List UInt8)) = pathV l := by
  unfold textV
  cases hv : pathV l
  · rw [if_neg (by simp), Lib.toList_data]; rfl
  · rw [if_pos rfl]
    rw [pathV_L] at hv
    rw [bne_iff_ne, Lib.toList_data]
    exact join_ne _ hv
set_option maxHeartbeats 2000000 in
theorem splits_any (s : B) (A : Option Addr) (c : Nat) (l : List B) (w : World) (hG : Gl w) (hi : In w A c l) :
    Calls Tryd.prog 7 #[.string s, .slice A l.length c] w fun e w' => e = .returned (.bool true) ∧ Below w.heap.size w w' := by
  have CA := Aside0.mk fun wx (h : Below w.heap.size w wx) => ret_awake h (awake_any wx (hG.below h))
  obtain ⟨r, hf, C0⟩ := few_any A c l w hi
  by_cases h400 : 400 < s.size
  · have CA0 := Lib.hid (CA.out w (Below.refl _ _))
    have HI := Lib.hid hi
    clear hi C0 hf
    go_enter Tryd.func7, Tryd.ntmps7
    go_wp2_with fail
    refine CA0.out.mono ?_
    rintro e w1 ⟨rfl, hB⟩
    have HB := Lib.hid hB
    clear hB
    go_wp2_with fail
    go_ret
    exact ⟨rfl, HB.out⟩
  · have h401 : decide (400 < (s.size : Int)) = false := decide_eq_false (by omega)
    cases r
    · have C0 := Lib.hid C0
      have HI := Lib.hid hi
      clear hi hf h400
      go_enter Tryd.func7, Tryd.ntmps7
      go_wp2_with fail
      refine C0.out.mono ?_
      rintro e w1 ⟨rfl, hB⟩
      have CA0 := Lib.hid (CA.out w1 hB)
      clear hB
      go_wp2_with fail
      refine CA0.out.mono ?_
      rintro e w1 ⟨rfl, hB⟩
      have HB := Lib.hid hB
      clear hB
      go_wp2_with fail
      go_ret
      exact ⟨rfl, HB.out⟩
    · obtain ⟨hl, hs⟩ := hf rfl
      have C0 := Lib.hid C0
      have CR := Aside0.mk fun wx (h : Below w.heap.size w wx) => awake_any wx (hG.below h)
      have hq : (splitV s).length ≤ 401 := splitV_len s (by omega)
      have S1 := Aside0.mk fun wx (h : Below w.heap.size w wx) => split_any s wx (hG.below h)
      have S2 := Aside0.mk fun wx => refSplit_any s wx (by omega)
      have T1 := Aside0.mk fun wx (h : Below w.heap.size w wx) => text_any A c l wx (hG.below h) hi.cap (hi.reads.below h)
      have T2 := Aside0.mk fun wx (h : Below w.heap.size w wx) => refText_any A c l wx (hi.reads.below h) hi.cap hl hs
      have hne := text_ne l
      have hlen := lenD s
      unfold SplitPost at S1
      clear hi hf h400 hG hl hs
      generalize pathV l = p at T1 hne
      generalize textV l = t at T1 T2 hne
      generalize splitV s = q at S1 S2 hlen hq
      generalize decide (0 < q.length) = d at S1 hlen
      have hne2 : (t.toList == ([] : List UInt8)) = !p := by rw [← hne]; simp [bne]
      have hne3 : t.toList.isEmpty = !p := by rw [← hne]; cases t.toList <;> rfl
      go_enter Tryd.func7, Tryd.ntmps7
      go_wp2_with fail
      refine C0.out.mono ?_
      rintro e w1 ⟨rfl, hB⟩
      have C1 := Lib.hid (S1.out w1 hB)
      have HB := Lib.hid hB
      clear hB
      go_wp2_with fail
      refine C1.out.mono ?_
      rintro e w2 ⟨A1, c1, rfl, hc1, hR1, hB⟩
      have HB2 := Lib.hid (below_on HB.out hB)
      clear hB
      have C2 := Lib.hid (S2.out w2)
      have X1 := Lib.hid (And.intro hc1 hR1)
      clear hc1 hR1
      go_wp2_with fail
      refine C2.out.mono ?_
      rintro e w3 ⟨A2, c2, rfl, hc2, hR2, hB⟩
      have HB3 := Lib.hid (below_on HB2.out hB)
      have X2 := Lib.hid (And.intro hc2 hR2)
      have X1' := Lib.hid (And.intro X1.out.1 (X1.out.2.below hB))
      clear hB hc2 hR2 X1
      have C3 := Lib.hid (T1.out w3 HB3.out)
      go_wp2_with fail
      refine C3.out.mono ?_
      rintro e w4 ⟨rfl, hB⟩
      have HB4 := Lib.hid (below_on HB3.out hB)
      have Y1 := Lib.hid (And.intro X1'.out.1 (X1'.out.2.below hB))
      have Y2 := Lib.hid (And.intro X2.out.1 (X2.out.2.below hB))
      clear hB X1' X2
      have C4 := Lib.hid (T2.out w4 HB4.out)
      go_wp2_with fail
      refine C4.out.mono ?_
      rintro e w5 ⟨rfl, hB⟩
      have HB5 := Lib.hid (below_on HB4.out hB)
      have Z1 := Lib.hid (And.intro Y1.out.1 (Y1.out.2.below hB))
      have Z2 := Lib.hid (And.intro Y2.out.1 (Y2.out.2.below hB))
      clear hB Y1 Y2
      have C5 := Lib.hid (CR.out w5 HB5.out)
      go_wp2_with fail
      refine C5.out.mono ?_
      rintro e w6 ⟨rfl, hB⟩
      have HB6 := Lib.hid (below_on HB5.out hB)
      have C6 := same_any A1 A2 c1 c2 q q w6 (Z1.out.2.below hB) Z1.out.1 (Z2.out.2.below hB) Z2.out.1 (by omega)
      rw [same_self] at C6
      have C6 := Lib.hid C6
      clear hB Z1 Z2
      go_wp2_with fail
      refine C6.out.mono ?_
      rintro e w7 ⟨rfl, hB⟩
      have HB7 := Lib.hid (below_on HB6.out hB)
      clear hB
      cases d
      · have hq0 : decide (0 < q.length) = false := by rw [decide_eq_false_iff_not] at hlen ⊢; omega
        cases p
        · go_wp2_with fail
          go_ret
          exact ⟨by simp, HB7.out⟩
        · go_wp2_with fail
          go_ret
          exact ⟨by simp, HB7.out⟩
      · have hq0 : decide (0 < q.length) = true := by rw [decide_eq_true_iff] at hlen ⊢; omega
        cases p
        · go_wp2_with fail
          go_ret
          exact ⟨by simp, HB7.out⟩
        · go_wp2_with fail
          go_ret
          exact ⟨by simp, HB7.out⟩
end Go.Proofs.YteonbgknmpobpaaDoor.NG
