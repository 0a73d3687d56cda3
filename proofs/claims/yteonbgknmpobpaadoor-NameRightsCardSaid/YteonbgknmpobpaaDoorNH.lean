/- The law NameBack: what it returns. -/
import Derived.Test.YteonbgknmpobpaaDoorNG
namespace Go.Proofs.YteonbgknmpobpaaDoor.NH
open Go.RowKit Go.Proofs.YteonbgknmpobpaaDoorW.PrintWords Go.Proofs.YteonbgknmpobpaaDoorW.PrintLast Go.Proofs.YteonbgknmpobpaaDoorW.PrintMore
open Go.Proofs.YteonbgknmpobpaaDoor.NX Go.Proofs.YteonbgknmpobpaaDoor.NW Go.Proofs.YteonbgknmpobpaaDoor.NR Go.Proofs.YteonbgknmpobpaaDoor.NP Go.Proofs.YteonbgknmpobpaaDoor.NQ Go.Proofs.YteonbgknmpobpaaDoor.NS Go.Proofs.YteonbgknmpobpaaDoor.NC Go.Proofs.YteonbgknmpobpaaDoor.ND Go.Proofs.YteonbgknmpobpaaDoor.NE Go.Proofs.YteonbgknmpobpaaDoor.NF Go.Proofs.YteonbgknmpobpaaDoor.NG
set_option linter.unusedVariables false

theorem text_split (s : B) (h : 0 < (splitV s).length) : textV (splitV s) = s ∧ pathV (splitV s) = true := by
  cases hv : pathV (toB (cutD s.data.toList))
  · rw [fin_no s hv] at h; simp at h
  · rw [fin_yes s hv]
    refine ⟨?_, hv⟩
    unfold textV
    rw [if_pos hv, dat_toB, join_cut, mk_data]
theorem split_text (l : List B) (h : pathV l = true) : splitV (textV l) = l := by
  have hL := h
  rw [pathV_L] at hL
  obtain ⟨h1, h2, h3⟩ := pathL_parts _ hL
  have e : cutD (Lib.join (dat l) [46]) = dat l := cut_join _ (by intro e; rw [e] at h1; simp at h1) (fun x hx => right_dot x (h3 x hx))
  have e2 : (textV l).data.toList = Lib.join (dat l) [46] := by unfold textV; rw [if_pos h]
  have e3 : toB (cutD (textV l).data.toList) = l := by rw [e2, e, toB_dat]
  rw [fin_yes _ (by rw [e3]; exact h), e3]

set_option maxHeartbeats 4000000 in
theorem back_any (s : B) (A : Option Addr) (c : Nat) (l : List B) (w : World) (hG : Gl w) (hi : In w A c l) :
    Calls Tryd.prog 8 #[.string s, .slice A l.length c] w fun e w' => e = .returned (.bool true) ∧ Below w.heap.size w w' := by
  have CA := Aside0.mk fun wx (h : Below w.heap.size w wx) => ret_awake h (awake_any wx (hG.below h))
  obtain ⟨r, hf, C0⟩ := few_any A c l w hi
  by_cases h400 : 400 < s.size
  · have CA0 := Lib.hid (CA.out w (Below.refl _ _))
    have HI := Lib.hid hi
    clear hi C0 hf
    go_enter Tryd.func8, Tryd.ntmps8
    go_wp2_with fail
    refine CA0.out.mono ?_
    rintro e w1 ⟨rfl, hB⟩
    have HB := Lib.hid hB
    clear hB
    go_wp2_with fail
    go_ret
    exact ⟨rfl, HB.out⟩
  · have h401 : decide (400 < (s.size : Int)) = false := decide_eq_false (by omega)
    cases r
    · have C0 := Lib.hid C0
      have HI := Lib.hid hi
      clear hi hf h400
      go_enter Tryd.func8, Tryd.ntmps8
      go_wp2_with fail
      refine C0.out.mono ?_
      rintro e w1 ⟨rfl, hB⟩
      have CA0 := Lib.hid (CA.out w1 hB)
      clear hB
      go_wp2_with fail
      refine CA0.out.mono ?_
      rintro e w1 ⟨rfl, hB⟩
      have HB := Lib.hid hB
      clear hB
      go_wp2_with fail
      go_ret
      exact ⟨rfl, HB.out⟩
    · obtain ⟨hl, hs⟩ := hf rfl
      have C0 := Lib.hid C0
      have S1 := Aside0.mk fun wx (h : Below w.heap.size w wx) => split_any s wx (hG.below h)
      unfold SplitPost at S1
      have TS := Aside0.mk (text_split s)
      have T0 := Aside0.mk fun wx (h : Below w.heap.size w wx) (A1 : Option Addr) (c1 : Nat) (q : List B) (hc : q.length ≤ c1) (hr : Reads wx A1 q.length q) => text_any A1 c1 q wx (hG.below h) hc hr
      have T1 := Aside0.mk fun wx (h : Below w.heap.size w wx) => text_any A c l wx (hG.below h) hi.cap (hi.reads.below h)
      have S2 : Aside0 (pathV l = true → ∀ wx, Below w.heap.size w wx → Calls Tryd.prog 27 #[.string (textV l)] wx fun e w' => ∃ A c, e = .returned (.tuple #[.slice A l.length c, .bool true]) ∧ l.length ≤ c ∧ Reads w' A l.length l ∧ Below wx.heap.size wx w') := ⟨fun hp wx hB => by
        have := split_any (textV l) wx (hG.below hB)
        unfold SplitPost at this
        rw [split_text l hp, decide_eq_true (fin_len l hp)] at this
        exact this⟩
      have M : Aside0 (∀ wx, Below w.heap.size w wx → ∀ A1 c1, l.length ≤ c1 → Reads wx A1 l.length l → Calls Tryd.prog 31 #[.slice A1 l.length c1, .slice A l.length c] wx fun e w' => e = .returned (.bool true) ∧ Below wx.heap.size wx w') := ⟨fun wx hB A1 c1 hc hr => by
        have := same_any A1 A c1 c l l wx hr hc (hi.reads.below hB) hi.cap (by omega)
        rw [same_self] at this
        exact this⟩
      clear hi hf h400 hG hl hs
      generalize textV l = t at T1 S2
      by_cases h0 : 0 < (splitV s).length
      · obtain ⟨e1, e2⟩ := TS.out h0
        rw [decide_eq_true h0] at S1
        clear h0 TS
        generalize splitV s = q at S1 e1 e2
        have T0 : Aside0 (∀ wx, Below w.heap.size w wx → ∀ (A1 : Option Addr) (c1 : Nat), q.length ≤ c1 → Reads wx A1 q.length q → Calls Tryd.prog 29 #[.slice A1 q.length c1] wx fun e w' => e = .returned (.tuple #[.string s, .bool true]) ∧ Below wx.heap.size wx w') := ⟨fun wx hB A1 c1 hc hr => by
          have := T0.out wx hB A1 c1 q hc hr
          rw [e1, e2] at this
          exact this⟩
        clear e1 e2
        cases hp : pathV l
        · rw [hp] at T1
          clear hp S2 M
          go_enter Tryd.func8, Tryd.ntmps8
          go_wp2_with fail
          refine C0.out.mono ?_
          rintro e w1 ⟨rfl, hB⟩
          have C1 := Lib.hid (S1.out w1 hB)
          have HB := Lib.hid hB
          clear hB
          go_wp2_with fail
          refine C1.out.mono ?_
          rintro e w2 ⟨A1, c1, rfl, hc1, hR1, hB⟩
          have HB2 := Lib.hid (below_on HB.out hB)
          clear hB
          have C2 := Lib.hid (T0.out w2 HB2.out A1 c1 hc1 hR1)
          clear hc1 hR1
          go_wp2_with fail
          refine C2.out.mono ?_
          rintro e w3 ⟨rfl, hB⟩
          have HB3 := Lib.hid (below_on HB2.out hB)
          clear hB
          have C3 := Lib.hid (T1.out w3 HB3.out)
          go_wp2_with fail
          refine C3.out.mono ?_
          rintro e w4 ⟨rfl, hB⟩
          have HB4 := Lib.hid (below_on HB3.out hB)
          clear hB
          have C4 := Lib.hid (CA.out w4 HB4.out)
          go_wp2_with fail
          refine C4.out.mono ?_
          rintro e w5 ⟨rfl, hB⟩
          have HB5 := Lib.hid hB
          clear hB
          go_wp2_with fail
          go_ret
          exact ⟨rfl, HB5.out⟩
        · have S2 := Aside0.mk (S2.out hp)
          rw [hp] at T1
          clear hp
          go_enter Tryd.func8, Tryd.ntmps8
          go_wp2_with fail
          refine C0.out.mono ?_
          rintro e w1 ⟨rfl, hB⟩
          have C1 := Lib.hid (S1.out w1 hB)
          have HB := Lib.hid hB
          clear hB
          go_wp2_with fail
          refine C1.out.mono ?_
          rintro e w2 ⟨A1, c1, rfl, hc1, hR1, hB⟩
          have HB2 := Lib.hid (below_on HB.out hB)
          clear hB
          have C2 := Lib.hid (T0.out w2 HB2.out A1 c1 hc1 hR1)
          clear hc1 hR1
          go_wp2_with fail
          refine C2.out.mono ?_
          rintro e w3 ⟨rfl, hB⟩
          have HB3 := Lib.hid (below_on HB2.out hB)
          clear hB
          have C3 := Lib.hid (T1.out w3 HB3.out)
          go_wp2_with fail
          refine C3.out.mono ?_
          rintro e w4 ⟨rfl, hB⟩
          have HB4 := Lib.hid (below_on HB3.out hB)
          clear hB
          have C4 := Lib.hid (S2.out w4 HB4.out)
          go_wp2_with fail
          refine C4.out.mono ?_
          rintro e w5 ⟨A2, c2, rfl, hc2, hR2, hB⟩
          have HB5 := Lib.hid (below_on HB4.out hB)
          have C5 := Lib.hid (M.out w5 HB5.out A2 c2 hc2 hR2)
          clear hB hc2 hR2
          go_wp2_with fail
          refine C5.out.mono ?_
          rintro e w6 ⟨rfl, hB⟩
          have HB6 := Lib.hid (below_on HB5.out hB)
          clear hB
          have C6 := Lib.hid (CA.out w6 HB6.out)
          go_wp2_with fail
          refine C6.out.mono ?_
          rintro e w7 ⟨rfl, hB⟩
          have HB7 := Lib.hid hB
          clear hB
          go_wp2_with fail
          go_ret
          exact ⟨rfl, HB7.out⟩
      · rw [decide_eq_false h0] at S1
        clear h0 TS T0
        generalize splitV s = q at S1
        cases hp : pathV l
        · rw [hp] at T1
          clear hp S2 M
          go_enter Tryd.func8, Tryd.ntmps8
          go_wp2_with fail
          refine C0.out.mono ?_
          rintro e w1 ⟨rfl, hB⟩
          have C1 := Lib.hid (S1.out w1 hB)
          have HB := Lib.hid hB
          clear hB
          go_wp2_with fail
          refine C1.out.mono ?_
          rintro e w2 ⟨A1, c1, rfl, hc1, hR1, hB⟩
          have HB2 := Lib.hid (below_on HB.out hB)
          clear hB
          have C2 := Lib.hid (T1.out w2 HB2.out)
          clear hc1 hR1
          go_wp2_with fail
          refine C2.out.mono ?_
          rintro e w4 ⟨rfl, hB⟩
          have HB4 := Lib.hid (below_on HB2.out hB)
          clear hB
          have C4 := Lib.hid (CA.out w4 HB4.out)
          go_wp2_with fail
          refine C4.out.mono ?_
          rintro e w5 ⟨rfl, hB⟩
          have HB5 := Lib.hid hB
          clear hB
          go_wp2_with fail
          go_ret
          exact ⟨rfl, HB5.out⟩
        · have S2 := Aside0.mk (S2.out hp)
          rw [hp] at T1
          clear hp
          go_enter Tryd.func8, Tryd.ntmps8
          go_wp2_with fail
          refine C0.out.mono ?_
          rintro e w1 ⟨rfl, hB⟩
          have C1 := Lib.hid (S1.out w1 hB)
          have HB := Lib.hid hB
          clear hB
          go_wp2_with fail
          refine C1.out.mono ?_
          rintro e w2 ⟨A1, c1, rfl, hc1, hR1, hB⟩
          have HB2 := Lib.hid (below_on HB.out hB)
          clear hB
          have C2 := Lib.hid (T1.out w2 HB2.out)
          clear hc1 hR1
          go_wp2_with fail
          refine C2.out.mono ?_
          rintro e w4 ⟨rfl, hB⟩
          have HB4 := Lib.hid (below_on HB2.out hB)
          clear hB
          have C4 := Lib.hid (S2.out w4 HB4.out)
          go_wp2_with fail
          refine C4.out.mono ?_
          rintro e w5 ⟨A2, c2, rfl, hc2, hR2, hB⟩
          have HB5 := Lib.hid (below_on HB4.out hB)
          have C5 := Lib.hid (M.out w5 HB5.out A2 c2 hc2 hR2)
          clear hB hc2 hR2
          go_wp2_with fail
          refine C5.out.mono ?_
          rintro e w6 ⟨rfl, hB⟩
          have HB6 := Lib.hid (below_on HB5.out hB)
          clear hB
          have C6 := Lib.hid (CA.out w6 HB6.out)
          go_wp2_with fail
          refine C6.out.mono ?_
          rintro e w7 ⟨rfl, hB⟩
          have HB7 := Lib.hid hB
          clear hB
          go_wp2_with fail
          go_ret
          exact ⟨rfl, HB7.out⟩
end Go.Proofs.YteonbgknmpobpaaDoor.NH
