/- The law treillagelaw30.StatePuts, walked. -/
import Derived.Test.YtffojfcinkihnaaGreatDoorSC
import Derived.Deep.RegionHeld3
import Derived.Deep.RegionWith
set_option linter.unusedVariables false
set_option linter.unusedSimpArgs false
set_option linter.unusedSectionVars false
set_option linter.deprecated false
set_option linter.unnecessarySimpa false
namespace Go.Proofs.YtffojfcinkihnaaGreatDoor.Th
open Go.RowKit Go.Lib Go.Proofs.YtffojfcinkihnaaGreatDoor.Abs Go.Proofs.YtffojfcinkihnaaGreatDoor.Lat Go.Proofs.YtffojfcinkihnaaGreatDoor.Lat.Cp Go.Proofs.YtffojfcinkihnaaGreatDoor.Gr
set_option linter.unusedVariables false
set_option maxHeartbeats 8000000 in
set_option maxRecDepth 100000 in
theorem puts_any {W0 : World} {v : Value} {l : List Th} {t : Th} {s s2 : ByteArray} {b1 b2 : Option Addr} {n1 c1 n2 c2 : Nat} (h : Pl W0 [(v, .sl 3 (encTs l)), (.slice b1 n1 c1, .sl 8 (encV t.v)), (.slice b2 n2 c2, .sl 1 (encD t.d))] W0) (hs : s.data.toList = t.n) :
    Calls Tryz.prog 3 #[v, .agg #[.string s, .slice b1 n1 c1, .slice b2 n2 c2], .string s2] W0 fun e w' => e = .returned (.bool true) ∧ Below W0.heap.size W0 w' := by
  obtain ⟨x, hx, hxs⟩ := fewT_is l
  obtain ⟨y, hy, hys⟩ := fewT_is [t]
  have hAb := heap_alloc_new W0 (.cells #[.string s, .slice b1 n1 c1, .slice b2 n2 c2] 28)
  have hA0 : Below W0.heap.size W0 (W0.alloc (.cells #[.string s, .slice b1 n1 c1, .slice b2 n2 c2] 28)) := (Below.refl _ W0).alloc (Nat.le_refl _) _
  have hA := (h.alloc (.cells #[.string s, .slice b1 n1 c1, .slice b2 n2 c2] 28)).self
  have K : ∀ (W : World) (L : List (Value × AV)), Pl (W0.alloc (.cells #[.string s, .slice b1 n1 c1, .slice b2 n2 c2] 28)) L W → W.cell? ⟨W0.heap.size, 0, none⟩ = some (.string s) ∧ W.cell? ⟨W0.heap.size, 1, none⟩ = some (.slice b1 n1 c1) ∧ W.cell? ⟨W0.heap.size, 2, none⟩ = some (.slice b2 n2 c2) := fun W L hP => by
    have e0 := (hP.bel.block _ (blk_lt hAb)).trans hAb
    exact ⟨by rw [cell_of e0]; rfl, by rw [cell_of e0]; rfl, by rw [cell_of e0]; rfl⟩
  have K := Lib.hid K
  have C1 := Lib.hid (cFew (v := v) hA (by simp) hx)
  replace hx := Lib.hid hx
  replace hy := Lib.hid hy
  replace hxs := Lib.hid hxs
  replace hys := Lib.hid hys
  replace hs := Lib.hid hs
  replace hA := Lib.hid hA
  replace hA0 := Lib.hid hA0
  clear h hAb
  go_enter Tryz.func3, Tryz.ntmps3
  go_wp2_with fail
  generalize (W0.alloc (.cells #[.string s, .slice b1 n1 c1, .slice b2 n2 c2] 28)) = wA at *
  have hEnd : ∀ (W : World) (L : List (Value × AV)), Pl wA L W → Below W0.heap.size W0 W := fun W L hP => below_upG hA0.out (Nat.le_refl _) hP.bel
  replace hEnd := Lib.hid hEnd
  refine C1.out.mono ?_
  rintro e w1 ⟨rfl, hB1⟩
  have P1 := hA.out.below hB1
  have K1 := K.out _ _ P1
  have C2 := Lib.hid (cFew (P1.build (x1 := .slice b1 n1 c1) (x2 := .slice b2 n2 c2) hs.out (by simp) (by simp)) (List.mem_cons_self ..) hy.out)
  have P1 := Lib.hid P1
  clear C1 hB1
  cases x with
  | false =>
    have CA := Lib.hid (cAwake P1.out)
    clear C2
    go_wp2_with fail
    refine CA.out.mono ?_
    rintro e w2 ⟨rfl, hB2⟩
    have hend := Lib.hid (hEnd.out _ _ (P1.out.below hB2))
    clear hB2
    go_wp2_with fail
    go_ret
    exact ⟨rfl, hend.out⟩
  | true =>
    obtain ⟨q0, q1, q2⟩ := K1
    go_wp2_with fail
    refine C2.out.mono ?_
    rintro e w2 ⟨rfl, hB2⟩
    have P2 := ((P1.out.build (x1 := .slice b1 n1 c1) (x2 := .slice b2 n2 c2) hs.out (by simp) (by simp)).below hB2).sub (L' := [(v, .sl 3 (encTs l)), (.slice b1 n1 c1, .sl 8 (encV t.v)), (.slice b2 n2 c2, .sl 1 (encD t.d))]) (fun p hp => List.mem_cons_of_mem _ hp)
    have P2 := Lib.hid P2
    clear C2 hB2 q0 q1 q2
    have CA := Lib.hid (cAwake P2.out)
    cases y with
    | false =>
      go_wp2_with fail
      refine CA.out.mono ?_
      rintro e w3 ⟨rfl, hB3⟩
      have hend := Lib.hid (hEnd.out _ _ (P2.out.below hB3))
      clear hB3
      go_wp2_with fail
      go_ret
      exact ⟨rfl, hend.out⟩
    | true =>
      by_cases hz : (100 : Int) < (s2.size : Int)
      · go_wp2_with fail
        refine CA.out.mono ?_
        rintro e w3 ⟨rfl, hB3⟩
        have hend := Lib.hid (hEnd.out _ _ (P2.out.below hB3))
        clear hB3
        go_wp2_with fail
        go_ret
        exact ⟨rfl, hend.out⟩
      · clear CA
        obtain ⟨hl, hsm⟩ := hxs.out (by simp)
        obtain ⟨_, htm⟩ := hys.out (by simp)
        have htm := htm t (by simp)
        replace hsm := Lib.hid hsm
        replace htm := Lib.hid htm
        clear hxs hys hx hy
        obtain ⟨q0, q1, q2⟩ := K.out _ _ P2.out
        obtain ⟨d0, d1, d2⟩ := K.out _ _ P2.out.drew
        go_wp2_with fail
        go_region_with (first
            | (go_at_call_of 9 v; with_reducible refine (cPlain (l := l) (v := v) P5.out (by simp) (by omega) hsm.out).mono ?_; rintro e w6 ⟨u4, rfl, hB6, P6⟩; obtain ⟨p0, p1, p2⟩ := K.out _ _ P6; replace P6 := Lib.hid P6; clear hB6)
            | (go_at_call_of 9 v; with_reducible refine (cPlain (l := l) (v := v) (P2.out.build (x1 := .slice b1 n1 c1) (x2 := .slice b2 n2 c2) hs.out (by simp) (by simp)).drew (by simp) (by omega) hsm.out).mono ?_; rintro e w3 ⟨u1, rfl, hB3, P3⟩; obtain ⟨p0, p1, p2⟩ := K.out _ _ P3; replace P3 := Lib.hid P3; clear hB3)
            | (go_at_call_of 9 v; with_reducible refine (cPlain (l := l) (v := v) P2.out.drew (by simp) (by omega) hsm.out).mono ?_; rintro e w3 ⟨u1, rfl, hB3, P3⟩; obtain ⟨p0, p1, p2⟩ := K.out _ _ P3; replace P3 := Lib.hid P3; clear hB3)
            | (go_at_call 10; refine (cDrop10 (l := l) (v := u4) (s := s2) P6.out (by simp) (by omega)).mono ?_; rintro e w7 ⟨u5, rfl, hB7, P7⟩; obtain ⟨p0, p1, p2⟩ := K.out _ _ P7; replace P7 := Lib.hid P7; clear hB7)
            | (go_at_call 9; refine (cPlain1 (t := t) P3.out (List.mem_cons_of_mem _ (List.mem_cons_self ..)) htm.out).mono ?_; rintro e w4 ⟨gg, oo, ccap, s', bb1, nn1, cc1, bb2, nn2, cc2, rfl, hs', t0, t1, t2, P4⟩; obtain ⟨p0, p1, p2⟩ := K.out _ _ P4.out)
            | (go_at_call 9; refine (cPlain1 (t := t) (P3.out.build (x1 := .slice b1 n1 c1) (x2 := .slice b2 n2 c2) hs.out (by simp) (by simp)) (List.mem_cons_self ..) htm.out).mono ?_; rintro e w4 ⟨gg, oo, ccap, s', bb1, nn1, cc1, bb2, nn2, cc2, rfl, hs', t0, t1, t2, P4⟩; obtain ⟨p0, p1, p2⟩ := K.out _ _ P4.out)
            | (go_at_call 8; refine (cPut8 (l := l) (t := t) (v := u1) (x1 := .slice bb1 nn1 cc1) (x2 := .slice bb2 nn2 cc2) P4.out (by simp) hs' (by simp) (by simp) (by omega)).mono ?_; rintro e w5 ⟨u3, rfl, hB5, P5⟩; obtain ⟨p0, p1, p2⟩ := K.out _ _ P5; replace P5 := Lib.hid P5; clear hB5))
        all_goals
          have P7' := P7.out.sub (L' := [(u3, .sl 3 (encTs (putT l t))), (u5, .sl 3 (encTs (dropT l s2.data.toList))), (v, .sl 3 (encTs l)), (.slice b1 n1 c1, .sl 8 (encV t.v)), (.slice b2 n2 c2, .sl 1 (encD t.d))]) (fun p hp => by
            simp only [List.mem_cons, List.not_mem_nil, or_false] at hp
            rcases hp with rfl | rfl | rfl | rfl | rfl <;> simp)
          have hok : TsOK l := ⟨by omega, fun u hu => ⟨(hsm.out u hu).v, Nat.le_trans (hsm.out u hu).d (by omega)⟩⟩
          have hsp : ∀ u ∈ putT l t, SmTh u := fun u hu => by
            rcases put_mem hu with h | rfl
            · exact hsm.out u h
            · exact htm.out
          have hsd : ∀ u ∈ dropT l s2.data.toList, SmTh u := fun u hu => hsm.out u (drop_mem hu)
          have hlp : (putT l t).length ≤ 1000 := Nat.le_trans (put_len l t) (by omega)
          have hld : (dropT l s2.data.toList).length ≤ 1000 := Nat.le_trans (dropT_len l _) (by omega)
          have hokp : TsOK (putT l t) := ⟨by omega, fun u hu => ⟨(hsp u hu).v, Nat.le_trans (hsp u hu).d (by omega)⟩⟩
          have hokd : TsOK (dropT l s2.data.toList) := ⟨by omega, fun u hu => ⟨(hsd u hu).v, Nat.le_trans (hsd u hu).d (by omega)⟩⟩
          have hf1 := find_put l t
          have hf2 := find_drop l s2.data.toList
          obtain ⟨q0, q1, q2⟩ := K.out _ _ P7'
          clear P3 P4 P5 P6 P7 P2 P1 p0 p1 p2 d0 d1 d2 t0 t1 t2
          have htd : t.d.length ≤ 1073741824 := Nat.le_trans htm.out.d (by omega)
          have C11 := Lib.hid fun (W : World) (L : List (Value × AV)) (hP : Pl wA L W) (m0 : (v, AV.sl 3 (encTs l)) ∈ L) (m1 : (Value.slice b1 n1 c1, AV.sl 8 (encV t.v)) ∈ L) (m2 : (Value.slice b2 n2 c2, AV.sl 1 (encD t.d)) ∈ L) => cPut11 (s := s) hP m0 hs.out m1 m2 hok htm.out.v htd
          have C12 := Lib.hid fun (W : World) (L : List (Value × AV)) (hP : Pl wA L W) (m0 : (v, AV.sl 3 (encTs l)) ∈ L) => cDrop12 (s := s2) hP m0 hok
          have TP := Lib.hid fun (W : World) (L : List (Value × AV)) (x y : Value) (hP : Pl wA L W) (m0 : (x, AV.sl 3 (encTs (putT l t))) ∈ L) (m1 : (y, AV.sl 3 (encTs (putT l t))) ∈ L) => cThings hP m0 m1 (by omega) hsp
          have TD := Lib.hid fun (W : World) (L : List (Value × AV)) (x y : Value) (hP : Pl wA L W) (m0 : (x, AV.sl 3 (encTs (dropT l s2.data.toList))) ∈ L) (m1 : (y, AV.sl 3 (encTs (dropT l s2.data.toList))) ∈ L) => cThings hP m0 m1 (by omega) hsd
          have F1 := Lib.hid fun (W : World) (L : List (Value × AV)) (x : Value) (hP : Pl wA L W) (m0 : (x, AV.sl 3 (encTs (putT l t))) ∈ L) => cFind (s := s) hP m0 (by omega)
          have F2 := Lib.hid fun (W : World) (L : List (Value × AV)) (x : Value) (hP : Pl wA L W) (m0 : (x, AV.sl 3 (encTs (dropT l s2.data.toList))) ∈ L) => cFind (s := s2) hP m0 (by omega)
          rw [hs.out, hf1.1] at F1
          rw [hf2] at F2
          have hat := hf1.2
          generalize gtAt t.n (dropT l t.n) = k at *
          generalize putT l t = pl at *
          generalize dropT l s2.data.toList = dl at *
          have hk := (List.getElem?_eq_some_iff.1 hat).1
          replace hat := Lib.hid hat
          replace hokp := Lib.hid hokp
          replace hokd := Lib.hid hokd
          clear hf1 hf2 hok hsp hsd hsm htd hl
          have CP := Lib.hid (C11.out _ _ P7' (by simp) (by simp) (by simp))
          replace P7' := Lib.hid P7'
          go_wp2_with fail
          refine CP.out.mono ?_
          rintro e w8 ⟨A, na, capa, rfl, hx8⟩
          have CD := Lib.hid (C12.out _ _ (P7'.out.below hx8.out.2) (by simp))
          clear CP q0 q1 q2
          go_wp2_with fail
          refine CD.out.mono ?_
          rintro e w9 ⟨Bb, nb, capb, rfl, hx9⟩
          clear CD
          obtain ⟨Fa, hFa⟩ := hx8.out.1.fp
          obtain ⟨Fb, hFb⟩ := hx9.out.1.fp
          have B78 := hx8.out.2
          have B89 := hx9.out.2
          have hFa7 : ∀ b ∈ Fa, w7.heap.size ≤ b ∧ b < w8.heap.size := hFa.bd
          have hFa := hFa.frame (w' := w9) fun b hb => B89.block b (hFa.bd b hb).2
          have P9 : Pl wA [(.slice A na capa, .sl 3 (encTs pl)), (.slice Bb nb capb, .sl 3 (encTs dl)), (u3, .sl 3 (encTs pl)), (u5, .sl 3 (encTs dl)), (v, .sl 3 (encTs l)), (.slice b1 n1 c1, .sl 8 (encV t.v)), (.slice b2 n2 c2, .sl 1 (encD t.d))] w9 :=
            P7'.out.add (below_upG B78 (Nat.le_refl _) B89) [(.slice A na capa, pl), (.slice Bb nb capb, dl)] (fun p hp => by
              simp only [List.mem_cons, List.not_mem_nil, or_false] at hp
              rcases hp with rfl | rfl
              · exact hFa.to
              · exact hFb.to.base B78.size)
          have CT := Lib.hid (TP.out _ _ (.slice A na capa) u3 P9 (by simp) (by simp))
          have hFb7 : ∀ b ∈ Fb, w8.heap.size ≤ b := fun b hb => (hFb.bd b hb).1
          have hFb9 : ∀ b ∈ Fb, b < w9.heap.size := fun b hb => (hFb.bd b hb).2
          have hB79 := below_upG B78 (Nat.le_refl _) B89
          have P9 := Lib.hid P9
          replace hFa7 := Lib.hid hFa7
          replace hFb7 := Lib.hid hFb7
          replace hFb9 := Lib.hid hFb9
          replace hB79 := Lib.hid hB79
          replace B78 := Lib.hid B78
          replace B89 := Lib.hid B89
          have HA := Lib.hid fun (W : World) (D : Below w9.heap.size w9 W) => hFa.frame (w' := W) fun b hb => D.block b (hFa.bd b hb).2
          have HB := Lib.hid fun (W : World) (D : ∀ b ∈ Fb, W.heap[b]? = w9.heap[b]?) => hFb.frame (w' := W) D
          clear hx8 hx9 hFa hFb
          go_wp2_with fail
          refine CT.out.mono ?_
          rintro e w10 ⟨rfl, hB10⟩
          have D10 := Lib.hid hB10
          have P10 := Lib.hid (P9.out.below hB10)
          have CU := Lib.hid (TD.out _ _ (.slice Bb nb capb) u5 P10.out (by simp) (by simp))
          clear CT hB10
          go_wp2_with fail
          refine CU.out.mono ?_
          rintro e w11 ⟨rfl, hB11⟩
          have D11 := Lib.hid (below_upG D10.out (Nat.le_refl _) hB11)
          have P11 := Lib.hid (P10.out.below hB11)
          have CF := Lib.hid (F1.out _ _ (.slice A na capa) P11.out (by simp))
          obtain ⟨q0, q1, q2⟩ := K.out _ _ P11.out
          clear CU hB11 D10 P10
          go_wp2_with fail
          refine CF.out.mono ?_
          rintro e w12 ⟨rfl, hB12⟩
          have D12 := Lib.hid (below_upG D11.out (Nat.le_refl _) hB12)
          have P12 := Lib.hid (P11.out.below hB12)
          clear CF hB12 D11 P11 q0 q1 q2
          obtain ⟨ga, oa, ka, sa, ab1, an1, ac1, ab2, an2, ac2, heq, hsa, r0, r1, r2, P12o⟩ := P12.out.open (v := .slice A na capa) (l := pl) (by simp) hat.out
          injection heq with e1 e2 e3
          subst e1 e2 e3
          obtain ⟨q0, q1, q2⟩ := K.out _ _ P12.out
          obtain ⟨q0', q1', q2'⟩ := K.out _ _ P12.out.drew
          have r0' : w12.drew.cell? ⟨ga, oa + k * 3, none⟩ = some (.string sa) := r0
          have r1' : w12.drew.cell? ⟨ga, oa + k * 3 + 1, none⟩ = some (.slice ab1 an1 ac1) := r1
          have r2' : w12.drew.cell? ⟨ga, oa + k * 3 + 2, none⟩ = some (.slice ab2 an2 ac2) := r2
          replace P12o := Lib.hid P12o
          have hneg : ¬ ((k : Int) < 0) := by omega
          have hk1 : (k : Int) < (pl.length : Int) := by omega
          have hk0 : (0 : Int) ≤ (k : Int) := by omega
          go_wp2_with fail
          go_region_held3 (fun W => W.cell? ⟨W0.heap.size, 0, none⟩ = some (.string s) ∧ W.cell? ⟨W0.heap.size, 1, none⟩ = some (.slice b1 n1 c1) ∧ W.cell? ⟨W0.heap.size, 2, none⟩ = some (.slice b2 n2 c2) ∧ W.cell? ⟨ga, oa + k * 3, none⟩ = some (.string sa) ∧ W.cell? ⟨ga, oa + k * 3 + 1, none⟩ = some (.slice ab1 an1 ac1) ∧ W.cell? ⟨ga, oa + k * 3 + 2, none⟩ = some (.slice ab2 an2 ac2)) (go_keep)
            (first
              | (go_at_call 15; refine (cSame (t := t) (x1 := .slice b1 n1 c1) (x2 := .slice b2 n2 c2) (y1 := .slice ab1 an1 ac1) (y2 := .slice ab2 an2 ac2) P12o.out.drew hs.out hsa (by simp) (by simp) (by simp) (by simp) htm.out).mono ?_; rintro e w13 ⟨rfl, hB13⟩; obtain ⟨p0, p1, p2⟩ := K.out _ _ (P12.out.drew.below hB13); have r0 := cell_below hB13 r0'; have r1 := cell_below hB13 r1'; have r2 := cell_below hB13 r2')
              | (go_at_call 14; refine (F2.out _ _ (.slice Bb nb capb) (P12.out.drew.below hB13) (by simp)).mono ?_; rintro e w14 ⟨rfl, hB14⟩; obtain ⟨p0, p1, p2⟩ := K.out _ _ ((P12.out.drew.below hB13).below hB14); have r0 := cell_below hB14 r0; have r1 := cell_below hB14 r1; have r2 := cell_below hB14 r2))
          have D14 : Below w9.heap.size w9 w14 := below_upG (below_upG (below_upG D12.out (Nat.le_refl _) ((Below.refl _ w12).drew)) (Nat.le_refl _) hB13) (Nat.le_refl _) hB14
          have CS := Lib.hid (spoil30_any w14 w7.heap.size (.slice (some ⟨ga, oa, none⟩) pl.length capa) pl Fa (HA.out w14 D14) hokp.out)
          have D14 := Lib.hid D14
          clear hB13 hB14 D12 P12o P12 r0 r1 r2 r0' r1' r2' q0 q1 q2 q0' q1' q2' p0 p1 p2
          go_wp2_with fail
          refine CS.out.mono ?_
          rintro e w15 ⟨rfl, hL15⟩
          have hb7 : w7.heap.size ≤ w9.heap.size := hB79.out.size
          have G15 : Below w7.heap.size w7 w15 := hL15.bel (fun b hb => (hFa7.out b hb).1) (Nat.le_trans hb7 D14.out.size) (below_upG hB79.out (Nat.le_refl _) D14.out)
          have E15 : ∀ b ∈ Fb, w15.heap[b]? = w9.heap[b]? := fun b hb => (hL15.low b (Nat.lt_of_lt_of_le (hFb9.out b hb) D14.out.size) fun c => by
            have := (hFa7.out b c).2
            have := hFb7.out b hb
            omega).trans (D14.out.block b (hFb9.out b hb))
          have CS2 := Lib.hid (spoil30_any w15 w8.heap.size (.slice Bb nb capb) dl Fb (HB.out w15 E15) hokd.out)
          have G15 := Lib.hid G15
          clear CS hL15 E15
          go_wp2_with fail
          refine CS2.out.mono ?_
          rintro e w16 ⟨rfl, hL16⟩
          have P16 := Lib.hid (P7'.out.below (hL16.bel (fun b hb => Nat.le_trans B78.out.size (hFb7.out b hb)) G15.out.size G15.out))
          have CW := Lib.hid (cAwake P16.out)
          clear CS2 hL16
          go_wp2_with fail
          refine CW.out.mono ?_
          rintro e w17 ⟨rfl, hB17⟩
          have P17 := Lib.hid (P16.out.below hB17)
          obtain ⟨q0, q1, q2⟩ := K.out _ _ P17.out
          have CQ := Lib.hid (C11.out _ _ P17.out (by simp) (by simp) (by simp))
          clear CW hB17 P16
          go_wp2_with fail
          refine CQ.out.mono ?_
          rintro e w18 ⟨A2, na2, capa2, rfl, hx18⟩
          have P18 : Pl wA [(.slice A2 na2 capa2, .sl 3 (encTs pl)), (u3, .sl 3 (encTs pl)), (u5, .sl 3 (encTs dl)), (v, .sl 3 (encTs l)), (.slice b1 n1 c1, .sl 8 (encV t.v)), (.slice b2 n2 c2, .sl 1 (encD t.d))] w18 :=
            P17.out.add hx18.out.2 [(.slice A2 na2 capa2, pl)] (fun p hp => by
              simp only [List.mem_cons, List.not_mem_nil, or_false] at hp
              subst hp
              exact hx18.out.1)
          have CT2 := Lib.hid (TP.out _ _ (.slice A2 na2 capa2) u3 P18 (by simp) (by simp))
          have P18 := Lib.hid P18
          clear CQ hx18 P17 q0 q1 q2
          go_wp2_with fail
          refine CT2.out.mono ?_
          rintro e w19 ⟨rfl, hB19⟩
          have P19 := Lib.hid (P18.out.below hB19)
          have CD2 := Lib.hid (C12.out _ _ P19.out (by simp))
          clear CT2 hB19 P18
          go_wp2_with fail
          refine CD2.out.mono ?_
          rintro e w20 ⟨B2, nb2, capb2, rfl, hx20⟩
          have P20 : Pl wA [(.slice B2 nb2 capb2, .sl 3 (encTs dl)), (.slice A2 na2 capa2, .sl 3 (encTs pl)), (u3, .sl 3 (encTs pl)), (u5, .sl 3 (encTs dl)), (v, .sl 3 (encTs l)), (.slice b1 n1 c1, .sl 8 (encV t.v)), (.slice b2 n2 c2, .sl 1 (encD t.d))] w20 :=
            P19.out.add hx20.out.2 [(.slice B2 nb2 capb2, dl)] (fun p hp => by
              simp only [List.mem_cons, List.not_mem_nil, or_false] at hp
              subst hp
              exact hx20.out.1)
          have CU2 := Lib.hid (TD.out _ _ (.slice B2 nb2 capb2) u5 P20 (by simp) (by simp))
          have P20 := Lib.hid P20
          clear CD2 hx20 P19
          go_wp2_with fail
          refine CU2.out.mono ?_
          rintro e w21 ⟨rfl, hB21⟩
          have hend := Lib.hid (hEnd.out _ _ (P20.out.below hB21))
          clear hB21
          go_wp2_with fail
          go_ret
          exact ⟨rfl, hend.out⟩
end Go.Proofs.YtffojfcinkihnaaGreatDoor.Th
