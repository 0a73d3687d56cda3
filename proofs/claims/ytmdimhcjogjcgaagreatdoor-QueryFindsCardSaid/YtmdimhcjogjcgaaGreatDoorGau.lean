/- Expressions: rightness, begun. -/
import Derived.Test.YtmdimhcjogjcgaaGreatDoorGat
set_option linter.all false
noncomputable section
namespace Go.Proofs.YtmdimhcjogjcgaaGreatDoor.Xp
open Go.Proofs.YtmdimhcjogjcgaaGreatDoor.Abs Go.Proofs.YtmdimhcjogjcgaaGreatDoor.Lat
theorem ars (b c : Bool) : ifB b (some c) (some false) = some (b && c) := by cases b <;> rfl
theorem azf (b c : Bool) : ifB b (some true) (some c) = some (b || c) := by cases b <;> rfl
theorem bf3 {α : Type} (l : List (List AV)) (k : List (List AV) → Option α) : asL 1 (.sl 1 l) k = k l := rfl
theorem sd (e : Ex) (b2 b3 b4 b5 b6 : Bool) : mr (.agg 7 (bh e)) (.bool b2) (.bool b3) (.bool b4) (.bool b5) (.bool b6) =
  some (.bool (((((b2 || decide (e.n = 0)) && (b3 || decide (e.s = []))) && (b4 || decide (((e.p.length : Int) : Int) = 0))) && (b5 || (decide (((e.ps.length : Int) : Int) = 0) && !e.o))) && (b6 || decide (((e.ks.length : Int) : Int) = 0)))) := by
 rw [mr.ae]
 simp only [x1, x2, x3, x4, x5, x6, bf, cf, bq, bf3, y8, xm, br, kx, fz, ars, azf, ab]
theorem bbw (op n : Int) (h : op = 1 ∨ op = 7 ∨ op = 8) (hn : -9007199254740992 ≤ n ∧ n ≤ 9007199254740992) : av (.agg 7 (bh (lf op n))) = some (.bool true) := by
 have h0 : av.j0 (.boxv 7 (bh (lf op n)) []) = some (.bool true) := by
  rw [av.wh, sd, ab, bq, x1, bf, al1.ae]
  show (ifB true _ _ : Option Bool).bind _ = _
  rw [ifT, show (lf op n).n = n from rfl, ars, ab, ab, bq, ab, decide_eq_true hn.1, decide_eq_true hn.2]
  rfl
 rw [av.ae, x0, bf, show (lf op n).op = op from rfl, h0]
 rcases h with rfl | rfl | rfl <;> rfl
theorem bbx (s : Bs) (h : s.length ≤ 256) : av (.agg 7 (bh (.mk 2 0 s [] [] false []))) = some (.bool true) := by
 have h1 : av.j1 (.boxv 7 (bh (.mk 2 0 s [] [] false [])) []) (.int .i64 2) = some (.bool true) := by
  rw [av.mf, show decide ((2 : Int) = 2) = true from rfl, ifT, sd, ab, bq, x2, cf]
  show (ifB true (some (decide ((s.length : Int) ≤ 256))) _ : Option Bool).bind _ = _
  rw [ifT, ab, decide_eq_true (by omega)]
 rw [av.ae, x0, bf]
 exact h1
theorem bby (n : Int) (h : n = 0 ∨ n = 1) : av (.agg 7 (bh (lf 3 n))) = some (.bool true) := by
 rcases h with rfl | rfl
 ·have h1 : av.j1 (.boxv 7 (bh (lf 3 0)) []) (.int .i64 3) = some (.bool true) := by
   rw [av.mf, show decide ((3 : Int) = 2) = false from rfl, ifF, show decide ((3 : Int) = 3) = true from rfl, ifT, sd]; rfl
  rw [av.ae, x0, bf]
  exact h1
 ·have h1 : av.j1 (.boxv 7 (bh (lf 3 1)) []) (.int .i64 3) = some (.bool true) := by
   rw [av.mf, show decide ((3 : Int) = 2) = false from rfl, ifF, show decide ((3 : Int) = 3) = true from rfl, ifT, sd]; rfl
  rw [av.ae, x0, bf]
  exact h1
theorem bbz (n : Int) (h : n = 1 ∨ n = 2 ∨ n = 3 ∨ n = 5) : av (.agg 7 (bh (lf 4 n))) = some (.bool true) := by
 have h1 : av.j1 (.boxv 7 (bh (lf 4 n)) []) (.int .i64 4) = some (.bool true) := by
  rw [av.mf, show decide ((4 : Int) = 2) = false from rfl, ifF, show decide ((4 : Int) = 3) = false from rfl, ifF, show decide ((4 : Int) = 4) = true from rfl, ifT]
  simp only [x1, bf, sd, ab, bq]
  rcases h with rfl | rfl | rfl | rfl <;> rfl
 rw [av.ae, x0, bf]
 exact h1
theorem bb0 (op : Int) (h : op = 5 ∨ op = 6) : av (.agg 7 (bh (lf op 0))) = some (.bool true) := by
 rcases h with rfl | rfl
 ·have h1 : av.j1 (.boxv 7 (bh (lf 5 0)) []) (.int .i64 5) = some (.bool true) := by
   rw [av.mf]
   simp only [sd, ab, bq]
   rfl
  rw [av.ae, x0, bf]
  exact h1
 ·have h1 : av.j1 (.boxv 7 (bh (lf 6 0)) []) (.int .i64 6) = some (.bool true) := by
   rw [av.mf]
   simp only [sd, ab, bq]
   rfl
  rw [av.ae, x0, bf]
  exact h1
theorem bb1 (op : Int) (h : op = 11 ∨ op = 12) (ks : List Ex) (h1 : 2 ≤ ks.length) (h2 : ks.length ≤ 32) : av (.agg 7 (bh (.mk op 0 [] [] [] false ks))) = some (.bool true) := by
 have hj : av.j2 (.boxv 7 (bh (.mk op 0 [] [] [] false ks)) []) = some (.bool true) := by
  rw [av.af9, sd, ab, bq]
  simp only [x6, y8, fz]
  show ((ifB true (some (decide ((2 : Int) ≤ (ks.length : Int)))) _ : Option Bool).bind fun b4 => (ifB b4 (some (decide ((ks.length : Int) ≤ 32))) (some false)).bind fun b7 => some (AV.bool b7)) = _
  rw [ifT, ab, decide_eq_true (by omega), decide_eq_true (by omega)]
  rfl
 have hj1 : av.j1 (.boxv 7 (bh (.mk op 0 [] [] [] false ks)) []) (.int .i64 op) = some (.bool true) := by
  rw [av.mf, hj]
  rcases h with rfl | rfl <;> rfl
 rw [av.ae, x0, bf]
 rcases h with rfl | rfl
 ·exact hj1
 ·exact hj1
def nmP (ps : List Pr) : List Lat.Fd := fsD (ps.map Pr.n)
theorem axs (ps : List Pr) : (nmP ps).length = ps.length := by simp [nmP, fsD]
theorem a2y {ps : List Pr} {i : Nat} {p : Pr} (h : ps[i]? = some p) : (nmP ps)[i]? = some (.mk p.n []) := by simp [nmP, fsD, h]
theorem at1 (ps : List Pr) (hl : ps.length ≤ 1073741824) : ∀ (d i : Nat), i + d = ps.length → j6.l0 (.sl 8 (mh ps)) (.sl 8 (mh ps)) (.int .i64 (ps.length : Int)) (.int .i64 (i : Int)) = some (.bool (jc Nam.ep (o4 (nmP ps) i) ((nmP ps).drop i)))
 | 0, i, h => by
  rw [j6.ai, decide_eq_false (by omega), ifF, bc (by rw [axs]; omega)]; rfl
 | d + 1, i, h => by
  have h1' : i < ps.length := by omega
  have e1 : ps[i]? = some ps[i] := List.getElem?_eq_getElem h1'
  have hn := a2y e1
  have hni : i < (nmP ps).length := by rw [axs]; exact h1'
  have hg : (nmP ps)[i] = .mk ps[i].n [] := (List.getElem?_eq_some_iff.1 hn).2
  have ih := at1 ps hl d (i + 1) (by omega)
  rw [abx hn, show (Lat.Fd.mk ps[i].n []).n = ps[i].n from rfl] at ih
  rw [j6.ai, decide_eq_true (by omega), ifT, au hni, hg, aaz]
  simp only [an (tg e1), y0, cf, ac6, ab, bq]
  rw [aj (by omega), ih]
  show _ = some (AV.bool (Nam.ep ps[i].n && qh (o4 (nmP ps) i) ps[i].n && jc Nam.ep (some ps[i].n) ((nmP ps).drop (i + 1))))
  by_cases hi0 : i = 0
  ·subst hi0
   rw [e00, decide_eq_false (by omega), ifF]
   simp only [orK, ab]
   cases Nam.ep ps[0].n <;> simp [ifT, ifF, o4, qh]
  ·have e2 : ps[i - 1]? = some ps[i - 1] := List.getElem?_eq_getElem (by omega)
   rw [decide_eq_true (by omega), ifT, rh (by omega) (by omega)]
   simp only [an (tg e2), y0, cf, ab, orK]
   have : o4 (nmP ps) i = some ps[i - 1].n := by unfold o4; rw [if_neg hi0, a2y e2]; rfl
   rw [this, qh]
   have hb : (aw ps[i].n ps[i - 1].n || decide (ps[i].n = ps[i - 1].n)) = !aw ps[i - 1].n ps[i].n := by
    cases h1 : aw ps[i - 1].n ps[i].n with
    | true =>
     rw [acr _ _ h1, Bool.false_or, Bool.not_true]
     exact decide_eq_false fun e => by rw [e, mo] at h1; cases h1
    | false =>
     cases h2 : aw ps[i].n ps[i - 1].n with
     | true => rfl
     | false => rw [Bool.false_or, Bool.not_false]; exact decide_eq_true (vc _ _ h2 h1)
   rw [hb]
   cases Nam.ep ps[i].n <;> cases aw ps[i - 1].n ps[i].n <;> simp [ifT, ifF]
theorem a2z (ps : List Pr) (hl : ps.length ≤ 1073741824) : j6 (.sl 8 (mh ps)) = some (.bool (ri (ps.map Pr.n))) := by
 rw [j6.ae, kx]
 exact at1 ps hl ps.length 0 (by omega)
theorem bb2 (ps : List Pr) (o : Bool) (h : ps.length ≤ 32) (hr : ri (ps.map Pr.n) = true) : av (.agg 7 (bh (.mk 10 0 [] [] ps o []))) = some (.bool true) := by
 have h1 : av.j1 (.boxv 7 (bh (.mk 10 0 [] [] ps o [])) []) (.int .i64 10) = some (.bool true) := by
  rw [av.mf]
  simp only [sd, ab, bq, x4, xm, kx]
  rw [show (Ex.mk 10 0 [] [] ps o []).ps = ps from rfl, a2z ps (by omega), hr]
  show ((ifB true (some (decide ((ps.length : Int) ≤ 32))) (some false) : Option Bool).bind fun b43 => (ifB b43 (some true) (some false)).bind fun b46 => some (AV.bool b46)) = _
  rw [ifT, ab, decide_eq_true (by omega)]
  rfl
 rw [av.ae, x0, bf]
 exact h1
inductive GX : Ex → Prop where
 | nu (op n : Int) (h : op = 1 ∨ op = 7 ∨ op = 8) (hn : -9007199254740992 ≤ n ∧ n ≤ 9007199254740992) : GX (lf op n)
 | tx (s : Bs) (h : s.length ≤ 256) : GX (.mk 2 0 s [] [] false [])
 | bo (n : Int) (h : n = 0 ∨ n = 1) : GX (lf 3 n)
 | ki (n : Int) (h : n = 1 ∨ n = 2 ∨ n = 3 ∨ n = 5) : GX (lf 4 n)
 | ze (op : Int) (h : op = 5 ∨ op = 6) : GX (lf op 0)
 | st (ps : List Pr) (o : Bool) (h : ps.length ≤ 32) (hr : ri (ps.map Pr.n) = true) (hp : ∀ p ∈ ps, GX p.e) : GX (.mk 10 0 [] [] ps o [])
 | ks (op : Int) (h : op = 11 ∨ op = 12) (ks : List Ex) (h1 : 2 ≤ ks.length) (h2 : ks.length ≤ 32) (hk : ∀ k ∈ ks, GX k) : GX (.mk op 0 [] [] [] false ks)
theorem GX.shaped {e : Ex} (h : GX e) : av (.agg 7 (bh e)) = some (.bool true) := by
 cases h with
 | nu op n h hn => exact bbw op n h hn
 | tx s h => exact bbx s h
 | bo n h => exact bby n h
 | ki n h => exact bbz n h
 | ze op h => exact bb0 op h
 | st ps o h hr hp => exact bb2 ps o h hr
 | ks op h ks h1 h2 hk => exact bb1 op h ks h1 h2
theorem GX.parts {e : Ex} (h : GX e) : ∀ x ∈ jd e, GX x := fun x hx => by
 cases h with
 | nu op n h hn =>
  have : jd (lf op n) = [] := by unfold jd; split <;> rfl
  rw [this] at hx; cases hx
 | tx s h => cases hx
 | bo n h => cases hx
 | ki n h => cases hx
 | ze op h =>
  have : jd (lf op 0) = [] := by unfold jd; split <;> rfl
  rw [this] at hx; cases hx
 | st ps o h hr hp =>
  obtain ⟨p, hp', rfl⟩ := List.mem_map.1 (show x ∈ ps.map Pr.e from hx)
  exact hp p hp'
 | ks op h ks h1 h2 hk =>
  have : jd (.mk op 0 [] [] [] false ks) = ks := by
   unfold jd
   rw [if_neg (by show ¬ op = 10; omega)]; rfl
  rw [this] at hx
  exact hk x hx
theorem a3a (l : List Ex) (hl : l.length ≤ 1073741824) (h : ∀ x ∈ l, ta (.agg 7 (bh x)) = some (.bool true)) : ∀ (d i : Nat), i + d = l.length → dr.l0 (.sl 7 (er l)) (.fn 233 []) (.int .i64 (l.length : Int)) (.int .i64 (i : Int)) = some (.int .i64 (-1))
 | 0, i, hi => by rw [dr.ai, decide_eq_false (by omega), ifF]
 | d + 1, i, hi => by
  have h1 : i < l.length := by omega
  have e1 : l[i]? = some l[i] := List.getElem?_eq_getElem h1
  have hc : ah S 233 ([AV.agg 7 (bh l[i])] ++ []) = some (.bool false) := by
   have : yz (.agg 7 (bh l[i])) = some (.bool false) := by rw [yz.ae, h _ (List.getElem_mem h1)]; rfl
   exact this
  rw [dr.ai, decide_eq_true (by omega), ifT, an (ph e1), hc, ab, bq, ifF, aj (by omega)]
  exact a3a l hl h d (i + 1) (by omega)
theorem ap1 (e : Ex) (hz : szE e ≤ 1073741824) (hg : GX e) : ta (.agg 7 (bh e)) = some (.bool true) := by
 obtain ⟨r, hr, hk⟩ := apy e hz
 have h1 := aei e
 rw [ta.ae, hg.shaped, ab, bq, ifT, hr, ab, hk, mu.ae, dr.ae, fz]
 have := a3a (jd e) (by omega) (fun x hx => by have := agj hx; exact ap1 x (by omega) (hg.parts x hx)) (jd e).length 0 (by omega)
 rw [e00] at this
 rw [this]
 rfl
termination_by szE e
theorem ap2 (e : Ex) (hz : szE e ≤ 1073741824) (hg : GX e) : wg (.agg 7 (bh e)) = some (.int .i64 (if 16 < dpE e then 22 else 0)) := by
 rw [wg.ae, ap1 e hz hg, ab, bq, Bool.not_true, ifF, apz e hz, ab, bf]
 by_cases h : 16 < dpE e
 ·rw [decide_eq_true (by omega), ifT, if_pos h]
 ·rw [decide_eq_false (by omega), ifF, if_neg h]
theorem a3b {α : Type} (l : List (List AV)) (k : List (List AV) → Option α) : asL 1 (.own 1 l) k = k l := rfl
theorem a3c (a : List Bs) (s : Bs) : ar a ++ [[AV.str s]] = ar (a ++ [s]) := by simp [ar]
theorem a3d (l : List Ex) (a b : Int) (hl : l.length ≤ 1073741824) (h : ∀ x ∈ l, mz (.agg 7 (bh x)) = some (.bool true)) : ∀ (d i : Nat), i + d = l.length → fq.l0 (.sl 7 (er l)) (.int .i64 a) (.int .i64 b) (.int .i64 (i : Int)) = some (.bool (decide (a ≤ (l.length : Int)) && decide ((l.length : Int) ≤ b)))
 | 0, i, hi => by
  rw [fq.ai, fz, decide_eq_false (by omega), ifF, ars, ab]
 | d + 1, i, hi => by
  have h1 : i < l.length := by omega
  have e1 : l[i]? = some l[i] := List.getElem?_eq_getElem h1
  rw [fq.ai, fz, decide_eq_true (by omega), ifT, an (ph e1), h _ (List.getElem_mem h1), ab, bq, Bool.not_true, ifF, aj (by omega)]
  exact a3d l a b hl h d (i + 1) (by omega)
theorem ap3 (ps : List Pr) (hl : ps.length ≤ 1073741824) (h : ∀ p ∈ ps, mz (.agg 7 (bh p.e)) = some (.bool true)) : ∀ (d i : Nat), i + d = ps.length → jz.l0 (.sl 8 (mh ps)) (.own 1 (ar ((ps.take i).map Pr.n))) (.int .i64 (i : Int)) = some (.bool (decide ((ps.length : Int) ≤ 32) && ri (ps.map Pr.n)))
 | 0, i, hi => by
  rw [jz.ai, kx, decide_eq_false (by omega), ifF, List.take_of_length_le (by omega), an8 _ (by rw [List.length_map]; omega)]
  simp only [ab, bq, ars]
 | d + 1, i, hi => by
  have h1 : i < ps.length := by omega
  have e1 : ps[i]? = some ps[i] := List.getElem?_eq_getElem h1
  have ih := ap3 ps hl h d (i + 1) (by omega)
  rw [List.take_add_one, e1, Option.toList_some, List.map_append, List.map_cons, List.map_nil] at ih
  rw [jz.ai, kx, decide_eq_true (by omega), ifT, an (tg e1), y0, cf, gOK (by rw [br, List.length_map, List.length_take]; simp; omega), guT, an (tg e1)]
  simp only [z1, z2, z3, z4, z5, z6, z7, adb]
  rw [h _ (List.getElem_mem h1), ab, bq, Bool.not_true, ifF, aj (by omega), a3c]
  exact ih
theorem amf (e : Ex) (hz : szE e ≤ 1073741824) (hg : GX e) : mz (.agg 7 (bh e)) = some (.bool true) := by
 have hpl := aei e
 have hI : ∀ x ∈ jd e, mz (.agg 7 (bh x)) = some (.bool true) := fun x hx => by
  have := agj hx
  exact amf x (by omega) (hg.parts x hx)
 rw [mz.ae]
 simp only [aga, ake]
 cases hg with
 | nu op n h hn =>
  have hE : cm (.agg 7 (bh (lf op n))) (.int .i64 1) = some (.bool true) := by rw [cm.ae]; rfl
  have hN : vm (.int .i64 (lf op n).n) = some (.bool true) := by
   show vm (.int .i64 n) = _
   rw [vm.ae, decide_eq_true hn.1, decide_eq_true hn.2]; rfl
  simp only [x0, x1, bf, hE, hN, ab, bq]
  rcases h with rfl | rfl | rfl <;> rfl
 | tx s h =>
  have hE : cm (.agg 7 (bh (.mk 2 0 s [] [] false []))) (.int .i64 2) = some (.bool true) := by rw [cm.ae]; rfl
  simp only [x0, x2, bf, cf, hE, ab, bq]
  show ((ifB true (some (decide ((s.length : Int) ≤ 256))) (some false) : Option Bool).bind fun b13 => some (AV.bool b13)) = _
  rw [ifT, ab, decide_eq_true (by omega)]
 | bo n h =>
  have hE : cm (.agg 7 (bh (lf 3 n))) (.int .i64 1) = some (.bool true) := by rw [cm.ae]; rfl
  simp only [x0, x1, bf, hE, ab, bq]
  rcases h with rfl | rfl <;> rfl
 | ki n h =>
  have hE : cm (.agg 7 (bh (lf 4 n))) (.int .i64 1) = some (.bool true) := by rw [cm.ae]; rfl
  simp only [x0, x1, bf, hE, ab, bq]
  rcases h with rfl | rfl | rfl | rfl <;> rfl
 | ze op h =>
  have hE : cm (.agg 7 (bh (lf op 0))) (.int .i64 0) = some (.bool true) := by rw [cm.ae]; rfl
  simp only [x0, bf, hE, ab, bq]
  rcases h with rfl | rfl <;> rfl
 | st ps o h hr hp =>
  have hE : cm (.agg 7 (bh (.mk 10 0 [] [] ps o []))) (.int .i64 8) = some (.bool true) := by rw [cm.ae]; rfl
  have hP : jz (.sl 8 (mh (Ex.mk 10 0 [] [] ps o []).ps)) = some (.bool true) := by
   rw [jz.ae]
   refine (ap3 ps (by omega) (fun p hp' => hI p.e (List.mem_map.2 ⟨p, hp', rfl⟩)) ps.length 0 (by omega)).trans ?_
   rw [decide_eq_true (by omega), hr]; rfl
  simp only [x0, x4, bf, xm, hE, hP, ab, bq]
  rfl
 | ks op h ks h1 h2 hk =>
  have hE : cm (.agg 7 (bh (.mk op 0 [] [] [] false ks))) (.int .i64 16) = some (.bool true) := by rw [cm.ae]; rfl
  have hparts : jd (.mk op 0 [] [] [] false ks) = ks := by
   unfold jd
   rw [if_neg (by show ¬ op = 10; omega)]; rfl
  rw [hparts] at hI
  have hK : fq (.sl 7 (er (Ex.mk op 0 [] [] [] false ks).ks)) (.int .i64 2) (.int .i64 32) = some (.bool true) := by
   rw [fq.ae]
   refine (a3d ks 2 32 (by omega) hI ks.length 0 (by omega)).trans ?_
   rw [decide_eq_true (by omega), decide_eq_true (by omega)]; rfl
  simp only [x0, x6, bf, y8, hE, hK, ab, bq]
  rcases h with rfl | rfl <;> rfl
termination_by szE e
theorem azg (e : Ex) (hz : szE e ≤ 1073741824) (hg : GX e) : wy (.agg 7 (bh e)) = some (.int .i64 (if 16 < dpE e then 22 else 0)) := by
 rw [wy.ae, amf e hz hg, ab, bq, Bool.not_true, ifF, ap0 e hz, ab, bf]
 by_cases h : 16 < dpE e
 ·rw [decide_eq_true (by omega), ifT, if_pos h]
 ·rw [decide_eq_false (by omega), ifF, if_neg h]
theorem td (t : Tm) (h : kv t = true) : t.fs = [] ∧ ((t.k = 3 ∧ (t.a = false → t.s.length ≤ 256)) ∨ (t.k = 1 ∧ 0 ≤ t.lo ∧ t.lo ≤ t.hi ∧ t.hi ≤ 1) ∨ (t.k = 2 ∧ -9007199254740992 ≤ t.lo ∧ t.lo ≤ t.hi ∧ t.hi ≤ 9007199254740992)) := by
 cases t with
 | mk k lo hi s a m o fs =>
  rw [kv] at h
  by_cases hn : (o || !fs.isEmpty || (m && single (.mk k lo hi s a m o fs))) = true
  ·rw [if_pos hn] at h; cases h
  ·rw [if_neg hn] at h
   simp only [Bool.or_eq_true, not_or] at hn
   have hfs : fs = [] := by
    cases fs with
    | nil => rfl
    | cons f r => exact absurd rfl hn.1.2
   refine ⟨hfs, ?_⟩
   show (k = 3 ∧ (a = false → s.length ≤ 256)) ∨ (k = 1 ∧ 0 ≤ lo ∧ lo ≤ hi ∧ hi ≤ 1) ∨ (k = 2 ∧ -9007199254740992 ≤ lo ∧ lo ≤ hi ∧ hi ≤ 9007199254740992)
   split at h
   ·rename_i h3
    refine .inl ⟨h3, fun ha => ?_⟩
    subst ha
    simp only [Bool.and_eq_true] at h
    simpa using h.2
   ·split at h
    ·rename_i h1
     simp only [Bool.and_eq_true, decide_eq_true_eq] at h
     exact .inr (.inl ⟨h1, h.1.1, h.1.2.1, h.1.2.2.1⟩)
    ·split at h
     ·rename_i h2
      simp only [Bool.and_eq_true, decide_eq_true_eq] at h
      exact .inr (.inr ⟨h2, h.1.1, h.1.2.1, h.1.2.2.1⟩)
     ·cases h
theorem bf4 (t : Tm) (h : kv t = true) : ∀ x ∈ plX t.k t.lo t.hi t.s t.a, GX x := by
 obtain ⟨_, ⟨hk, h3⟩ | ⟨hk, h1⟩ | ⟨hk, h2⟩⟩ := td t h
 ·rw [hk]
  cases ha : t.a with
  | true =>
   intro x hx
   obtain rfl : x = lf 4 3 := by simpa [plX] using hx
   exact .ki 3 (by omega)
  | false =>
   intro x hx
   obtain rfl : x = .mk 2 0 t.s [] [] false [] := by simpa [plX] using hx
   exact .tx _ (h3 ha)
 ·rw [hk]
  intro x hx
  by_cases he : t.lo = t.hi
  ·obtain rfl : x = lf 3 t.lo := by simpa [plX, he] using hx
   exact .bo _ (by omega)
  ·obtain rfl : x = lf 4 1 := by simpa [plX, he] using hx
   exact .ki 1 (by omega)
 ·rw [hk]
  intro x hx
  unfold plX MI at hx
  rw [if_neg (by decide), if_neg (by decide)] at hx
  split at hx
  ·obtain rfl : x = lf 1 t.lo := by simpa using hx
   exact .nu 1 _ (by omega) (by omega)
  ·split at hx
   ·split at hx
    ·obtain rfl : x = lf 4 2 := by simpa using hx
     exact .ki 2 (by omega)
    ·obtain rfl : x = lf 8 t.hi := by simpa using hx
     exact .nu 8 _ (by omega) (by omega)
   ·split at hx
    ·obtain rfl : x = lf 7 t.lo := by simpa using hx
     exact .nu 7 _ (by omega) (by omega)
    ·rcases List.mem_cons.1 hx with rfl | hx
     ·exact .nu 7 _ (by omega) (by omega)
     ·obtain rfl : x = lf 8 t.hi := by simpa using hx
      exact .nu 8 _ (by omega) (by omega)
theorem axt (l : List Ex) (h1 : 1 ≤ l.length) (h2 : l.length ≤ 32) (h : ∀ x ∈ l, GX x) : GX (vp l) := by
 match l, h1 with
 | [x], _ => exact h x (List.mem_cons_self ..)
 | x :: y :: r, _ => exact .ks 11 (by omega) _ (by simp) h2 h
theorem axu : ∀ (p : Option Bs) (fs : List Lat.Fd), jc Rn p fs = jc Rn p (fsD (fs.map Lat.Fd.n))
 | p, [] => rfl
 | p, .mk n v :: r => by
  show (Rn n && qh p n && jc Rn (some n) r) = (Rn n && qh p n && jc Rn (some n) (fsD (r.map Lat.Fd.n)))
  rw [axu (some n) r]
theorem ap4 : ∀ {fs : List Lat.Fd} {ps : List Pr}, ew fs = some ps → ps.map Pr.n = fs.map Lat.Fd.n ∧ ∀ p ∈ ps, ∃ f ∈ fs, j9 f.v = some p.e
 | [], ps, h => by cases h; exact ⟨rfl, fun p hp => by cases hp⟩
 | .mk n v :: r, ps, h => by
  rw [ew] at h
  obtain ⟨x, hx, h⟩ := Option.bind_eq_some_iff.1 h
  obtain ⟨q, hq, rfl⟩ := Option.map_eq_some_iff.1 h
  obtain ⟨h1, h2⟩ := ap4 hq
  refine ⟨by rw [List.map_cons, h1]; rfl, fun p hp => ?_⟩
  rcases List.mem_cons.1 hp with rfl | hp
  ·exact ⟨.mk n v, List.mem_cons_self .., hx⟩
  ·obtain ⟨f, hf, e⟩ := h2 p hp
   exact ⟨f, List.mem_cons_of_mem _ hf, e⟩
theorem a7w (t : Tm) (ht : okT Rn t = true) (h : ∀ f ∈ t.fs, ∀ x, j9 f.v = some x → GX x) (x : Ex) (hx : gu t = some x) : GX x := by
 have hT : gu t = if t.k = 5 then some (lf 4 5) else if t.k = 4 then (ew t.fs).map fun ps => .mk 10 0 [] [] ps t.o [] else some (vp (if t.m = true then lf 6 0 :: plX t.k t.lo t.hi t.s t.a else plX t.k t.lo t.hi t.s t.a)) := by
  cases t; rw [gu]; rfl
 rw [hT] at hx
 rw [vn] at ht
 by_cases h5 : t.k = 5
 ·rw [if_pos h5] at hx
  cases hx
  exact .ki 5 (by omega)
 ·rw [if_neg h5] at hx ht
  by_cases h4 : t.k = 4
  ·rw [if_pos h4] at hx ht
   obtain ⟨ps, hps, rfl⟩ := Option.map_eq_some_iff.1 hx
   obtain ⟨hn, hm⟩ := ap4 hps
   rw [Bool.and_eq_true] at ht
   have hb := ht.1
   have hb : decide (t.fs.length ≤ 32) = true ∧ jc Rn none t.fs = true := by
    cases t with
    | mk k lo hi s a m o fs =>
     simp only [aaf, Bool.and_eq_true] at hb
     exact ⟨hb.1.2, hb.2⟩
   have hlen : ps.length = t.fs.length := by have := congrArg List.length hn; simpa using this
   refine .st ps t.o (by rw [hlen]; simpa using hb.1) ?_ fun p hp => ?_
   ·rw [hn]
    show jc Rn none (fsD (t.fs.map Lat.Fd.n)) = true
    rw [← axu]; exact hb.2
   ·obtain ⟨f, hf, e⟩ := hm p hp
    exact h f hf _ e
  ·rw [if_neg h4] at hx ht
   cases hx
   have hp := aoc t.k t.lo t.hi t.s t.a
   have hg := bf4 t ht
   cases t.m with
   | true =>
    rw [if_pos rfl]
    exact axt _ (by simp) (by simp; omega) fun y hy => by
     rcases List.mem_cons.1 hy with rfl | hy
     ·exact .ze 6 (by omega)
     ·exact hg y hy
   | false =>
    rw [if_neg (by simp)]
    exact axt _ hp.1 (by omega) hg
theorem ap5 : ∀ {v : List Tm} {l : List Ex}, eh v = some l → l.length = v.length ∧ ∀ x ∈ l, ∃ t ∈ v, gu t = some x
 | [], l, h => by cases h; exact ⟨rfl, fun p hp => by cases hp⟩
 | t :: r, l, h => by
  rw [eh] at h
  obtain ⟨x, hx, h⟩ := Option.bind_eq_some_iff.1 h
  obtain ⟨q, hq, rfl⟩ := Option.map_eq_some_iff.1 h
  obtain ⟨h1, h2⟩ := ap5 hq
  refine ⟨by simp [h1], fun p hp => ?_⟩
  rcases List.mem_cons.1 hp with rfl | hp
  ·exact ⟨t, List.mem_cons_self .., hx⟩
  ·obtain ⟨f, hf, e⟩ := h2 p hp
   exact ⟨f, List.mem_cons_of_mem _ hf, e⟩
theorem ai6 (v : List Tm) (hok : okL Rn v = true) (x : Ex) (hx : j9 v = some x) : GX x := by
 have hT : ∀ t ∈ v, ∀ y, gu t = some y → GX y := fun t ht y hy => by
  have hot := ab8 v hok t ht
  refine a7w t hot (fun f hf z hz => ?_) y hy
  have h4 : t.k = 4 := by
   rw [vn] at hot
   by_cases h5 : t.k = 5
   ·exfalso
    rw [if_pos h5] at hot
    cases t with
    | mk k lo hi s a m o fs =>
     simp only [yl, Bool.and_eq_true, List.isEmpty_iff] at hot
     have : fs = [] := hot.2
     subst this
     cases hf
   ·rw [if_neg h5] at hot
    by_cases h4 : t.k = 4
    ·exact h4
    ·rw [if_neg h4] at hot
     rw [(td t hot).1] at hf; cases hf
  rw [vn, if_neg (by omega), if_pos h4, Bool.and_eq_true] at hot
  have hv := aff _ hot.2 f hf
  have hd := jt ht hf
  exact ai6 f.v (aal hv) z hz
 match v, hT, hx with
 | [], _, hx => cases hx; exact .ze 5 (by omega)
 | [t], hT, hx => exact hT t (List.mem_cons_self ..) x hx
 | t :: u :: r, hT, hx =>
  by_cases h32 : (t :: u :: r).length ≤ 32
  ·rw [aeg (by simp) h32] at hx
   obtain ⟨l, hl, rfl⟩ := Option.map_eq_some_iff.1 hx
   obtain ⟨h1, h2⟩ := ap5 hl
   refine .ks 12 (by omega) l (by rw [h1]; simp) (by rw [h1]; exact h32) fun k hk => ?_
   obtain ⟨t', ht', e⟩ := h2 k hk
   exact hT t' ht' k e
  ·rw [aeh (by omega)] at hx; cases hx
termination_by szV v
decreasing_by have := jt ht hf; omega
theorem at2 (v : List Tm) (hok : okL Rn v = true) : KOK v := by
 refine .mk v (fun t ht => ?_) fun t ht f hf => ?_
 ·have hot := ab8 v hok t ht
  rw [vn] at hot
  by_cases h5 : t.k = 5
  ·omega
  ·by_cases h4 : t.k = 4
   ·omega
   ·rw [if_neg h5, if_neg h4] at hot
    have := (td t hot).2
    omega
 ·have hot := ab8 v hok t ht
  have h4 : t.k = 4 := by
   rw [vn] at hot
   by_cases h5 : t.k = 5
   ·exfalso
    rw [if_pos h5] at hot
    cases t with
    | mk k lo hi s a m o fs =>
     simp only [yl, Bool.and_eq_true, List.isEmpty_iff] at hot
     have : fs = [] := hot.2
     subst this
     cases hf
   ·rw [if_neg h5] at hot
    by_cases h4 : t.k = 4
    ·exact h4
    ·rw [if_neg h4] at hot
     rw [(td t hot).1] at hf; cases hf
  rw [vn, if_neg (by omega), if_pos h4, Bool.and_eq_true] at hot
  have hv := aff _ hot.2 f hf
  have hd := jt ht hf
  exact at2 f.v (aal hv)
termination_by szV v
decreasing_by have := jt ht hf; omega
theorem axv : ∀ {fs : List Lat.Fd} {ps : List Pr}, ew fs = some ps → (∀ f ∈ fs, ∀ x, j9 f.v = some x → szE x ≤ 4 * szV f.v + 1) → vo ps ≤ 4 * szF fs
 | [], ps, h, _ => by cases h; exact Nat.le_refl _
 | .mk n v :: r, ps, h, hf => by
  rw [ew] at h
  obtain ⟨x, hx, h⟩ := Option.bind_eq_some_iff.1 h
  obtain ⟨q, hq, rfl⟩ := Option.map_eq_some_iff.1 h
  have h1 := axv hq fun f hm => hf f (List.mem_cons_of_mem _ hm)
  have h2 : szE x ≤ 4 * szV v + 1 := hf (.mk n v) (List.mem_cons_self ..) x hx
  rw [vo, szF]
  omega
theorem bab (l : List Ex) (h : ∀ x ∈ l, szE x = 1) (hl : 1 ≤ l.length) (h3 : l.length ≤ 3) : szE (vp l) ≤ 4 := by
 match l, hl with
 | [x], _ => rw [show vp [x] = x from rfl, h x (List.mem_cons_self ..)]; omega
 | x :: y :: r, _ =>
  have hs : ∀ l : List Ex, (∀ x ∈ l, szE x = 1) → tj l = l.length := fun l => by
   induction l with
   | nil => intro _; rfl
   | cons a r ih => intro h; rw [tj, h a (List.mem_cons_self ..), ih fun x hx => h x (List.mem_cons_of_mem _ hx), List.length_cons]; omega
  show szE (.mk 11 0 [] [] [] false (x :: y :: r)) ≤ 4
  rw [szE, hs _ h]
  show 1 + 0 + (x :: y :: r).length ≤ 4
  omega
theorem bb3 (k lo hi : Int) (s : Bs) (a : Bool) : ∀ x ∈ plX k lo hi s a, szE x = 1 := by
 have h1 : ∀ op n, szE (lf op n) = 1 := fun op n => rfl
 have h2 : ∀ s, szE (.mk 2 0 s [] [] false []) = 1 := fun s => rfl
 intro x hx
 unfold plX at hx
 repeat' split at hx
 all_goals (simp only [List.mem_cons, List.not_mem_nil, or_false] at hx; first | (subst hx; rfl) | (rcases hx with rfl | rfl <;> rfl))
theorem a7x (t : Tm) (h : ∀ f ∈ t.fs, ∀ x, j9 f.v = some x → szE x ≤ 4 * szV f.v + 1) (x : Ex) (hx : gu t = some x) : szE x ≤ 4 * szT t := by
 have hT : gu t = if t.k = 5 then some (lf 4 5) else if t.k = 4 then (ew t.fs).map fun ps => .mk 10 0 [] [] ps t.o [] else some (vp (if t.m = true then lf 6 0 :: plX t.k t.lo t.hi t.s t.a else plX t.k t.lo t.hi t.s t.a)) := by
  cases t; rw [gu]; rfl
 rw [hT] at hx
 rw [fw]
 split at hx
 ·cases hx
  show (1 : Nat) ≤ _
  omega
 ·split at hx
  ·obtain ⟨ps, hps, rfl⟩ := Option.map_eq_some_iff.1 hx
   have := axv hps h
   rw [szE]
   show 1 + vo ps + 0 ≤ _
   omega
  ·cases hx
   have hp := aoc t.k t.lo t.hi t.s t.a
   have h1 := bb3 t.k t.lo t.hi t.s t.a
   cases t.m with
   | true =>
    rw [if_pos rfl]
    have := bab (lf 6 0 :: plX t.k t.lo t.hi t.s t.a) (fun y hy => by
     rcases List.mem_cons.1 hy with rfl | hy
     ·rfl
     ·exact h1 y hy) (by simp) (by simp; omega)
    omega
   | false =>
    rw [if_neg (by simp)]
    have := bab (plX t.k t.lo t.hi t.s t.a) h1 hp.1 (by omega)
    omega
theorem axw : ∀ {v : List Tm} {l : List Ex}, eh v = some l → (∀ t ∈ v, ∀ x, gu t = some x → szE x ≤ 4 * szT t) → tj l ≤ 4 * szV v
 | [], l, h, _ => by cases h; exact Nat.le_refl _
 | t :: r, l, h, hf => by
  rw [eh] at h
  obtain ⟨x, hx, h⟩ := Option.bind_eq_some_iff.1 h
  obtain ⟨q, hq, rfl⟩ := Option.map_eq_some_iff.1 h
  have h1 := axw hq fun f hm => hf f (List.mem_cons_of_mem _ hm)
  have h2 := hf t (List.mem_cons_self ..) x hx
  rw [tj, szV]
  omega
theorem amg (v : List Tm) (x : Ex) (hx : j9 v = some x) : szE x ≤ 4 * szV v + 1 := by
 have hT : ∀ t ∈ v, ∀ y, gu t = some y → szE y ≤ 4 * szT t := fun t ht y hy => a7x t (fun f hf z hz => by
  have hd := jt ht hf
  exact amg f.v z hz) y hy
 match v, hT, hx with
 | [], _, hx => cases hx; exact Nat.le_refl _
 | [t], hT, hx =>
  have := hT t (List.mem_cons_self ..) x hx
  rw [szV, szV]
  omega
 | t :: u :: r, hT, hx =>
  by_cases h32 : (t :: u :: r).length ≤ 32
  ·rw [aeg (by simp) h32] at hx
   obtain ⟨l, hl, rfl⟩ := Option.map_eq_some_iff.1 hx
   have := axw hl hT
   rw [szE]
   show 1 + 0 + tj l ≤ _
   omega
  ·rw [aeh (by omega)] at hx; cases hx
termination_by szV v
decreasing_by have := jt ht hf; omega
def exX (v : List Tm) : Ex × Int := if okV Rn v = true then (match j9 v with
 | some x => if 16 < dpE x then (lf 0 0, 22) else (x, 0)
 | none => (lf 0 0, 4)) else (lf 0 0, 1)
theorem at3 (v : List Tm) (hz : szV v ≤ 200000000) : s0 (.agg 1 [.sl 8 (al v)]) = some (.tup [.agg 7 (bh (exX v).1), .int .i64 (exX v).2]) := by
 have hR : qj (.agg 1 [.sl 8 (al v)]) = some (.bool (okV Rn v)) := aa1 v (by omega)
 rw [s0.ae, hR, ab, bq]
 unfold exX
 cases hok : okV Rn v with
 | false => rfl
 | true =>
  have hL := aal hok
  rw [Bool.not_true, ifF, if_pos rfl, atw v (by omega) (at2 v hL), ab]
  cases hx : j9 v with
  | none => rfl
  | some x =>
   have hg := ai6 v hL x hx
   have hs := amg v x hx
   rw [atv, o6, qp, bf, show (!decide ((0 : Int) = 0)) = false from rfl, ifF, ap2 x (by omega) hg, ab, bf]
   show _ = some (AV.tup [AV.agg 7 (bh (if 16 < dpE x then (lf 0 0, (22 : Int)) else (x, 0)).1), AV.int .i64 (if 16 < dpE x then (lf 0 0, (22 : Int)) else (x, 0)).2])
   by_cases h : 16 < dpE x
   ·rw [if_pos h, if_pos h]; rfl
   ·rw [if_neg h, if_neg h]; rfl
theorem a3e (n : Int) (h : n = 1 ∨ n = 2 ∨ n = 3 ∨ n = 5) : yv (.int .i64 n) = some (.str (arq n)) := by
 rw [yv.ae]
 rcases h with rfl | rfl | rfl | rfl <;> rfl
theorem a3f (op : Int) (h : op = 11 ∨ op = 12) : yw (.int .i64 op) = some (.str (rk op)) := by
 rw [yw.ae]
 rcases h with rfl | rfl <;> rfl
theorem a7y (op i k : Int) (h : op = 11 ∨ op = 12) : lx (.int .i64 op) (.int .i64 i) (.int .i64 k) = some (.bool (brk op k)) := by
 rw [lx.ae]
 unfold brk
 rcases h with rfl | rfl
 ·simp only [azf, ab]
  show some (AV.bool (decide (k = 12) || decide (k = 11))) = _
  simp
 ·simp only [azf, ab]
  show some (AV.bool (decide (k = 12))) = _
  simp
def lvl (op : Int) : Int := if op = 12 then 1 else if op = 11 then 2 else 5
def agk (op : Int) : Prop := (1 ≤ op ∧ op ≤ 8) ∨ op = 10 ∨ op = 11 ∨ op = 12
theorem GX.op {e : Ex} (h : GX e) : agk e.op := by
 unfold agk
 cases h with
 | nu op n h hn => show (1 ≤ op ∧ op ≤ 8) ∨ _; omega
 | tx s h => show ((1 : Int) ≤ 2 ∧ (2 : Int) ≤ 8) ∨ _; omega
 | bo n h => show ((1 : Int) ≤ 3 ∧ (3 : Int) ≤ 8) ∨ _; omega
 | ki n h => show ((1 : Int) ≤ 4 ∧ (4 : Int) ≤ 8) ∨ _; omega
 | ze op h => show (1 ≤ op ∧ op ≤ 8) ∨ _; omega
 | st ps o h hr hp => exact .inr (.inl rfl)
 | ks op h ks h1 h2 hk => show _ ∨ op = 10 ∨ op = 11 ∨ op = 12; omega
theorem at4 (e : Ex) (h : agk e.op) : y5 (.agg 7 (bh e)) = some (.int .i64 (lvl e.op)) := by
 rw [y5.ae]
 simp only [x0, bf]
 generalize e.op = op at h ⊢
 unfold agk at h
 rcases (by omega : op = 1 ∨ op = 2 ∨ op = 3 ∨ op = 4 ∨ op = 5 ∨ op = 6 ∨ op = 7 ∨ op = 8 ∨ op = 10 ∨ op = 11 ∨ op = 12) with rfl | rfl | rfl | rfl | rfl | rfl | rfl | rfl | rfl | rfl | rfl <;> rfl
theorem bb4 (op k : Int) (h : op = 11 ∨ op = 12) (hk : agk k) : decide (lvl k < lvl op + 1) = brk op k := by
 unfold agk at hk
 rcases h with rfl | rfl <;>
  (rcases (by omega : k = 1 ∨ k = 2 ∨ k = 3 ∨ k = 4 ∨ k = 5 ∨ k = 6 ∨ k = 7 ∨ k = 8 ∨ k = 10 ∨ k = 11 ∨ k = 12) with rfl | rfl | rfl | rfl | rfl | rfl | rfl | rfl | rfl | rfl | rfl <;> rfl)
end Go.Proofs.YtmdimhcjogjcgaaGreatDoor.Xp
