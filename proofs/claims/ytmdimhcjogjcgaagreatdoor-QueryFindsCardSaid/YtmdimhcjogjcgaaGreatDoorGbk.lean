/- The program's text of an expression. -/
import Derived.Test.YtmdimhcjogjcgaaGreatDoorGbj
import Derived.Test.YtmdimhcjogjcgaaGreatDoorGbi
import Derived.Test.YtmdimhcjogjcgaaGreatDoorGaq
import Derived.Test.YtmdimhcjogjcgaaGreatDoorGba
set_option linter.all false
noncomputable section
namespace Go.Proofs.YtmdimhcjogjcgaaGreatDoor.Xp
open Go.Proofs.YtmdimhcjogjcgaaGreatDoor.Abs Go.Proofs.YtmdimhcjogjcgaaGreatDoor.Lat
theorem aqr (d : List Bs) : Lib.join d [] = d.flatten := by
 cases d with
 | nil => rfl
 | cons x r => rw [Lib.join_cons]; simp [Lib.joinTail]
theorem a0l {d : List Bs} {sep : Bs} (h1 : d.length ≤ 1073741824) (h2 : (Lib.join d sep).length ≤ 1099511627776) : pj (.sl 1 (ar d)) (.str sep) = some (.str (Lib.join d sep)) := bgk ⟨h1, h2⟩
theorem afn (d : List Bs) (h1 : d.length ≤ 1073741824) (h2 : d.flatten.length ≤ 1099511627776) : oh (.sl 1 (ar d)) = some (.str d.flatten) := by
 rw [oh.ae, a0l h1 (by rw [aqr]; exact h2), aqr]; rfl
theorem bi6 (op : Int) (hop : op = 11 ∨ op = 12) (k : Ex) (hk : agk k.op) (ht : mc (.agg 7 (bh k)) = some (.str (txE k))) (hl : (txE k).length ≤ 1099511000000) : aa8 (.agg 7 (bh k)) (.int .i64 (lvl op + 1)) = some (.str (kt op k)) := by
 rw [aa8.ae, ag6 (at4 k hk), ab, bf, bb4 op k.op hop hk, ht]
 simp only [ab, cf]
 unfold kt
 cases brk op k.op with
 | true =>
  rw [ifT, if_pos rfl]
  have hg := afn [[40], txE k, [41]] (by simp) (by simp; omega)
  rw [show ([[AV.str [40]], [AV.str (txE k)], [AV.str [41]]] : List (List AV)) = ar [[40], txE k, [41]] from rfl, hg]
  simp [asS]
 | false => rw [ifF, if_neg (by simp)]
section
variable (op n : Int) (s : Bs) (p : List Bs) (ps : List Pr) (o : Bool) (ks : List Ex) (hop : op = 11 ∨ op = 12) (hg : ∀ k ∈ ks, agk k.op) (hk : ∀ k ∈ ks, mc (.agg 7 (bh k)) = some (.str (txE k))) (hb : ∀ k ∈ ks, (txE k).length ≤ 1099511000000) (hl : ks.length ≤ 1073741824)
include hop hg hk hb hl
theorem ayg : ∀ (d i : Nat) (acc : List Bs), i + d = ks.length → acc.length = i →
  eo.l0 (.boxv 7 (bh (.mk op n s p ps o ks)) []) (.own 1 (ar acc)) (.sl 7 (er ks)) (.int .i64 (ks.length : Int)) (.int .i64 (i : Int)) =
   eo.l0 (.boxv 7 (bh (.mk op n s p ps o ks)) []) (.own 1 (ar (acc ++ nj op (ks.drop i)))) (.sl 7 (er ks)) (.int .i64 (ks.length : Int)) (.int .i64 (ks.length : Int))
 | 0, i, acc, hi, ha => by
  rw [bc (by omega), nj, List.append_nil, show i = ks.length by omega]
 | d + 1, i, acc, hi, ha => by
  have h1 : i < ks.length := by omega
  have e1 : ks[i]? = some ks[i] := List.getElem?_eq_getElem h1
  have hm := List.getElem_mem h1
  have ho : (Ex.mk op n s p ps o ks).op = op := rfl
  have hin := bi6 op hop ks[i] (hg _ hm) (hk _ hm) (hb _ hm)
  have hlv : zg (.agg 7 (bh (.mk op n s p ps o ks))) = some (.int .i64 (lvl op)) := ag6 (at4 _ (by rw [ho]; unfold agk; omega))
  have hw : w64 (lvl op + 1) = lvl op + 1 := by
   rcases hop with rfl | rfl <;> rfl
  have ih := ayg d (i + 1) (acc ++ [kt op ks[i]]) (by omega) (by simp; omega)
  have hj : ∀ m : Int, m = lvl op + 1 → eo.j1 (.boxv 7 (bh (.mk op n s p ps o ks)) []) (.own 1 (ar acc)) (.boxv 7 (bh ks[i]) []) (.int .i64 m) (.sl 7 (er ks)) (.int .i64 (ks.length : Int)) (.int .i64 (i : Int)) =
    eo.l0 (.boxv 7 (bh (.mk op n s p ps o ks)) []) (.own 1 (ar (acc ++ [kt op ks[i]]))) (.sl 7 (er ks)) (.int .i64 (ks.length : Int)) (.int .i64 ((i + 1 : Nat) : Int)) := fun m hm => by
   subst hm
   rw [eo.mf, hin, ab, cf, gOK (by rw [br]; simp; omega), guT, oa, aj (by omega)]
  conv => lhs; rw [eo.ai, decide_eq_true (by omega), ifT, an (ph e1), hlv, ab, bf, hw]
  simp only [x0, bf]
  rw [ho]
  have hb12 : ∀ (q : Bool → Option AV), ((ifB (decide ((i : Int) = 0)) (some (!decide (op = 12))) (some false) : Option Bool).bind fun b9 => (ifB b9 (some (!decide (op = 11))) (some false) : Option Bool).bind q) = q false := fun q => by
   rcases hop with rfl | rfl
   ·cases decide ((i : Int) = 0) <;> rfl
   ·cases decide ((i : Int) = 0) <;> rfl
  rw [hb12, ifF, hj _ rfl, ih, au h1, aej, List.append_assoc, List.singleton_append]
theorem a9e (h1 : Lib.lens (nj op ks) + 3 * ks.length ≤ 1099511000000) : eo (.agg 7 (bh (.mk op n s p ps o ks))) = some (.str (Lib.join (nj op ks) (rk op))) := by
 have h := ayg op n s p ps o ks hop hg hk hb hl ks.length 0 [] (by omega) rfl
 rw [List.drop_zero, List.nil_append] at h
 rw [eo.ae]
 simp only [x6, y8, fz]
 have hx : (Ex.mk op n s p ps o ks).ks = ks := rfl
 rw [hx]
 refine h.trans ?_
 have hj := join_le (nj op ks) (rk op)
 rw [aa4, agn] at hj
 have hJ := a0l (d := nj op ks) (sep := rk op) (by rw [agn]; exact hl) (by omega)
 rw [eo.ai, decide_eq_false (by omega), ifF]
 simp only [x0, bf]
 rw [show (Ex.mk op n s p ps o ks).op = op from rfl]
 rcases hop with rfl | rfl
 ·rw [show ∀ q : AV → Option AV, idx afd 11 q = q (AV.str [32, 38, 32]) from fun q => rfl]
  show (pj (.sl 1 (ar (nj 11 ks))) (.str (rk 11))).bind _ = _
  rw [hJ]; rfl
 ·rw [show ∀ q : AV → Option AV, idx afd 12 q = q (AV.str [32, 124, 32]) from fun q => rfl]
  show (pj (.sl 1 (ar (nj 12 ks))) (.str (rk 12))).bind _ = _
  rw [hJ]; rfl
end
section
variable (op n : Int) (s : Bs) (p : List Bs) (ps : List Pr) (o : Bool) (ks : List Ex) (hk : ∀ q ∈ ps, mc (.agg 7 (bh q.e)) = some (.str (txE q.e))) (hb : ∀ q ∈ ps, (pt q).length ≤ 1099511000000) (hl : ps.length ≤ 1073741000)
include hk hb hl
theorem aqs : ∀ (d i : Nat) (acc : List Bs), i + d = ps.length → acc.length = i →
  du.l0 (.boxv 7 (bh (.mk op n s p ps o ks)) []) (.own 1 (ar acc)) (.sl 8 (mh ps)) (.int .i64 (ps.length : Int)) (.int .i64 (i : Int)) =
   du.l0 (.boxv 7 (bh (.mk op n s p ps o ks)) []) (.own 1 (ar (acc ++ ny (ps.drop i)))) (.sl 8 (mh ps)) (.int .i64 (ps.length : Int)) (.int .i64 (ps.length : Int))
 | 0, i, acc, hi, ha => by
  rw [bc (by omega), ny, List.append_nil, show i = ps.length by omega]
 | d + 1, i, acc, hi, ha => by
  have h1 : i < ps.length := by omega
  have e1 : ps[i]? = some ps[i] := List.getElem?_eq_getElem h1
  have hm := List.getElem_mem h1
  have hbb := hb _ hm
  have ih := aqs d (i + 1) (acc ++ [pt ps[i]]) (by omega) (by simp; omega)
  have hf : ([ps[i].n, [58, 32], txE ps[i].e, [59]] : List Bs).flatten = pt ps[i] := by unfold pt; simp
  have hg := afn [ps[i].n, [58, 32], txE ps[i].e, [59]] (by simp) (by rw [hf]; omega)
  rw [hf] at hg
  conv => lhs; rw [du.ai, decide_eq_true (by omega), ifT, an (tg e1), y0, cf]
  simp only [z1, z2, z3, z4, z5, z6, z7, frz, adb]
  rw [hk _ hm, ab, cf, show ([[AV.str ps[i].n], [AV.str [58, 32]], [AV.str (txE ps[i].e)], [AV.str [59]]] : List (List AV)) = ar [ps[i].n, [58, 32], txE ps[i].e, [59]] from rfl, hg, ab, cf]
  rw [gOK (by rw [br]; simp; omega), guT, oa, aj (by omega), ih, au h1, aek, List.append_assoc, List.singleton_append]
omit hk hb hl in
theorem bal (l : List Bs) (hl : l.length ≤ 1073741824) (hb : Lib.lens l + l.length ≤ 1099511000000) : du.j1 (.own 1 (ar l)) = some (.str (123 :: (Lib.join l [32] ++ [125]))) := by
 have hj := join_le l [32]
 simp only [List.length_cons, List.length_nil] at hj
 have hg := afn [[123], Lib.join l [32], [125]] (by simp) (by simp; omega)
 rw [du.mf, a0l hl (by omega), ab, cf, show ([[AV.str [123]], [AV.str (Lib.join l [32])], [AV.str [125]]] : List (List AV)) = ar [[123], Lib.join l [32], [125]] from rfl, hg]
 simp [asS]
theorem a0m (h1 : Lib.lens (ny ps) + ps.length ≤ 1099510000000) : du (.agg 7 (bh (.mk op n s p ps o ks))) = some (.str (123 :: (Lib.join (ny ps ++ (if o = true then [[46, 46, 46]] else [])) [32] ++ [125]))) := by
 have h := aqs op n s p ps o ks hk hb hl ps.length 0 [] (by omega) rfl
 rw [List.drop_zero, List.nil_append] at h
 rw [du.ae]
 simp only [x4, xm, kx]
 have hx : (Ex.mk op n s p ps o ks).ps = ps := rfl
 rw [hx]
 refine h.trans ?_
 rw [du.ai, decide_eq_false (by omega), ifF]
 simp only [x5, bq]
 rw [show (Ex.mk op n s p ps o ks).o = o from rfl]
 cases o with
 | true =>
  rw [ifT, gOK (by rw [br, vt]; simp; omega), guT, oa, if_pos rfl]
  exact bal _ (by rw [List.length_append, vt]; simp; omega) (by rw [aud, List.length_append, vt]; simp [Lib.lens] at h1 ⊢; omega)
 | false =>
  rw [ifF, if_neg (by simp), List.append_nil]
  exact bal _ (by rw [vt]; omega) (by rw [vt]; omega)
end
theorem aov (e : Ex) (h : GX e) (hz : szE e ≤ 268435456) : mc (.agg 7 (bh e)) = some (.str (txE e)) := by
 have htl := aa5 e h
 rw [mc.ae, x0, bf]
 cases h with
 | nu op n h hn =>
  have hi := akn (n := n) (by omega)
  have hT : zf (.int .i64 n) = some (.str (Lib.itoa n)) := awj (a73 ⟨by omega, by omega⟩)
  have g1 := afn [[62, 61], Lib.itoa n] (by simp) (by simp; omega)
  have g2 := afn [[60, 61], Lib.itoa n] (by simp) (by simp; omega)
  simp only [x1, bf, show (lf op n).n = n from rfl, hT, ab, cf]
  rw [show ([[AV.str [62, 61]], [AV.str (Lib.itoa n)]] : List (List AV)) = ar [[62, 61], Lib.itoa n] from rfl, show ([[AV.str [60, 61]], [AV.str (Lib.itoa n)]] : List (List AV)) = ar [[60, 61], Lib.itoa n] from rfl, g1, g2, abd]
  rcases h with rfl | rfl | rfl
  ·rfl
  ·show some (AV.str (List.flatten [[62, 61], Lib.itoa n])) = some (.str (62 :: 61 :: Lib.itoa n)); simp
  ·show some (AV.str (List.flatten [[60, 61], Lib.itoa n])) = some (.str (60 :: 61 :: Lib.itoa n)); simp
 | tx s h =>
  simp only [x2, cf]
  have hQ : abk (.str s) = some (.str (aa2 s)) := aou (a7u s (by omega))
  rw [show (Ex.mk 2 0 s [] [] false []).s = s from rfl, hQ, ab, cf, txE]
  rfl
 | bo n h =>
  simp only [x1, bf]
  rcases h with rfl | rfl <;> (rw [abd]; rfl)
 | ki n h =>
  simp only [x1, bf]
  rw [show (lf 4 n).n = n from rfl, abd]
  rcases h with rfl | rfl | rfl | rfl <;> rfl
 | ze op h =>
  rw [abd]
  rcases h with rfl | rfl <;> rfl
 | st ps o h hr hp =>
  have hb := aju hr hp
  rw [szE] at hz htl
  have hx := a0m 10 0 [] [] ps o [] (fun q hm => have := ame (e := .mk 10 0 [] [] ps o []) hm; aov q.e (hp q hm) (by rw [szE] at this; omega)) (fun q hm => by
   have h1 := aa5 q.e (hp q hm)
   have h2 := ai8 hr q.n (List.mem_map_of_mem hm)
   have h3 := aob hm
   unfold pt; simp only [List.length_append, List.length_cons, List.length_nil]; omega) (by omega) (by omega)
  rw [show (Ex.mk 10 0 [] [] ps o []).op = 10 from rfl, hx, txE]
  rfl
 | ks op h ks h1 h2 hk =>
  have hb := ajv op hk
  rw [szE] at hz htl
  have hx := a9e op 0 [] [] [] false ks h (fun k hm => (hk k hm).op) (fun k hm => have := amd (e := .mk op 0 [] [] [] false ks) hm; aov k (hk k hm) (by rw [szE] at this; omega)) (fun k hm => by
   have h1 := aa5 k (hk k hm)
   have h3 := aoa hm
   omega) (by omega) (by omega)
  rw [show (Ex.mk op 0 [] [] [] false ks).op = op from rfl, hx]
  rcases h with rfl | rfl
  ·rw [txE]; rfl
  ·rw [txE]; rfl
termination_by szE e
end Go.Proofs.YtmdimhcjogjcgaaGreatDoor.Xp
namespace Go.Proofs.YtmdimhcjogjcgaaGreatDoor.Lat
open Go.Proofs.YtmdimhcjogjcgaaGreatDoor.Abs Go.Proofs.YtmdimhcjogjcgaaGreatDoor.Gr
theorem arx {α : Type} (c : List AV) (k : List AV → Option α) : asC 1 (.agg 1 c) k = k c := rfl
theorem bmr (t : Tm) : [ao t] = al [t] := by rw [nw]; rfl
theorem bx {α : Type} (l2 l3 : List (List AV)) (x : α) : True := trivial
theorem avm (t : Tm) (hs : szV [t] ≤ 1073741824) (hok : ∀ f ∈ t.fs, okV Rn f.v = true) (m : Int) (l2 l3 : List (List AV)) (r : Option AV) (hr : ie.l0 (.sl 8 [ao t]) (.boxv 1 [.sl 8 l2] [(0, .own 8 l3)]) (.int .i64 m) (.sl 8 [ao t]) (.int .i64 1) (.int .i64 1) = r) :
  ∀ (d i : Nat), i + d = t.fs.length → ie.l1 (.sl 8 [ao t]) (.boxv 1 [.sl 8 l2] [(0, .own 8 l3)]) (.int .i64 m) (.sl 8 [ao t]) (.int .i64 1) (.int .i64 0) (.sl 2 (cq t.fs)) (.int .i64 (t.fs.length : Int)) (.int .i64 (i : Int)) = r
 | 0, i, h => by
  rw [ie.en, decide_eq_false (by omega), ifF]
  exact hr
 | d + 1, i, h => by
  have h1' : i < t.fs.length := by omega
  have e1 : t.fs[i]? = some t.fs[i] := List.getElem?_eq_getElem h1'
  have hm := List.getElem_mem h1'
  have hsz : szV t.fs[i].v ≤ 1073741824 := by
   have := jt (v := [t]) (List.mem_cons_self ..) hm
   omega
  have hR : xg (.agg 1 [.sl 8 (al t.fs[i].v)]) = some (.bool (okV Rn t.fs[i].v)) := aic (aa1 _ hsz)
  have hlen := gw t.fs
  have hs2 := ll (v := [t]) (List.mem_cons_self ..)
  rw [fw] at hs2
  rw [ie.en, decide_eq_true (by omega), ifT, an (dx e1), h1]
  simp only [frz, hR, hok _ hm, ab, bq]
  rw [Bool.not_true, ifF, aj (by omega)]
  exact avm t hs hok m l2 l3 r hr d (i + 1) (by omega)
theorem bi7 (t : Tm) (hs : szV [t] ≤ 1073741824) (h4 : t.k = 4) (hok : okV Rn [t] = true) : ie (.sl 8 [ao t]) = some (.tup [.agg 1 [.sl 8 [ao t]], .int .i64 0]) := by
 have hok' := hok
 unfold okV at hok'
 simp only [Bool.and_eq_true] at hok'
 obtain ⟨⟨⟨hlim, hL⟩, _⟩, _⟩ := hok'
 unfold acq at hlim
 simp only [Bool.and_eq_true, decide_eq_true_eq] at hlim
 have hT := ab8 _ hL t (List.mem_cons_self ..)
 have hwt : wtT t ≤ 512 := by have := hlim.1; simp only [wtV] at this; omega
 have hdp : dpT t ≤ 15 := by have := hlim.2; simp only [depth, dpV] at this; omega
 have hfs : ∀ f ∈ t.fs, okV Rn f.v = true := by
  have h := hT
  rw [vn, if_neg (by omega), if_pos h4, Bool.and_eq_true] at h
  exact fun f hf => aff _ h.2 f hf
 have hsz := ll (v := [t]) (List.mem_cons_self ..)
 have hsh : adt (.agg 8 (ao t)) (.int .i64 17) = some (.bool true) := by
  refine arc ((apr t 17 (by omega) (by omega) fun f hf => ato 1073741824 (Nat.le_refl _) f.v _ (by omega) (by have := jt (v := [t]) (List.mem_cons_self ..) hf; omega)).trans ?_)
  rw [a05 Rn t 17 hwt (by omega), ← a03 Rn t hwt hdp, hT]
 have hde : adu (.agg 1 [.sl 8 [ao t]]) = some (.int .i64 (depth [t] : Nat)) := by
  have := a2t 1073741824 [t] hs (Nat.le_refl _)
  rw [← bmr] at this
  exact are this
 have hlen := gw t.fs
 rw [fw] at hsz
 have hset : aid (.sl 8 [ao t]) = some (.tup [.agg 1 [.sl 8 [ao t]], .int .i64 0]) := a9d hs hlim.1
 have hlast : ∀ m : Int, m ≤ 16 → ie.l0 (.sl 8 [ao t]) (.boxv 1 [.sl 8 []] [(0, .own 8 [])]) (.int .i64 m) (.sl 8 [ao t]) (.int .i64 1) (.int .i64 1) = some (.tup [.agg 1 [.sl 8 [ao t]], .int .i64 0]) := fun m hm => by
  rw [ie.ai, decide_eq_false (by omega), ifF, decide_eq_false (by omega), ifF, hset]; rfl
 have hd16 : max (1 : Int) ((depth [t] : Nat) : Int) ≤ 16 := by have := hlim.2; omega
 have hgo := avm t hs hfs (max (1 : Int) ((depth [t] : Nat) : Int)) [] [] _ (hlast _ hd16) t.fs.length 0 (by omega)
 rw [e00] at hgo
 rw [ie.ae]
 rw [show ((([ao t] : List (List AV)).length : Nat) : Int) = 1 from rfl, decide_eq_false (by omega), ifF, ie.ai, decide_eq_true (by omega), ifT]
 rw [show ∀ (q : List AV → Option AV), idx [ao t] 0 q = q (ao t) from fun q => an (j := 0) (l := [ao t]) rfl q, hsh]
 simp only [ab, bq]
 rw [Bool.not_true, ifF, hde]
 simp only [ab, bf]
 rw [g7, jk, cp]
 exact hgo
theorem bcw (v : List Tm) (hv : szV v ≤ 1073741824) : ∃ (k e : Int) (c : List AV), zc (.agg 1 [.sl 8 (al v)]) = some (.tup [.agg 8 (.int .i64 k :: c), .int .i64 e]) ∧ (decide (e = 0) && decide (k = 4)) = aku v := by
 have hR : xg (.agg 1 [.sl 8 (al v)]) = some (.bool (okV Rn v)) := aic (aa1 _ hv)
 rw [zc.ae, hR]
 simp only [ab, bq]
 unfold aku
 cases hok : okV Rn v with
 | false => exact ⟨0, 1, _, rfl, rfl⟩
 | true =>
  rw [Bool.not_true, ifF, Bool.true_and]
  have hone : ∀ r, qz (.agg 1 [.sl 8 (al v)]) = some r → agz (.agg 1 [.sl 8 (al v)]) = some r := fun r h => awh h
  match v with
  | [] =>
   rw [hone (.tup [.agg 8 [.int .i64 0, .int .i64 0, .int .i64 0, .str [], .bool false, .bool false, .bool false, .sl 2 []], .int .i64 31]) (by rw [qz.ae]; rfl)]
   exact ⟨0, 31, _, rfl, rfl⟩
  | t :: u :: r =>
   rw [hone (.tup [.agg 8 [.int .i64 0, .int .i64 0, .int .i64 0, .str [], .bool false, .bool false, .bool false, .sl 2 []], .int .i64 28]) (by
    rw [qz.ae]
    simp only [v0, ic, ct]
    rw [decide_eq_false (by simp <;> omega), ifF, decide_eq_true (by simp <;> omega)]; rfl)]
   exact ⟨0, 28, _, rfl, rfl⟩
  | [t] =>
   have e1 : decide ((([t] : List Tm).length : Int) = 0) = false := by simp
   have e2 : decide ((1 : Int) < (([t] : List Tm).length : Int)) = false := by simp
   by_cases h5 : t.k = 5
   ·rw [hone (.tup [.agg 8 [.int .i64 0, .int .i64 0, .int .i64 0, .str [], .bool false, .bool false, .bool false, .sl 2 []], .int .i64 28]) (by
     rw [qz.ae]
     simp only [v0, ic, ct]
     rw [e1, ifF, e2, ifF]
     simp only [ai5, g0, bf, ab]
     rw [decide_eq_true h5, ifT])]
    refine ⟨0, 28, _, rfl, ?_⟩
    simp [h5]
   ·rw [hone (.tup [.agg 8 (ao t), .int .i64 0]) (by
     rw [qz.ae]
     simp only [v0, ic, ct]
     rw [e1, ifF, e2, ifF]
     simp only [ai5, g0, bf, ab]
     rw [decide_eq_false h5, ifF])]
    simp only [ab, agd, as0, bf]
    simp only [decide_true]
    rw [ifT, g0]
    simp only [bf, ab]
    by_cases h4 : t.k = 4
    ·rw [decide_eq_true h4, ifT, bi7 t hv h4 hok]
     obtain ⟨k, lo, hi, s, a, m, o, fs⟩ := t
     refine ⟨k, 0, _, rfl, ?_⟩
     have h4' : k = 4 := h4
     show (true && decide (k = 4)) = true
     rw [decide_eq_true h4']; rfl
    ·rw [decide_eq_false h4, ifF]
     obtain ⟨k, lo, hi, s, a, m, o, fs⟩ := t
     refine ⟨k, 0, _, rfl, ?_⟩
     have h4' : ¬ k = 4 := h4
     show (true && decide (k = 4)) = false
     rw [decide_eq_false h4']; rfl
theorem bcx (t : Th) (ht : adh t) : vx (.agg 3 (aam t)) = some (.bool (Rn t.n && gR t)) := by
 obtain ⟨k, e, c, hO, hk⟩ := bcw t.v ht.v
 have hN : sq (.str t.n) = some (.bool (Rn t.n)) := ag5 (ac6 t.n)
 have hS : zx (.agg 1 [.sl 8 (al t.v)]) = some (.bool (okV Rn t.v && seL false t.v)) := am8 (av7 t.v ht.v)
 have hR : abi (.sl 1 (ar t.d)) = some (.bool (ri t.d)) := aot (bbt t.d (by have := ht.d; omega))
 have hC : o9 (.sl 1 (ar t.d)) (.str t.n) = some (.bool (decide (t.n ∈ t.d))) := abj (av8 t.d (by have := ht.d; omega) t.n)
 rw [vx.ae, th1]
 simp only [frz, hO, ab, agd]
 rw [show ∀ (q : List AV → Option AV), asC 8 (.agg 8 (.int .i64 k :: c)) q = q (.int .i64 k :: c) from fun q => rfl]
 simp only [bf, mg, th0, th1, th2, frz, hN, hS, hR, hC, cf, qn, ab, bq, kq]
 have hg : gR t = (aku t.v && (okV Rn t.v && seL false t.v) && ri t.d && !decide (t.n ∈ t.d)) := rfl
 rw [hg, ← hk]
 cases Rn t.n <;> cases decide (e = 0) <;> cases decide (k = 4) <;> cases (okV Rn t.v && seL false t.v) <;> cases ri t.d <;> cases decide (t.n ∈ t.d) <;> rfl
def ag0 (ts : List Th) (i : Nat) : Option Bs := if i = 0 then none else (ts[i - 1]?).map (·.n)
theorem a0n {ts : List Th} {i : Nat} {t : Th} (h : ts[i]? = some t) : ag0 ts (i + 1) = some t.n := by
 unfold ag0; rw [if_neg (by omega), Nat.add_sub_cancel, h]; rfl
theorem bcy (t : Th) (ts : List Th) : fsD (gg (t :: ts)) = .mk t.n [] :: fsD (gg ts) := by simp [fsD, gg]
theorem abr (ts : List Th) (hl : ts.length ≤ 256) (hs : ∀ t ∈ ts, adh t) : ∀ (d i : Nat), i + d = ts.length → iz.l0 (.sl 3 (cy ts)) (.sl 3 (cy ts)) (.int .i64 (ts.length : Int)) (.int .i64 (i : Int)) = some (.bool ((ts.drop i).all gR && jc Rn (ag0 ts i) (fsD (gg (ts.drop i))) && !og (tds ts)))
 | 0, i, h => by
  have hr : ag7 (.sl 3 (cy ts)) = some (.bool (og (tds ts))) := bcu ⟨by omega, fun t ht => ⟨by have := (hs t ht).d; omega, by have := (hs t ht).n; unfold maxLen; omega⟩⟩
  rw [iz.ai, decide_eq_false (by omega), ifF, hr, bc (by omega)]
  simp only [ab, bq]
  cases ag0 ts i <;> rfl
 | d + 1, i, h => by
  have h1 : i < ts.length := by omega
  have e1 : ts[i]? = some ts[i] := List.getElem?_eq_getElem h1
  have ih := abr ts hl hs d (i + 1) (by omega)
  rw [a0n e1] at ih
  rw [iz.ai, decide_eq_true (by omega), ifT, an (fy e1), bcx _ (hs _ (List.getElem_mem h1)), au h1, List.all_cons, bcy, aaz]
  simp only [ab, bq]
  rw [aj (by omega), ih]
  have hn : (Fd.mk ts[i].n []).n = ts[i].n := rfl
  rw [hn]
  by_cases hi0 : i = 0
  ·subst hi0
   rw [e00, decide_eq_false (by omega), ifF]
   have hp : ag0 ts 0 = none := rfl
   rw [hp]
   simp only [ab, orK]
   cases Rn ts[0].n <;> cases gR ts[0] <;> simp [ifT, ifF, qh, ab]
  ·have e2 : ts[i - 1]? = some ts[i - 1] := List.getElem?_eq_getElem (by omega)
   rw [decide_eq_true (by omega), ifT, th0, rh (by omega) (by omega)]
   simp only [cf, an (fy e2), th0, ab, orK]
   have hp : ag0 ts i = some ts[i - 1].n := by unfold ag0; rw [if_neg hi0, e2]; rfl
   rw [hp, qh, a2i]
   cases Rn ts[i].n <;> cases gR ts[i] <;> cases aw ts[i - 1].n ts[i].n <;> simp [ifT, ifF, ab]
theorem a4w (ts : List Th) (hl : ts.length ≤ 256) (hs : ∀ t ∈ ts, adh t) : iz (.sl 3 (cy ts)) = some (.bool (ts.all gR && ri (gg ts) && !og (tds ts))) := by
 have := abr ts hl hs ts.length 0 (by omega)
 rw [e00, List.drop_zero] at this
 rw [iz.ae, jm, decide_eq_false (by omega), ifF, this]; rfl
end Go.Proofs.YtmdimhcjogjcgaaGreatDoor.Lat
namespace Go.Proofs.YtmdimhcjogjcgaaGreatDoor.Xp
open Go.Proofs.YtmdimhcjogjcgaaGreatDoor.Abs Go.Proofs.YtmdimhcjogjcgaaGreatDoor.Lat Go.Proofs.YtmdimhcjogjcgaaGreatDoor.Gr
theorem a9f (e : Ex) (h : GX e) (hz : szE e ≤ 5000) (hd : dpE e ≤ 16) : xh (.agg 7 (bh e)) = some (.tup [.str (txE e), .int .i64 0]) := by
 rw [xh.ae, arb (ap2 e (by omega) h), ab, bf, if_neg (by omega), aov e h (by omega)]
 rfl
theorem a4x (v : List Tm) (hz : szV v ≤ 1073741824) : xq (.agg 1 [.sl 8 (al v)]) = some (.tup [.str (vaX v).1, .int .i64 (vaX v).2]) := by
 rw [xq.ae, ard (a3u v hz), ab, o6, qp, bf]
 unfold vaX
 by_cases h : (exX v).2 = 0
 ·obtain ⟨h1, h2, h3⟩ := auo h
  rw [if_pos h, decide_eq_true h, Bool.not_true, ifF, a9f _ h1 h2 h3]; rfl
 ·rw [if_neg h, decide_eq_false h]; rfl
end Go.Proofs.YtmdimhcjogjcgaaGreatDoor.Xp
namespace Go.Proofs.YtmdimhcjogjcgaaGreatDoor.Lat
open Go.Proofs.YtmdimhcjogjcgaaGreatDoor.Abs
def ab0 (L : List Bs) : Bool := decide (1 < L.length) && decide (L[L.length - 1]? = some [42, 42])
def iw (L : List Bs) : List Bs × Bool := if ab0 L = true then (L.take (L.length - 1), true) else (L, false)
def kz (x : Bs) : Bool := decide (x = [42]) || Rn x
def jf (s : Bs) : Bool := decide (s.length ≤ 272) && (decide ((Qw.eu s).length ≤ 16) && (iw (Qw.eu s)).1.all kz)
def bam (l : List Bs) (d : Bool) (ok : Bool) : AV := if ok = true then .tup [.sl 1 (ar l), .bool d, .bool true] else .tup [.own 1 [], .bool false, .bool false]
theorem aji (b : Bool) (l : List Bs) (hl : l.length ≤ 1073741824) : ∀ (d i : Nat), i + d = l.length → ck.l1 (.sl 1 (ar l)) (.bool b) (.sl 1 (ar l)) (.int .i64 (l.length : Int)) (.int .i64 (i : Int)) = some (bam l b ((l.drop i).all kz))
 | 0, i, h => by
  cases b
  ·rw [ck.ac2, decide_eq_false (by omega), ifF, bc (by omega)]; rfl
  ·rw [ck.en, decide_eq_false (by omega), ifF, bc (by omega)]; rfl
 | d + 1, i, h => by
  have h1 : i < l.length := by omega
  have e1 : l[i]? = some l[i] := List.getElem?_eq_getElem h1
  have ih := aji b l hl d (i + 1) (by omega)
  have hp : sq (.str l[i]) = some (.bool (Rn l[i])) := ag5 (ac6 _)
  rw [au h1, List.all_cons]
  have hq : kz l[i] = (decide (l[i] = [42]) || Rn l[i]) := rfl
  rw [hq]
  cases b
  ·rw [ck.ac2, decide_eq_true (by omega), ifT, an (gn e1), pw]
   simp only [cf]
   by_cases h42 : l[i] = [42]
   ·rw [decide_eq_true h42, Bool.not_true, ifF, ab, ifF, aj (by omega), ih, Bool.true_or, Bool.true_and]
   ·rw [decide_eq_false h42, Bool.not_false, ifT, hp, ab, bq, ab, Bool.false_or]
    cases Rn l[i]
    ·rfl
    ·rw [Bool.not_true, ifF, aj (by omega), ih, Bool.true_and]
  ·rw [ck.en, decide_eq_true (by omega), ifT, an (gn e1), pw]
   simp only [cf]
   by_cases h42 : l[i] = [42]
   ·rw [decide_eq_true h42, Bool.not_true, ifF, ab, ifF, aj (by omega), ih, Bool.true_or, Bool.true_and]
   ·rw [decide_eq_false h42, Bool.not_false, ifT, hp, ab, bq, ab, Bool.false_or]
    cases Rn l[i]
    ·rfl
    ·rw [Bool.not_true, ifF, aj (by omega), ih, Bool.true_and]
theorem a9g {β γ : Type} (l : List β) (i : Nat) (h : i ≤ l.length) (k : List β → Option γ) : aim l (i : Int) k = k (l.take i) := by
 unfold aim
 rw [decide_eq_true (by omega), decide_eq_true (by omega), Int.toNat_natCast]; rfl
theorem a4y (d : List Bs) (i : Nat) : (ar d).take i = ar (d.take i) := by rw [ar, ar, List.map_take]
theorem avn (s : Bs) : ck (.str s) = some (bam (iw (Qw.eu s)).1 (iw (Qw.eu s)).2 (jf s)) := by
 rw [ck.ae]
 have hp : jf s = (decide (s.length ≤ 272) && (decide ((Qw.eu s).length ≤ 16) && (iw (Qw.eu s)).1.all kz)) := rfl
 by_cases h1 : s.length ≤ 272
 ·rw [decide_eq_false (by omega), ifF, show aet (.str s) (.str [46]) = _ from bcv (by omega), ab, qn, br, hp, decide_eq_true h1, Bool.true_and]
  by_cases h2 : (Qw.eu s).length ≤ 16
  ·rw [decide_eq_false (by omega), ifF, decide_eq_true h2, Bool.true_and]
   have h0 : 0 < (Qw.eu s).length := by
    have := Qw.np s
    cases h : Qw.eu s with
    | nil => exact absurd h this
    | cons a b => simp
   generalize Qw.eu s = L at h2 h0
   rw [rh (by omega) h0]
   have e1 : L[L.length - 1]? = some L[L.length - 1] := List.getElem?_eq_getElem (by omega)
   by_cases h3 : 1 < L.length
   ·rw [decide_eq_true (by omega), ifT, an (gn e1), pw]
    simp only [cf, ab]
    unfold iw ab0
    rw [decide_eq_true h3, Bool.true_and, e1]
    by_cases h4 : L[L.length - 1] = [42, 42]
    ·rw [decide_eq_true h4, ifT, a9g _ _ (by rw [br]; omega), a4y, if_pos (by rw [h4]; rfl), ck.wh, br]
     have := aji true (L.take (L.length - 1)) (by rw [List.length_take]; omega) _ 0 (Nat.zero_add _)
     rw [List.drop_zero] at this
     exact this
    ·rw [decide_eq_false h4, ifF, if_neg (by simpa using h4), ck.aho, br]
     have := aji false L (by omega) _ 0 (Nat.zero_add _)
     rw [List.drop_zero] at this
     exact this
   ·rw [decide_eq_false (by omega), ifF]
    simp only [ab]
    unfold iw ab0
    rw [decide_eq_false h3, Bool.false_and, ifF, if_neg (by simp), ck.aho, br]
    have := aji false L (by omega) _ 0 (Nat.zero_add _)
    rw [List.drop_zero] at this
    exact this
  ·rw [decide_eq_true (by omega), ifT, decide_eq_false h2]; rfl
 ·rw [decide_eq_true (by omega), ifT, hp, decide_eq_false h1]; rfl
theorem a4z (s : Bs) : xr (.str s) = some (.bool (jf s)) := by
 rw [xr.ae, avn, ab]
 cases jf s <;> rfl
theorem ayh {s : Bs} : (iw (Qw.eu s)).1 ≠ [] := by
 unfold iw ab0
 split
 ·rename_i h
  rw [Bool.and_eq_true] at h
  have h1 := of_decide_eq_true h.1
  intro e
  have := congrArg List.length e
  rw [List.length_take, List.length_nil] at this
  omega
 ·exact Qw.np s
end Go.Proofs.YtmdimhcjogjcgaaGreatDoor.Lat
namespace Go.Proofs.YtmdimhcjogjcgaaGreatDoor.Lat
open Go.Proofs.YtmdimhcjogjcgaaGreatDoor.Abs Go.Proofs.YtmdimhcjogjcgaaGreatDoor.Gr
def p9 (ts : List Th) : Bool := ts.all gR && ri (gg ts) && !og (tds ts)
def fd1 (l : List Bs) (deep : Bool) (t : Th) : List Hit := match l with
 | [] => []
 | x :: r => if x = [42] ∨ x = t.n then wkV t.n r deep t.v else []
def fds (l : List Bs) (deep : Bool) (ts : List Th) : List Hit := ts.flatMap (fd1 l deep)
def fdV (ts : List Th) (s : Bs) : List Hit × Int := if jf s = true then (if p9 ts = true then (fds (iw (Qw.eu s)).1 (iw (Qw.eu s)).2 ts, 0) else ([], 1)) else ([], 2)
theorem ak9 {l : List Bs} {deep : Bool} {ts : List Th} {i : Nat} {t : Th} (h : ts[i]? = some t) : fds l deep (ts.take (i + 1)) = fds l deep (ts.take i) ++ fd1 l deep t := by
 rw [List.take_add_one, h]
 show fds l deep (ts.take i ++ [t]) = _
 rw [fds, List.flatMap_append, List.flatMap_cons, List.flatMap_nil, List.append_nil]; rfl
theorem bcz {l : List Bs} {deep : Bool} {t : Th} (h : szV t.v ≤ 1024) : (fd1 l deep t).length ≤ 1025 := by
 unfold fd1
 split
 ·simp
 ·split
  ·have := bcq t.n ‹_› deep t.v; omega
  ·simp
theorem ayi {l : List Bs} {deep : Bool} : ∀ {ts : List Th}, (∀ t ∈ ts, szV t.v ≤ 1024) → (fds l deep ts).length ≤ 1025 * ts.length
 | [], h => by simp [fds]
 | t :: r, h => by
  have h1 := ayi (l := l) (deep := deep) (ts := r) fun t ht => h t (List.mem_cons_of_mem _ ht)
  have h2 := bcz (l := l) (deep := deep) (h t (List.mem_cons_self ..))
  have e : fds l deep (t :: r) = fd1 l deep t ++ fds l deep r := by rw [fds, List.flatMap_cons]; rfl
  rw [e, List.length_append, List.length_cons]; omega
mutual
theorem bgl : ∀ t : Tm, okT Rn t = true → nmT t = true
 | .mk k lo hi s a m o fs, h => by
  rw [nmT]
  rw [vn] at h
  split at h
  ·have : yl (.mk k lo hi s a m o fs) = true := h
   unfold yl at this
   simp only [Bool.and_eq_true, List.isEmpty_iff] at this
   rw [this.2]; rfl
  ·split at h
   ·rw [Bool.and_eq_true] at h
    have h1 := h.1
    unfold aaf at h1
    dsimp only at h1
    rw [Bool.and_eq_true] at h1
    exact a5a fs none h1.2 h.2
   ·have : kv (.mk k lo hi s a m o fs) = true := h
    have hn : ¬ (o || !fs.isEmpty || (m && single (.mk k lo hi s a m o fs))) = true := fun c => by
     unfold kv at this; dsimp only at this; rw [if_pos c] at this; cases this
    cases fs with
    | nil => rfl
    | cons x r => exact absurd (by simp) hn
theorem a5a : ∀ (fs : List Lat.Fd) (p : Option Bs), jc Rn p fs = true → okF Rn fs = true → nmF fs = true
 | [], _, _, _ => by rw [nmF]
 | .mk n v :: r, p, h, k => by
  rw [age] at k
  simp only [Bool.and_eq_true] at k
  have h' : (Rn n && qh p n && jc Rn (some n) r) = true := h
  simp only [Bool.and_eq_true] at h'
  rw [nmF, decide_eq_true (Xp.aua h'.1.1), avo v (aal k.1.2), a5a r _ h'.2 k.2]; rfl
theorem avo : ∀ v : List Tm, okL Rn v = true → nmL v = true
 | [], _ => by rw [nmL]
 | t :: r, h => by
  rw [okL, Bool.and_eq_true] at h
  rw [nmL, bgl t h.1, avo r h.2]; rfl
end
theorem ag1 {ts : List Th} (h : p9 ts = true) : ∀ t ∈ ts, szV t.v ≤ 1024 ∧ nmL t.v = true ∧ t.n.length ≤ 16 := fun t ht => by
 unfold p9 at h
 simp only [Bool.and_eq_true] at h
 have hg := List.all_eq_true.1 h.1.1 t ht
 unfold gR at hg
 simp only [Bool.and_eq_true] at hg
 exact ⟨Xp.arv hg.1.1.2.1, avo _ (aal hg.1.1.2.1), Xp.ai8 h.1.2 t.n (List.mem_map.2 ⟨t, ht, rfl⟩)⟩
end Go.Proofs.YtmdimhcjogjcgaaGreatDoor.Lat
namespace Go.Proofs.YtmdimhcjogjcgaaGreatDoor.Qw
open Go.RowKit Go.Lib Go.Proofs.YtmdimhcjogjcgaaGreatDoor.Abs Go.Proofs.YtmdimhcjogjcgaaGreatDoor.Lat Go.Proofs.YtmdimhcjogjcgaaGreatDoor.Lat.Cp Go.Proofs.YtmdimhcjogjcgaaGreatDoor.Gr Go.Proofs.YtmdimhcjogjcgaaGreatDoor.Th
structure bms (w : World) (c : Cls) (A : Option Addr) (i : Nat) (t : Th) : Prop where
 ex : ∃ g o s b1 n1 c1 b2 n2 c2, A = some ⟨g, o, none⟩ ∧ s.data.toList = t.n ∧ w.cell? ⟨g, o + i * 3, none⟩ = some (.string s) ∧ w.cell? ⟨g, o + i * 3 + 1, none⟩ = some (.slice b1 n1 c1) ∧ w.cell? ⟨g, o + i * 3 + 2, none⟩ = some (.slice b2 n2 c2) ∧
  Rep w c (.slice b1 n1 c1) (.sl 8 (al t.v))
theorem bgm {w : World} {c : Cls} {v : Value} {l : List Th} (h : Rep w c v (.sl 3 (cy l))) : ∃ A cap, v = .slice A l.length cap ∧ ∀ i t, l[i]? = some t → bms w c A i t := by
 obtain ⟨A, cap, rfl, _, _, hm⟩ := lr h
 rw [jm] at hm ⊢
 refine ⟨A, cap, rfl, fun i t hi => ?_⟩
 have hl := (List.getElem?_eq_some_iff.1 hi).1
 obtain ⟨g, o, rfl, _, f, hc, _, hr⟩ := hm (by omega)
 obtain ⟨s, e0, e1⟩ := lh (hr i 0 _ _ (fy hi) rfl)
 obtain ⟨A1, cap1, r1, _⟩ := lr (hr i 1 _ _ (fy hi) rfl)
 obtain ⟨A2, cap2, r2, _⟩ := lr (hr i 2 _ _ (fy hi) rfl)
 have h1 := hr i 1 _ _ (fy hi) rfl
 rw [r1] at h1
 have c0 := hc i 0 hl (by omega)
 have c1 := hc i 1 hl (by omega)
 have c2 := hc i 2 hl (by omega)
 rw [e0] at c0
 rw [r1] at c1
 rw [r2] at c2
 exact ⟨g, o, s, A1, _, cap1, A2, _, cap2, rfl, e1, c0, c1, c2, h1⟩
theorem awk (w : World) (c : Cls) (sb : ByteArray) (hG : GOK τ w c) : Calls Tryz.prog 64 #[.string sb] w fun e w' => ∃ x c', Ext w.heap.size w c w' c' ∧
  (jf sb.data.toList = true → e = .returned (.tuple #[x, .bool (iw (eu sb.data.toList)).2, .bool true]) ∧ Rep w' c' x (.sl 1 (ar (iw (eu sb.data.toList)).1))) ∧ (jf sb.data.toList = false → ∃ y, e = .returned (.tuple #[x, y, .bool false])) := by
 refine (St.xf am7 (show ah Z 64 _ = _ from avn sb.data.toList) (vs := #[.string sb]) (c := c) Tryz.func64 rfl (by decide +kernel) hG rfl (fun i v a hv ha => ?_)).mono fun e w' ⟨y, c', he, hx, hr⟩ => ?_
 ·rcases i with _ | i
  ·simp at hv ha; subst hv; subst ha; exact .inr (Rep.str sb)
  ·simp at hv
 ·cases hp : jf sb.data.toList with
  | true =>
   rw [hp] at hr
   obtain ⟨vs, rfl, hsz, h⟩ := hr
   obtain ⟨vs⟩ := vs
   match vs, hsz with
   | [x, y, z], _ =>
    have h0 := h 0 _ x rfl rfl
    have h1 := j8 (show Rep w' c' y (.bool _) from h 1 _ y rfl rfl)
    have h2 := j8 (show Rep w' c' z (.bool _) from h 2 _ z rfl rfl)
    subst h1; subst h2
    exact ⟨x, c', hx, fun _ => ⟨he, h0⟩, fun h => by cases h⟩
  | false =>
   rw [hp] at hr
   obtain ⟨vs, rfl, hsz, h⟩ := hr
   obtain ⟨vs⟩ := vs
   match vs, hsz with
   | [x, y, z], _ =>
    have h2 := j8 (show Rep w' c' z (.bool _) from h 2 _ z rfl rfl)
    subst h2
    exact ⟨x, c', hx, fun h => (by cases h), fun _ => ⟨y, he⟩⟩
theorem awl (w : World) (c : Cls) (v : Value) (ts : List Th) (hl : ts.length ≤ 256) (hs : ∀ t ∈ ts, adh t) (hR : Rep w c v (.sl 3 (cy ts))) (hG : GOK τ w c) : Calls Tryz.prog 33 #[v] w fun e w' => ∃ c', Ext w.heap.size w c w' c' ∧ e = .returned (.bool (p9 ts)) := by
 refine (St.xf am7 (show ah Z 33 _ = _ from a4w ts hl hs) (vs := #[v]) (c := c) Tryz.func33 rfl (by decide +kernel) hG rfl (fun i x a hx ha => ?_)).mono fun e w' ⟨y, c', he, hx, hr⟩ => ?_
 ·rcases i with _ | i
  ·simp at hx ha; subst hx; subst ha; exact .inr hR
  ·simp at hx
 ·obtain rfl := j8 (show Rep w' c' y (.bool _) from hr)
  exact ⟨c', hx, he⟩
end Go.Proofs.YtmdimhcjogjcgaaGreatDoor.Qw
