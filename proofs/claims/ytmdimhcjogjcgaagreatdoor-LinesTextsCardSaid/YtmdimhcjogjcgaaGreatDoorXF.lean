/- The document's text of an expression. -/
import Derived.Test.YtmdimhcjogjcgaaGreatDoorXE
import Derived.Test.YtmdimhcjogjcgaaGreatDoorLE
set_option linter.unusedVariables false
set_option linter.unusedSimpArgs false
set_option linter.unusedSectionVars false
set_option linter.deprecated false
set_option linter.unnecessarySimpa false
namespace Go.Proofs.YtmdimhcjogjcgaaGreatDoor.Xp
open Go.Proofs.YtmdimhcjogjcgaaGreatDoor.Abs Go.Proofs.YtmdimhcjogjcgaaGreatDoor.Lat
theorem gW {n m : Nat} (h : n + m ≤ 1099511627776) : Nat.ble (n + m) lim = true := by rw [Nat.ble_eq]; unfold lim; omega
def kt (op : Int) (k : Ex) : Bs := if brk op k.op = true then 40 :: (txE k ++ [41]) else txE k
theorem txKs_cons (op : Int) (k : Ex) (r : List Ex) : txKs op (k :: r) = kt op k :: txKs op r := by rw [txKs]; rfl
def pt (p : Pr) : Bs := p.n ++ 58 :: 32 :: (txE p.e ++ [59])
theorem txPs_cons (p : Pr) (r : List Pr) : txPs (p :: r) = pt p :: txPs r := by cases p; rw [txPs]; rfl
theorem jt_cons (sep x : Bs) (r : List Bs) : Lib.joinTail sep (x :: r) = sep ++ (x ++ Lib.joinTail sep r) := by simp [Lib.joinTail, List.append_assoc]
theorem jt_nil (sep : Bs) : Lib.joinTail sep [] = [] := rfl
theorem kt_len (op : Int) (k : Ex) : (kt op k).length ≤ (txE k).length + 2 ∧ (txE k).length ≤ (kt op k).length := by
  unfold kt; split
  · simp only [List.length_cons, List.length_append, List.length_nil]; omega
  · omega
section
variable (op n : Int) (s : Bs) (p : List Bs) (ps : List Pr) (o : Bool) (ks : List Ex) (hop : op = 11 ∨ op = 12) (hk : ∀ k ∈ ks, ref15_Of (.agg 7 (encE k)) = some (.str (txE k))) (hl : ks.length ≤ 1073741824)
include hop hk hl
theorem j4_is (acc : Bs) (i : Nat) (hi : i < ks.length) (hb : acc.length + (kt op ks[i]).length ≤ 1099511000000) :
    ref15_Of.j4 (.boxv 7 (encE (.mk op n s p ps o ks)) []) (.str acc) (.int .i64 (i : Int)) = ref15_Of.l1 (.boxv 7 (encE (.mk op n s p ps o ks)) []) (.str (acc ++ kt op ks[i])) (.int .i64 ((i + 1 : Nat) : Int)) := by
  have e1 : ks[i]? = some ks[i] := List.getElem?_eq_getElem hi
  have h2 := kt_len op ks[i]
  rw [ref15_Of.j4_eq]
  simp only [x0, x6, asI_, asL7_]
  have hx : (Ex.mk op n s p ps o ks).ks = ks := rfl
  have ho : (Ex.mk op n s p ps o ks).op = op := rfl
  rw [hx, ho, idx_at (encE_at e1), x0, asI_, brk15_is op i _ hop, someB, asB_]
  unfold kt at hb ⊢
  cases hbr : brk op ks[i].op with
  | true =>
    rw [hbr, if_pos rfl] at hb
    simp only [List.length_cons, List.length_append, List.length_nil] at hb
    rw [ifT, if_pos rfl, gW (by simp; omega), guT, idx_at (encE_at e1), hk _ (List.getElem_mem hi), someB, asS_, gW (by simp; omega), guT, gW (by simp; omega), guT, w64_succ (by omega)]
    simp [List.append_assoc]
  | false =>
    rw [hbr, if_neg (by simp)] at hb
    rw [ifF, if_neg (by simp), idx_at (encE_at e1), hk _ (List.getElem_mem hi), someB, asS_, gW (by omega), guT, w64_succ (by omega)]
theorem k_l : ∀ (d i : Nat) (acc : Bs), i + d = ks.length → 1 ≤ i → acc.length + Lib.lens (txKs op (ks.drop i)) + 3 * d ≤ 1099511000000 →
    ref15_Of.l1 (.boxv 7 (encE (.mk op n s p ps o ks)) []) (.str acc) (.int .i64 (i : Int)) = some (.str (acc ++ Lib.joinTail (signT op) (txKs op (ks.drop i))))
  | 0, i, acc, hi, h1, hb => by
    rw [ref15_Of.l1_eq]
    simp only [x6, asL7_, encEs_len]
    have hx : (Ex.mk op n s p ps o ks).ks = ks := rfl
    rw [hx, decide_eq_false (by omega), ifF, dropNil (by omega), txKs, jt_nil, List.append_nil]
  | d + 1, i, acc, hi, h1, hb => by
    have hil : i < ks.length := by omega
    have hx : (Ex.mk op n s p ps o ks).ks = ks := rfl
    have ho : (Ex.mk op n s p ps o ks).op = op := rfl
    rw [dropCons hil, txKs_cons, lens_cons] at hb
    rw [ref15_Of.l1_eq]
    simp only [x6, x0, asI_, asL7_, encEs_len]
    rw [hx, ho, decide_eq_true (by omega), ifT, decide_eq_true (by omega), ifT, sign15_is op hop, someB, asS_, gW (by rw [signT_len]; omega), guT]
    rw [j4_is op n s p ps o ks hop hk hl (acc ++ signT op) i hil (by rw [List.length_append, signT_len]; omega)]
    rw [k_l d (i + 1) (acc ++ signT op ++ kt op ks[i]) (by omega) (by omega) (by rw [List.length_append, List.length_append, signT_len]; omega)]
    rw [dropCons hil, txKs_cons, jt_cons]
    simp [List.append_assoc]
theorem ks_is (h1 : 1 ≤ ks.length) (hb : Lib.lens (txKs op ks) + 3 * ks.length ≤ 1099511000000) : ref15_Of.l1 (.boxv 7 (encE (.mk op n s p ps o ks)) []) (.str []) (.int .i64 0) = some (.str (Lib.join (txKs op ks) (signT op))) := by
  have hil : 0 < ks.length := by omega
  have hx : (Ex.mk op n s p ps o ks).ks = ks := rfl
  have hc := dropCons hil
  rw [List.drop_zero] at hc
  have ht : txKs op ks = kt op ks[0] :: txKs op (ks.drop 1) := by
    conv => lhs; rw [hc, txKs_cons]
  rw [ht, lens_cons] at hb
  rw [ref15_Of.l1_eq]
  simp only [x6, asL7_, encEs_len]
  rw [hx, decide_eq_true (by omega), ifT, show decide ((0 : Int) < 0) = false from rfl, ifF]
  have h4 := j4_is op n s p ps o ks hop hk hl [] 0 hil (by simp; omega)
  refine h4.trans ?_
  rw [k_l op n s p ps o ks hop hk hl (ks.length - 1) (0 + 1) _ (by omega) (by omega) (by simp only [List.nil_append]; rw [Nat.zero_add]; omega), List.nil_append, Nat.zero_add, ht, Lib.join_cons]
end
section
variable (n : Int) (s : Bs) (p : List Bs) (ps : List Pr) (o : Bool) (ks : List Ex) (hk : ∀ q ∈ ps, ref15_Of (.agg 7 (encE q.e)) = some (.str (txE q.e))) (hl : ps.length ≤ 1073741824)
include hk hl
theorem j2_is (acc : Bs) (i : Nat) (hi : i < ps.length) (hb : acc.length + (pt ps[i]).length ≤ 1099511000000) :
    ref15_Of.j2 (.boxv 7 (encE (.mk 10 n s p ps o ks)) []) (.str acc) (.int .i64 (i : Int)) = ref15_Of.l0 (.boxv 7 (encE (.mk 10 n s p ps o ks)) []) (.str (acc ++ pt ps[i])) (.int .i64 ((i + 1 : Nat) : Int)) := by
  have e1 : ps[i]? = some ps[i] := List.getElem?_eq_getElem hi
  have hx : (Ex.mk 10 n s p ps o ks).ps = ps := rfl
  rw [ref15_Of.j2_eq]
  simp only [x4, asL8_]
  unfold pt at hb ⊢
  simp only [List.length_cons, List.length_append, List.length_nil] at hb
  rw [hx, idx_at (encPr_at e1), y0, asS_, gW (by omega), guT, gW (by simp; omega), guT, idx_at (encPr_at e1)]
  simp only [z1, z2, z3, z4, z5, z6, z7, encE_eta]
  rw [hk _ (List.getElem_mem hi), someB, asS_, gW (by simp; omega), guT, gW (by simp; omega), guT, w64_succ (by omega)]
  simp [List.append_assoc]
noncomputable def finP (acc : Bs) : Option AV := ifB (o && decide ((0 : Int) < (ps.length : Int))) (ref15_Of.j3 (.boxv 7 (encE (.mk 10 n s p ps o ks)) []) (.str (acc ++ [32]))) (ref15_Of.j3 (.boxv 7 (encE (.mk 10 n s p ps o ks)) []) (.str acc))
omit hk hl in
theorem fin_is (acc : Bs) (i : Nat) (hi : ps.length ≤ i) (hb : acc.length ≤ 1099511000000) : ref15_Of.l0 (.boxv 7 (encE (.mk 10 n s p ps o ks)) []) (.str acc) (.int .i64 (i : Int)) = finP n s p ps o ks acc := by
  have hx : (Ex.mk 10 n s p ps o ks).ps = ps := rfl
  have ho : (Ex.mk 10 n s p ps o ks).o = o := rfl
  rw [ref15_Of.l0_eq]
  simp only [x4, x5, asB_, asL8_, encPs_len]
  rw [hx, ho, decide_eq_false (by omega), ifF]
  rw [show (ifB o (some (decide ((0 : Int) < (ps.length : Int)))) (some false) : Option Bool) = some (o && decide ((0 : Int) < (ps.length : Int))) by cases o <;> rfl, someB, gW (by simp; omega), guT]
  rfl
theorem p_l : ∀ (d i : Nat) (acc : Bs), i + d = ps.length → 1 ≤ i → acc.length + Lib.lens (txPs (ps.drop i)) + d ≤ 1099511000000 →
    ref15_Of.l0 (.boxv 7 (encE (.mk 10 n s p ps o ks)) []) (.str acc) (.int .i64 (i : Int)) = finP n s p ps o ks (acc ++ Lib.joinTail [32] (txPs (ps.drop i)))
  | 0, i, acc, hi, h1, hb => by
    rw [fin_is n s p ps o ks acc i (by omega) (by omega), dropNil (by omega), txPs, jt_nil, List.append_nil]
  | d + 1, i, acc, hi, h1, hb => by
    have hil : i < ps.length := by omega
    have hx : (Ex.mk 10 n s p ps o ks).ps = ps := rfl
    rw [dropCons hil, txPs_cons, lens_cons] at hb
    rw [ref15_Of.l0_eq]
    simp only [x4, asL8_, encPs_len]
    rw [hx, decide_eq_true (by omega), ifT, decide_eq_true (by omega), ifT, gW (by simp; omega), guT]
    rw [j2_is n s p ps o ks hk hl (acc ++ [32]) i hil (by rw [List.length_append, List.length_singleton]; omega)]
    rw [p_l d (i + 1) (acc ++ [32] ++ pt ps[i]) (by omega) (by omega) (by rw [List.length_append, List.length_append, List.length_singleton]; omega)]
    rw [dropCons hil, txPs_cons, jt_cons]
    simp [List.append_assoc]
omit hk hl in
theorem jt_app (sep : Bs) (a b : List Bs) : Lib.joinTail sep (a ++ b) = Lib.joinTail sep a ++ Lib.joinTail sep b := by simp [Lib.joinTail]
omit hk hl in
theorem j3_is (acc : Bs) (hb : acc.length ≤ 1099511000000) : ref15_Of.j3 (.boxv 7 (encE (.mk 10 n s p ps o ks)) []) (.str acc) = some (.str (123 :: ((acc ++ if o = true then [46, 46, 46] else []) ++ [125]))) := by
  have ho : (Ex.mk 10 n s p ps o ks).o = o := rfl
  rw [ref15_Of.j3_eq]
  simp only [x5, asB_]
  rw [ho]
  cases o with
  | true => rw [ifT, gW (by simp; omega), guT, gW (by simp; omega), guT, gW (by simp; omega), guT]; simp
  | false => rw [ifF, gW (by simp; omega), guT, gW (by simp; omega), guT]; simp
theorem ps_is (hb : Lib.lens (txPs ps) + ps.length ≤ 1099510000000) : ref15_Of.l0 (.boxv 7 (encE (.mk 10 n s p ps o ks)) []) (.str []) (.int .i64 0) = some (.str (123 :: (Lib.join (txPs ps ++ (if o = true then [[46, 46, 46]] else [])) [32] ++ [125]))) := by
  by_cases h0 : ps.length = 0
  · have hz := List.eq_nil_of_length_eq_zero h0
    have h := fin_is n s p ps o ks [] 0 (by omega) (by simp)
    refine h.trans ?_
    unfold finP
    rw [decide_eq_false (by omega), Bool.and_false, ifF, j3_is n s p ps o ks [] (by simp), hz, txPs]
    cases o <;> rfl
  · have hil : 0 < ps.length := by omega
    have hx : (Ex.mk 10 n s p ps o ks).ps = ps := rfl
    have hc := dropCons hil
    rw [List.drop_zero] at hc
    have ht : txPs ps = pt ps[0] :: txPs (ps.drop 1) := by
      conv => lhs; rw [hc, txPs_cons]
    have hjl := Lib.joinTail_length [32] (txPs (ps.drop 1))
    rw [txPs_len, List.length_drop, List.length_singleton] at hjl
    rw [ht, lens_cons] at hb
    rw [ref15_Of.l0_eq]
    simp only [x4, asL8_, encPs_len]
    rw [hx, decide_eq_true (by omega), ifT, show decide ((0 : Int) < 0) = false from rfl, ifF]
    have h4 := j2_is n s p ps o ks hk hl [] 0 hil (by simp; omega)
    refine h4.trans ?_
    rw [p_l n s p ps o ks hk hl (ps.length - 1) (0 + 1) _ (by omega) (by omega) (by simp only [List.nil_append]; rw [Nat.zero_add]; omega), List.nil_append, Nat.zero_add]
    unfold finP
    rw [decide_eq_true (by omega), Bool.and_true]
    have hlen : (pt ps[0] ++ Lib.joinTail [32] (txPs (List.drop 1 ps))).length ≤ 1099510000000 := by rw [List.length_append, hjl]; omega
    rw [j3_is n s p ps o ks _ (by rw [List.length_append, List.length_singleton]; omega), j3_is n s p ps o ks _ (by omega), ht, List.cons_append, Lib.join_cons, jt_app]
    cases o with
    | true =>
      rw [ifT, if_pos rfl, if_pos rfl, jt_cons, jt_nil]
      simp [List.append_assoc]
    | false =>
      rw [ifF, if_neg (by simp), if_neg (by simp), jt_nil]
      simp [List.append_assoc]
end
theorem txPs_mem_le {ps : List Pr} (hr : risD (ps.map Pr.n) = true) (hp : ∀ q ∈ ps, GX q.e) : Lib.lens (txPs ps) + 13 * ps.length ≤ 2048 * szPs ps :=
  txPs_le ps (fun q hm => tx_len q.e (hp q hm)) (fun q hm => ris_len hr q.n (List.mem_map_of_mem hm))
theorem txKs_mem_le (op : Int) {ks : List Ex} (hk : ∀ k ∈ ks, GX k) : Lib.lens (txKs op ks) + 30 * ks.length ≤ 2048 * szEs ks :=
  txKs_le op ks fun k hm => tx_len k (hk k hm)
/-- The document's text of an expression. -/
theorem of15_is (e : Ex) (h : GX e) (hz : szE e ≤ 268435456) : ref15_Of (.agg 7 (encE e)) = some (.str (txE e)) := by
  rw [ref15_Of.f_eq, x0, asI_]
  cases h with
  | nu op n h hn =>
    have hi := itoa_len (n := n) (by omega)
    have hT : ref01_Text (.int .i64 n) = some (.str (Lib.itoa n)) := textR_is ⟨by omega, by omega⟩
    rw [txLf, show (lf op n).op = op from rfl]
    have g1 : Nat.ble ([(62 : UInt8), 61].length + (Lib.itoa n).length) lim = true := gW (by simp; omega)
    have g2 : Nat.ble ([(60 : UInt8), 61].length + (Lib.itoa n).length) lim = true := gW (by simp; omega)
    simp only [x1, asI_, show (lf op n).n = n from rfl, hT, someB, asS_]
    rcases h with rfl | rfl | rfl
    · rfl
    · show guardK (Nat.ble ([(62 : UInt8), 61].length + (Lib.itoa n).length) lim) (some (AV.str ([62, 61] ++ Lib.itoa n))) = _
      rw [g1]; rfl
    · show guardK (Nat.ble ([(60 : UInt8), 61].length + (Lib.itoa n).length) lim) (some (AV.str ([60, 61] ++ Lib.itoa n))) = _
      rw [g2]; rfl
  | tx s h =>
    simp only [x2, asS_]
    have hQ : ref12_Quote (.str s) = some (.str (quoteB s)) := q12_is s (by omega)
    rw [show (Ex.mk 2 0 s [] [] false []).s = s from rfl, hQ, someB, asS_, txE]
    rfl
  | bo n h =>
    simp only [x1, asI_]
    rcases h with rfl | rfl <;> (rw [txLf]; rfl)
  | ki n h =>
    simp only [x1, asI_]
    rw [show (lf 4 n).n = n from rfl, kind15_is n h, someB, asS_, txLf]
    rfl
  | ze op h =>
    rw [txLf]
    rcases h with rfl | rfl <;> rfl
  | st ps o h hr hp =>
    have hb := txPs_mem_le hr hp
    rw [szE] at hz
    have hx := ps_is 0 [] [] ps o [] (fun q hm => have := szE_ps (e := .mk 10 0 [] [] ps o []) hm; of15_is q.e (hp q hm) (by rw [szE] at this; omega)) (by omega) (by omega)
    rw [show (Ex.mk 10 0 [] [] ps o []).op = 10 from rfl]
    rw [txE]
    exact hx
  | ks op h ks h1 h2 hk =>
    have hb := txKs_mem_le op hk
    rw [szE] at hz
    have hx := ks_is op 0 [] [] [] false ks h (fun k hm => have := szE_ks (e := .mk op 0 [] [] [] false ks) hm; of15_is k (hk k hm) (by rw [szE] at this; omega)) (by omega) (by omega) (by omega)
    rw [show (Ex.mk op 0 [] [] [] false ks).op = op from rfl]
    rcases h with rfl | rfl
    · rw [txE]; exact hx
    · rw [txE]; exact hx
termination_by szE e
end Go.Proofs.YtmdimhcjogjcgaaGreatDoor.Xp
namespace Go.Proofs.YtmdimhcjogjcgaaGreatDoor.Lat
/-- An action. -/
structure Ac where
  k : Int
  t : Th
def encA (a : Ac) : List Abs.AV := .int .i64 a.k :: encTh a.t
def encAs (l : List Ac) : List (List Abs.AV) := l.map encA
theorem encAs_at {l : List Ac} {i : Nat} {t : Ac} (h : l[i]? = some t) : (encAs l)[i]? = some (encA t) := by rw [encAs, List.getElem?_map, h]; rfl
theorem encAs_len (l : List Ac) : (encAs l).length = l.length := by simp [encAs]
def thsOf (l : List Ac) : List Th := l.map (·.t)
end Go.Proofs.YtmdimhcjogjcgaaGreatDoor.Lat
namespace Go.Proofs.YtmdimhcjogjcgaaGreatDoor.Xp
open Go.Proofs.YtmdimhcjogjcgaaGreatDoor.Abs Go.Proofs.YtmdimhcjogjcgaaGreatDoor.Lat Go.Proofs.YtmdimhcjogjcgaaGreatDoor.Gr
/-! How large a right value is. -/
mutual
theorem ok_szT : ∀ t : Tm, okT Rn t = true → szT t + 1 ≤ 2 * wtT t
  | .mk k lo hi s a m o fs, h => by
    have hf : fs = [] ∨ okF Rn fs = true := by
      rw [okT_eq] at h
      split at h
      · left
        have : anyT (.mk k lo hi s a m o fs) = true := h
        unfold anyT at this
        simp only [Bool.and_eq_true, List.isEmpty_iff] at this
        exact this.2
      · split at h
        · right; rw [Bool.and_eq_true] at h; exact h.2
        · left
          have : scal (.mk k lo hi s a m o fs) = true := h
          have hn : ¬ (o || !fs.isEmpty || (m && single (.mk k lo hi s a m o fs))) = true := fun c => by
            unfold scal at this; dsimp only at this; rw [if_pos c] at this; cases this
          cases fs with
          | nil => rfl
          | cons x r => exact absurd (by simp) hn
    rw [wtT, show szT (.mk k lo hi s a m o fs) = 1 + szF fs from szT_fs _]
    rcases hf with rfl | hf
    · rw [szF]; omega
    · have := ok_szF fs hf; omega
theorem ok_szF : ∀ fs : List Lat.Fd, okF Rn fs = true → szF fs ≤ 2 * wtF fs
  | [], _ => by rw [szF]; omega
  | .mk n v :: r, h => by
    rw [okF_cons] at h
    simp only [Bool.and_eq_true] at h
    have h1 := ok_szF r h.2
    have hv := h.1.2
    unfold okV at hv
    simp only [Bool.and_eq_true] at hv
    have hL : okL Rn v = true := hv.1.1.2
    have hne : v ≠ [] := fun e => by have := h.1.1; rw [show (Lat.Fd.mk n v).v = v from rfl, e] at this; cases this
    have h2 := ok_szV v hL
    have hlen : 0 < v.length := List.length_pos_iff.2 hne
    rw [szF, wtF]; omega
theorem ok_szV : ∀ v : List Tm, okL Rn v = true → szV v + v.length ≤ 2 * wtV v
  | [], _ => by rw [szV, wtV]; simp
  | t :: r, h => by
    rw [okL, Bool.and_eq_true] at h
    have h1 := ok_szT t h.1
    have h2 := ok_szV r h.2
    rw [szV, wtV, List.length_cons]; omega
end
theorem ok_sz {v : List Tm} (h : okV Rn v = true) : szV v ≤ 1024 := by
  have hL := okV_L h
  have := ok_szV v hL
  unfold okV limV at h
  simp only [Bool.and_eq_true, decide_eq_true_eq] at h
  omega
/-! A value's expression and text. -/
theorem expr36_is (v : List Tm) (hz : szV v ≤ 1073741824) : ref36_Expr (.agg 1 [.sl 8 (encV v)]) = some (.tup [.agg 7 (encE (exX v).1), .int .i64 (exX v).2]) := by
  have hR : ref09_Right (.agg 1 [.sl 8 (encV v)]) = some (.bool (okV Rn v)) := right9_is v hz
  rw [ref36_Expr.f_eq, hR, someB, asB_]
  unfold exX
  cases hok : okV Rn v with
  | false => rfl
  | true =>
    have hL := okV_L hok
    have hs := ok_sz hok
    obtain ⟨x, hx, hxx⟩ := of36_is v (by omega) (kok_of v hL)
    rw [Bool.not_true, ifF, if_pos rfl, hx, someB, asT2x, asC7_, asB_]
    cases hq : valX v with
    | none => rfl
    | some y =>
      obtain rfl := hxx y hq
      have hg := valX_gx v hL x hq
      have hsx := szX_is v x hq
      rw [Option.isSome_some, Bool.not_true, ifF, check13_is x (by omega) hg, someB, asI_]
      show _ = some (AV.tup [AV.agg 7 (encE (if 16 < dpE x then (lf 0 0, (22 : Int)) else (x, 0)).1), AV.int .i64 (if 16 < dpE x then (lf 0 0, (22 : Int)) else (x, 0)).2])
      by_cases h : 16 < dpE x
      · rw [if_pos h, if_pos h]; rfl
      · rw [if_neg h, if_neg h]; rfl
theorem linesE_is (v : List Tm) (hz : szV v ≤ 1073741824) : lines_Expr (.agg 1 [.sl 8 (encV v)]) = some (.tup [.agg 7 (encE (exX v).1), .int .i64 (exX v).2]) := by
  cases hok : okV Rn v with
  | true => exact linesExpr_is v (by have := ok_sz hok; omega)
  | false =>
    have hR : lat_Right (.agg 1 [.sl 8 (encV v)]) = some (.bool (okV Rn v)) := rightP_is v hz
    rw [lines_Expr.f_eq, hR, someB, asB_]
    unfold exX
    rw [hok]; rfl
theorem exX_gx {v : List Tm} (h : (exX v).2 = 0) : GX (exX v).1 ∧ szE (exX v).1 ≤ 5000 ∧ dpE (exX v).1 ≤ 16 := by
  unfold exX at h ⊢
  by_cases hok : okV Rn v = true
  · rw [if_pos hok] at h ⊢
    have hL := okV_L hok
    cases hq : valX v with
    | none => rw [hq] at h; cases h
    | some x =>
      rw [hq] at h
      dsimp only at h ⊢
      by_cases hd : 16 < dpE x
      · rw [if_pos hd] at h; cases h
      · rw [if_neg hd]
        have := szX_is v x hq
        have := ok_sz hok
        exact ⟨valX_gx v hL x hq, by show szE x ≤ _; omega, by show dpE x ≤ _; omega⟩
  · rw [if_neg hok] at h; cases h
def vaX (v : List Tm) : Bs × Int := if (exX v).2 = 0 then (txE (exX v).1, 0) else ([], (exX v).2)
theorem vaX_len (v : List Tm) : (vaX v).1.length ≤ 10240000 := by
  unfold vaX
  split
  · rename_i h
    obtain ⟨h1, h2, _⟩ := exX_gx h
    have := tx_len _ h1
    show (txE (exX v).1).length ≤ _
    omega
  · simp
theorem value36_is (v : List Tm) (hz : szV v ≤ 1073741824) : ref36_Value (.agg 1 [.sl 8 (encV v)]) = some (.tup [.str (vaX v).1, .int .i64 (vaX v).2]) := by
  rw [ref36_Value.f_eq, expr36_is v hz, someB, asT2x, asC7_, asI_]
  unfold vaX
  by_cases h : (exX v).2 = 0
  · obtain ⟨h1, h2, _⟩ := exX_gx h
    rw [if_pos h, decide_eq_true h, Bool.not_true, ifF, of15_is _ h1 (by omega)]; rfl
  · rw [if_neg h, decide_eq_false h]; rfl
/-! Things. -/
/-- Names that are not long. -/
structure NmOK (t : Th) : Prop where
  n : t.n.length ≤ 16
  d : ∀ s ∈ t.d, s.length ≤ 16
  l : t.d.length ≤ 1000
  v : szV t.v ≤ 1073741824
theorem lens_16 : ∀ {d : List Bs}, (∀ s ∈ d, s.length ≤ 16) → Lib.lens d ≤ 16 * d.length
  | [], _ => by simp [Lib.lens]
  | x :: r, h => by
    have := lens_16 (d := r) fun s hs => h s (List.mem_cons_of_mem _ hs)
    have := h x (List.mem_cons_self ..)
    rw [lens_cons, List.length_cons]; omega
def hdT (t : Th) : Bs := Lib.join (t.n :: t.d) [32]
theorem hdT_len {t : Th} (h : NmOK t) : (hdT t).length ≤ 20000 := by
  have h1 := lens_16 h.d
  have h2 := join_le (t.n :: t.d) [32]
  have h3 := h.n
  have h4 := h.l
  simp only [lens_cons, List.length_cons, List.length_nil] at h2
  unfold hdT; omega
def thX (t : Th) : Bs × Int := if (vaX t.v).2 = 0 then (hdT t ++ 58 :: 32 :: ((vaX t.v).1 ++ [10]), 0) else ([], (vaX t.v).2)
theorem thX_len {t : Th} (h : NmOK t) : (thX t).1.length ≤ 10300000 := by
  have h1 := hdT_len h
  have h2 := vaX_len t.v
  unfold thX
  split
  · simp only [List.length_append, List.length_cons, List.length_nil]; omega
  · simp
theorem thing36_l (t : Th) (h : NmOK t) (s : Bs) (hs : s.length ≤ 10240000) : ∀ (d i : Nat) (acc : Bs), i + d = t.d.length → acc.length + 17 * d ≤ 20000 →
    ref36_thing.l0 (.boxv 3 (encTh t) []) (.str s) (.str acc) (.int .i64 (i : Int)) = some (.tup [.str ((acc ++ Lib.joinTail [32] (t.d.drop i)) ++ 58 :: 32 :: (s ++ [10])), .int .i64 0])
  | 0, i, acc, hi, ha => by
    have hl := h.l
    rw [ref36_thing.l0_eq]
    simp only [th2, asL1_, encD_len]
    rw [decide_eq_false (by omega), ifF, gW (by simp; omega), guT, gW (by simp; omega), guT, gW (by simp; omega), guT, dropNil (by omega), jt_nil]
    simp [List.append_assoc]
  | d + 1, i, acc, hi, ha => by
    have hl := h.l
    have h1 : i < t.d.length := by omega
    have e1 : t.d[i]? = some t.d[i] := List.getElem?_eq_getElem h1
    have hx := h.d _ (List.getElem_mem h1)
    rw [ref36_thing.l0_eq]
    simp only [th2, asL1_, encD_len]
    rw [decide_eq_true (by omega), ifT, gW (by simp; omega), guT, idx_at (encD_at e1), str0]
    simp only [asS_]
    rw [gW (by simp; omega), guT, w64_succ (by omega), thing36_l t h s hs d (i + 1) _ (by omega) (by simp; omega), dropCons h1, jt_cons]
    simp [List.append_assoc]
theorem thing36_is (t : Th) (h : NmOK t) : ref36_thing (.agg 3 (encTh t)) = some (.tup [.str (thX t).1, .int .i64 (thX t).2]) := by
  have hs := vaX_len t.v
  have h1 := h.n
  have h2 := h.l
  have hl := thing36_l t h (vaX t.v).1 hs t.d.length 0 t.n (by omega) (by omega)
  rw [ref36_thing.f_eq]
  simp only [th0, th1, frz, asS_]
  rw [value36_is t.v h.v, someB, asT2x, asS_, asI_]
  unfold thX
  by_cases he : (vaX t.v).2 = 0
  · rw [if_pos he, decide_eq_true he, Bool.not_true, ifF]
    refine hl.trans ?_
    unfold hdT
    rw [List.drop_zero, Lib.join_cons]
  · rw [if_neg he, decide_eq_false he]; rfl
/-! Lines, one behind the other. -/
def lnX {α : Type} (f : α → Bs × Int) : List α → Bs × Int
  | [] => ([], 0)
  | t :: r => if (f t).2 = 0 then (if (lnX f r).2 = 0 then ((f t).1 ++ (lnX f r).1, 0) else ([], (lnX f r).2)) else ([], (f t).2)
def addX (acc : Bs) (x : Bs × Int) : Bs × Int := if x.2 = 0 then (acc ++ x.1, 0) else ([], x.2)
theorem addX_cons {α : Type} (f : α → Bs × Int) (acc : Bs) (t : α) (r : List α) (h : (f t).2 = 0) : addX acc (lnX f (t :: r)) = addX (acc ++ (f t).1) (lnX f r) := by
  unfold addX
  rw [lnX, if_pos h]
  by_cases h2 : (lnX f r).2 = 0
  · rw [if_pos h2, if_pos rfl, if_pos h2, List.append_assoc]
  · rw [if_neg h2, if_neg h2, if_neg h2]
theorem addX_err {α : Type} (f : α → Bs × Int) (acc : Bs) (t : α) (r : List α) (h : ¬ (f t).2 = 0) : addX acc (lnX f (t :: r)) = ([], (f t).2) := by
  unfold addX
  rw [lnX, if_neg h, if_neg h]
theorem addX_nil (x : Bs × Int) (h : ¬ x.2 = 0 → x.1 = []) : addX [] x = x := by
  obtain ⟨a, b⟩ := x
  unfold addX
  by_cases h2 : b = 0
  · subst h2; rfl
  · rw [if_neg h2]; have := h h2; dsimp only at this ⊢; rw [this]
theorem lnX_err {α : Type} (f : α → Bs × Int) : ∀ l : List α, ¬ (lnX f l).2 = 0 → (lnX f l).1 = []
  | [], h => absurd rfl h
  | t :: r, h => by
    rw [lnX] at h ⊢
    split
    · split
      · rename_i h1 h2
        rw [if_pos h1, if_pos h2] at h; exact absurd rfl h
      · rfl
    · rfl
theorem state36_l (ts : List Th) (hl : ts.length ≤ 1000) (hN : ∀ t ∈ ts, NmOK t) : ∀ (d i : Nat) (acc : Bs), i + d = ts.length → acc.length + 10300000 * d ≤ 20000000000 →
    ref36_State.l0 (.sl 3 (encTs ts)) (.str acc) (.int .i64 (i : Int)) = some (.tup [.str (addX acc (lnX thX (ts.drop i))).1, .int .i64 (addX acc (lnX thX (ts.drop i))).2])
  | 0, i, acc, hi, ha => by
    rw [ref36_State.l0_eq, encTs_len, decide_eq_false (by omega), ifF, dropNil (by omega), lnX]
    unfold addX
    simp
  | d + 1, i, acc, hi, ha => by
    have h1 : i < ts.length := by omega
    have e1 : ts[i]? = some ts[i] := List.getElem?_eq_getElem h1
    have hn := hN _ (List.getElem_mem h1)
    have hx := thX_len hn
    rw [ref36_State.l0_eq, encTs_len, decide_eq_true (by omega), ifT, idx_at (encTs_at e1), thing36_is _ hn, someB, asT2x, asS_, asI_, dropCons h1]
    by_cases he : (thX ts[i]).2 = 0
    · rw [decide_eq_true he, Bool.not_true, ifF, gW (by omega), guT, w64_succ (by omega), state36_l ts hl hN d (i + 1) _ (by omega) (by rw [List.length_append]; omega), addX_cons _ _ _ _ he]
    · rw [decide_eq_false he, Bool.not_false, ifT, addX_err _ _ _ _ he]
noncomputable def stateX (ts : List Th) : Bs × Int := if (ts.all gR && risD (nmsT ts) && !ringB (tds ts)) = true then lnX thX ts else ([], 1)
/-- An action's line. -/
def acX (a : Ac) : Bs × Int := if (decide (1 ≤ a.k) && decide (a.k ≤ 3) && Rn a.t.n && risD a.t.d) = true then (if a.k = 1 then ([100, 101, 108, 101, 116, 101, 32] ++ (a.t.n ++ [10]), 0) else if (thX a.t).2 = 0 then ((if a.k = 2 then [99, 114, 101, 97, 116, 101, 32] else [117, 112, 100, 97, 116, 101, 32]) ++ (thX a.t).1, 0) else ([], (thX a.t).2)) else ([], 1)
section
variable {α : Type} (a : Ac) (k : AV → Option α)
theorem ac0 : getC (encA a) 0 k = k (.int .i64 a.k) := rfl
theorem ac1 : getC (encA a) 1 k = k (.str a.t.n) := by cases a with | mk x t => cases t; rfl
theorem ac2 : getC (encA a) 2 k = k (.sl 8 (encV a.t.v)) := by cases a with | mk x t => cases t; rfl
theorem ac3 : getC (encA a) 3 k = k (.sl 1 (encD a.t.d)) := by cases a with | mk x t => cases t; rfl
end
theorem encTh_eta (t : Th) : [AV.str t.n, AV.sl 8 (encV t.v), AV.sl 1 (encD t.d)] = encTh t := by cases t; rfl
def acOK (a : Ac) : Bool := decide (1 ≤ a.k) && decide (a.k ≤ 3) && Rn a.t.n && risD a.t.d
theorem acX_no {a : Ac} (h : acOK a = false) : acX a = ([], 1) := by
  unfold acX
  rw [if_neg (by unfold acOK at h; rw [h]; simp)]
theorem acX_yes {a : Ac} (h : acOK a = true) : acX a = if a.k = 1 then ([100, 101, 108, 101, 116, 101, 32] ++ (a.t.n ++ [10]), 0) else if (thX a.t).2 = 0 then ((if a.k = 2 then [99, 114, 101, 97, 116, 101, 32] else [117, 112, 100, 97, 116, 101, 32]) ++ (thX a.t).1, 0) else ([], (thX a.t).2) := by
  unfold acX
  rw [if_pos (by unfold acOK at h; rw [h])]
theorem acOK_nm {a : Ac} (h : acOK a = true) (hs : SmTh a.t) : NmOK a.t := by
  unfold acOK at h
  simp only [Bool.and_eq_true] at h
  exact ⟨rn_len h.1.2, ris_len h.2, hs.d, hs.v⟩
theorem acX_len {a : Ac} (hs : SmTh a.t) : (acX a).1.length ≤ 10300100 := by
  cases h : acOK a with
  | false => rw [acX_no h]; simp
  | true =>
    have hn := acOK_nm h hs
    have h1 := thX_len hn
    have h2 := hn.n
    rw [acX_yes h]
    split
    · simp only [List.length_append, List.length_cons, List.length_nil]; omega
    · split
      · split <;> (simp only [List.length_append, List.length_cons, List.length_nil]; omega)
      · simp
theorem plan36_l (l : List Ac) (hl : l.length ≤ 1000) (hN : ∀ a ∈ l, SmTh a.t) : ∀ (d i : Nat) (acc : Bs), i + d = l.length → acc.length + 10300100 * d ≤ 20000000000 →
    ref36_Plan.l0 (.sl 4 (encAs l)) (.str acc) (.int .i64 (i : Int)) = some (.tup [.str (addX acc (lnX acX (l.drop i))).1, .int .i64 (addX acc (lnX acX (l.drop i))).2])
  | 0, i, acc, hi, ha => by
    rw [ref36_Plan.l0_eq, encAs_len, decide_eq_false (by omega), ifF, dropNil (by omega), lnX]
    unfold addX
    simp
  | d + 1, i, acc, hi, ha => by
    have h1 : i < l.length := by omega
    have e1 : l[i]? = some l[i] := List.getElem?_eq_getElem h1
    have hs := hN _ (List.getElem_mem h1)
    have hx := acX_len hs
    have hd := hs.d
    rw [ref36_Plan.l0_eq, encAs_len, decide_eq_true (by omega), ifT, idx_at (encAs_at e1), dropCons h1]
    simp only [ac0, ac1, ac2, ac3, frz, encTh_eta, asI_, asS_, asL1_]
    rw [show ref02_Right (.str l[i].t.n) = some (.bool (Rn l[i].t.n)) from right2_is _, risR_is l[i].t.d (by omega)]
    simp only [orKB, someB, asB_]
    have hb : (((decide (l[i].k < 1) || decide (3 < l[i].k)) || !Rn l[i].t.n) || !risD l[i].t.d) = !acOK l[i] := by
      unfold acOK
      by_cases q1 : l[i].k < 1
      · rw [decide_eq_true q1, decide_eq_false (p := 1 ≤ l[i].k) (by omega)]; rfl
      · rw [decide_eq_false q1, decide_eq_true (p := 1 ≤ l[i].k) (by omega)]
        by_cases q2 : 3 < l[i].k
        · rw [decide_eq_true q2, decide_eq_false (p := l[i].k ≤ 3) (by omega)]; rfl
        · rw [decide_eq_false q2, decide_eq_true (p := l[i].k ≤ 3) (by omega)]
          cases Rn l[i].t.n <;> cases risD l[i].t.d <;> rfl
    rw [hb]
    have ih := fun x => plan36_l l hl hN d (i + 1) (acc ++ x) (by omega)
    cases hok : acOK l[i] with
    | false =>
      rw [Bool.not_false, ifT, addX_err _ _ _ _ (by rw [acX_no hok]; decide), acX_no hok]
    | true =>
      have hn := acOK_nm hok hs
      have hA := acX_yes hok
      have hth := thX_len hn
      have hnn := hn.n
      rw [Bool.not_true, ifF]
      by_cases hk1 : l[i].k = 1
      · rw [if_pos hk1] at hA
        rw [decide_eq_true hk1, ifT, gW (by simp; omega), guT, gW (by simp; omega), guT, gW (by simp; omega), guT, w64_succ (by omega), addX_cons _ _ _ _ (by rw [hA])]
        have := ih (acX l[i]).1 (by rw [List.length_append]; omega)
        rw [hA] at this ⊢
        simp only [List.append_assoc] at this ⊢
        exact this
      · rw [if_neg hk1] at hA
        rw [decide_eq_false hk1, ifF, thing36_is _ hn, someB, asT2x, asS_, asI_]
        by_cases he : (thX l[i].t).2 = 0
        · rw [if_pos he] at hA
          rw [decide_eq_true he, Bool.not_true, ifF, addX_cons _ _ _ _ (by rw [hA])]
          have := ih (acX l[i]).1 (by rw [List.length_append]; omega)
          rw [hA] at this ⊢
          by_cases hk2 : l[i].k = 2
          · rw [if_pos hk2] at this ⊢
            rw [decide_eq_true hk2, ifT, gW (by simp; omega), guT, gW (by simp; omega), guT, w64_succ (by omega)]
            simp only [List.append_assoc] at this ⊢
            exact this
          · rw [if_neg hk2] at this ⊢
            rw [decide_eq_false hk2, ifF, gW (by simp; omega), guT, gW (by simp; omega), guT, w64_succ (by omega)]
            simp only [List.append_assoc] at this ⊢
            exact this
        · rw [if_neg he] at hA
          rw [decide_eq_false he, Bool.not_false, ifT, addX_err _ _ _ _ (by rw [hA]; exact he), hA]
theorem plan36_is (l : List Ac) (hl : l.length ≤ 1000) (hN : ∀ a ∈ l, SmTh a.t) : ref36_Plan (.sl 4 (encAs l)) = some (.tup [.str (lnX acX l).1, .int .i64 (lnX acX l).2]) := by
  rw [ref36_Plan.f_eq]
  have h := plan36_l l hl hN l.length 0 [] (by omega) (by simp; omega)
  rw [List.drop_zero, addX_nil _ (lnX_err acX l)] at h
  exact h
theorem gR_nm {ts : List Th} (h : (ts.all gR && risD (nmsT ts) && !ringB (tds ts)) = true) (hs : ∀ t ∈ ts, SmTh t) : ∀ t ∈ ts, NmOK t := fun t ht => by
  simp only [Bool.and_eq_true] at h
  have hg := List.all_eq_true.1 h.1.1 t ht
  unfold gR at hg
  simp only [Bool.and_eq_true] at hg
  exact ⟨ris_len h.1.2 t.n (List.mem_map.2 ⟨t, ht, rfl⟩), ris_len hg.1.2, (hs t ht).d, (hs t ht).v⟩
theorem state36_is (ts : List Th) (hl : ts.length ≤ 256) (hs : ∀ t ∈ ts, SmTh t) : ref36_State (.sl 3 (encTs ts)) = some (.tup [.str (stateX ts).1, .int .i64 (stateX ts).2]) := by
  rw [ref36_State.f_eq, right30_is ts hl hs, someB, asB_]
  unfold stateX
  cases hr : (ts.all gR && risD (nmsT ts) && !ringB (tds ts)) with
  | false => rfl
  | true =>
    have hN := gR_nm hr hs
    rw [Bool.not_true, ifF, if_pos rfl]
    have h := state36_l ts (by omega) hN ts.length 0 [] (by omega) (by simp; omega)
    rw [List.drop_zero, addX_nil _ (lnX_err thX ts)] at h
    exact h
end Go.Proofs.YtmdimhcjogjcgaaGreatDoor.Xp
