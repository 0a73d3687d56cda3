/- The program's text of an expression. -/
import Derived.Test.YtmdimhcjogjcgaaGreatDoorZz
import Derived.Test.YtmdimhcjogjcgaaGreatDoorLawV5
set_option linter.unusedVariables false
set_option linter.unusedSimpArgs false
set_option linter.unusedSectionVars false
set_option linter.deprecated false
set_option linter.unnecessarySimpa false
namespace Go.Proofs.YtmdimhcjogjcgaaGreatDoor.Xp
open Go.Proofs.YtmdimhcjogjcgaaGreatDoor.Abs Go.Proofs.YtmdimhcjogjcgaaGreatDoor.Lat
theorem join_flat (d : List Bs) : Lib.join d [] = d.flatten := by
  cases d with
  | nil => rfl
  | cons x r => rw [Lib.join_cons]; simp [Lib.joinTail]
theorem joinU {d : List Bs} {sep : Bs} (h1 : d.length ≤ 1073741824) (h2 : (Lib.join d sep).length ≤ 1099511627776) : u_strings_Join (.sl 1 (encD d)) (.str sep) = some (.str (Lib.join d sep)) := z_join ⟨h1, h2⟩
theorem glue_is (d : List Bs) (h1 : d.length ≤ 1073741824) (h2 : d.flatten.length ≤ 1099511627776) : u_show_glue (.sl 1 (encD d)) = some (.str d.flatten) := by
  rw [u_show_glue.f_eq, joinU h1 (by rw [join_flat]; exact h2), join_flat]; rfl
theorem in_is (op : Int) (hop : op = 11 ∨ op = 12) (k : Ex) (hk : opOK k.op) (ht : u_show_text (.agg 7 (encE k)) = some (.str (txE k))) (hl : (txE k).length ≤ 1099511000000) : u_show_in (.agg 7 (encE k)) (.int .i64 (lvl op + 1)) = some (.str (kt op k)) := by
  rw [u_show_in.f_eq, up_show_level (level_is k hk), someB, asI_, lvl_brk op k.op hop hk, ht]
  simp only [someB, asS_]
  unfold kt
  cases brk op k.op with
  | true =>
    rw [ifT, if_pos rfl]
    have hg := glue_is [[40], txE k, [41]] (by simp) (by simp; omega)
    rw [show ([[AV.str [40]], [AV.str (txE k)], [AV.str [41]]] : List (List AV)) = encD [[40], txE k, [41]] from rfl, hg]
    simp [asS]
  | false => rw [ifF, if_neg (by simp)]
section
variable (op n : Int) (s : Bs) (p : List Bs) (ps : List Pr) (o : Bool) (ks : List Ex) (hop : op = 11 ∨ op = 12) (hg : ∀ k ∈ ks, opOK k.op) (hk : ∀ k ∈ ks, u_show_text (.agg 7 (encE k)) = some (.str (txE k))) (hb : ∀ k ∈ ks, (txE k).length ≤ 1099511000000) (hl : ks.length ≤ 1073741824)
include hop hg hk hb hl
theorem skids_l : ∀ (d i : Nat) (acc : List Bs), i + d = ks.length → acc.length = i →
    u_show_kids.l0 (.boxv 7 (encE (.mk op n s p ps o ks)) []) (.own 1 (encD acc)) (.sl 7 (encEs ks)) (.int .i64 (ks.length : Int)) (.int .i64 (i : Int)) =
      u_show_kids.l0 (.boxv 7 (encE (.mk op n s p ps o ks)) []) (.own 1 (encD (acc ++ txKs op (ks.drop i)))) (.sl 7 (encEs ks)) (.int .i64 (ks.length : Int)) (.int .i64 (ks.length : Int))
  | 0, i, acc, hi, ha => by
    rw [dropNil (by omega), txKs, List.append_nil, show i = ks.length by omega]
  | d + 1, i, acc, hi, ha => by
    have h1 : i < ks.length := by omega
    have e1 : ks[i]? = some ks[i] := List.getElem?_eq_getElem h1
    have hm := List.getElem_mem h1
    have ho : (Ex.mk op n s p ps o ks).op = op := rfl
    have hin := in_is op hop ks[i] (hg _ hm) (hk _ hm) (hb _ hm)
    have hlv : u_show_level (.agg 7 (encE (.mk op n s p ps o ks))) = some (.int .i64 (lvl op)) := up_show_level (level_is _ (by rw [ho]; unfold opOK; omega))
    have hw : w64 (lvl op + 1) = lvl op + 1 := by
      rcases hop with rfl | rfl <;> rfl
    have ih := skids_l d (i + 1) (acc ++ [kt op ks[i]]) (by omega) (by simp; omega)
    have hj : ∀ m : Int, m = lvl op + 1 → u_show_kids.j1 (.boxv 7 (encE (.mk op n s p ps o ks)) []) (.own 1 (encD acc)) (.boxv 7 (encE ks[i]) []) (.int .i64 m) (.sl 7 (encEs ks)) (.int .i64 (ks.length : Int)) (.int .i64 (i : Int)) =
        u_show_kids.l0 (.boxv 7 (encE (.mk op n s p ps o ks)) []) (.own 1 (encD (acc ++ [kt op ks[i]]))) (.sl 7 (encEs ks)) (.int .i64 (ks.length : Int)) (.int .i64 ((i + 1 : Nat) : Int)) := fun m hm => by
      subst hm
      rw [u_show_kids.j1_eq, hin, someB, asS_, gOK (by rw [encD_len]; simp; omega), guT, encD_app, w64_succ (by omega)]
    conv => lhs; rw [u_show_kids.l0_eq, decide_eq_true (by omega), ifT, idx_at (encE_at e1), hlv, someB, asI_, hw]
    simp only [x0, asI_]
    rw [ho]
    have hb12 : ∀ (q : Bool → Option AV), ((ifB (decide ((i : Int) = 0)) (some (!decide (op = 12))) (some false) : Option Bool).bind fun b9 => (ifB b9 (some (!decide (op = 11))) (some false) : Option Bool).bind q) = q false := fun q => by
      rcases hop with rfl | rfl
      · cases decide ((i : Int) = 0) <;> rfl
      · cases decide ((i : Int) = 0) <;> rfl
    rw [hb12, ifF, hj _ rfl, ih, dropCons h1, txKs_cons, List.append_assoc, List.singleton_append]
theorem skids_is (h1 : Lib.lens (txKs op ks) + 3 * ks.length ≤ 1099511000000) : u_show_kids (.agg 7 (encE (.mk op n s p ps o ks))) = some (.str (Lib.join (txKs op ks) (signT op))) := by
  have h := skids_l op n s p ps o ks hop hg hk hb hl ks.length 0 [] (by omega) rfl
  rw [List.drop_zero, List.nil_append] at h
  rw [u_show_kids.f_eq]
  simp only [x6, asL7_, encEs_len]
  have hx : (Ex.mk op n s p ps o ks).ks = ks := rfl
  rw [hx]
  refine h.trans ?_
  have hj := join_le (txKs op ks) (signT op)
  rw [signT_len, txKs_len] at hj
  have hJ := joinU (d := txKs op ks) (sep := signT op) (by rw [txKs_len]; exact hl) (by omega)
  rw [u_show_kids.l0_eq, decide_eq_false (by omega), ifF]
  simp only [x0, asI_]
  rw [show (Ex.mk op n s p ps o ks).op = op from rfl]
  rcases hop with rfl | rfl
  · rw [show ∀ q : AV → Option AV, idx signsL 11 q = q (AV.str [32, 38, 32]) from fun q => rfl]
    show (u_strings_Join (.sl 1 (encD (txKs 11 ks))) (.str (signT 11))).bind _ = _
    rw [hJ]; rfl
  · rw [show ∀ q : AV → Option AV, idx signsL 12 q = q (AV.str [32, 124, 32]) from fun q => rfl]
    show (u_strings_Join (.sl 1 (encD (txKs 12 ks))) (.str (signT 12))).bind _ = _
    rw [hJ]; rfl
end
section
variable (op n : Int) (s : Bs) (p : List Bs) (ps : List Pr) (o : Bool) (ks : List Ex) (hk : ∀ q ∈ ps, u_show_text (.agg 7 (encE q.e)) = some (.str (txE q.e))) (hb : ∀ q ∈ ps, (pt q).length ≤ 1099511000000) (hl : ps.length ≤ 1073741000)
include hk hb hl
theorem sfields_l : ∀ (d i : Nat) (acc : List Bs), i + d = ps.length → acc.length = i →
    u_show_fields.l0 (.boxv 7 (encE (.mk op n s p ps o ks)) []) (.own 1 (encD acc)) (.sl 8 (encPs ps)) (.int .i64 (ps.length : Int)) (.int .i64 (i : Int)) =
      u_show_fields.l0 (.boxv 7 (encE (.mk op n s p ps o ks)) []) (.own 1 (encD (acc ++ txPs (ps.drop i)))) (.sl 8 (encPs ps)) (.int .i64 (ps.length : Int)) (.int .i64 (ps.length : Int))
  | 0, i, acc, hi, ha => by
    rw [dropNil (by omega), txPs, List.append_nil, show i = ps.length by omega]
  | d + 1, i, acc, hi, ha => by
    have h1 : i < ps.length := by omega
    have e1 : ps[i]? = some ps[i] := List.getElem?_eq_getElem h1
    have hm := List.getElem_mem h1
    have hbb := hb _ hm
    have ih := sfields_l d (i + 1) (acc ++ [pt ps[i]]) (by omega) (by simp; omega)
    have hf : ([ps[i].n, [58, 32], txE ps[i].e, [59]] : List Bs).flatten = pt ps[i] := by unfold pt; simp
    have hg := glue_is [ps[i].n, [58, 32], txE ps[i].e, [59]] (by simp) (by rw [hf]; omega)
    rw [hf] at hg
    conv => lhs; rw [u_show_fields.l0_eq, decide_eq_true (by omega), ifT, idx_at (encPr_at e1), y0, asS_]
    simp only [z1, z2, z3, z4, z5, z6, z7, frz, encE_eta]
    rw [hk _ hm, someB, asS_, show ([[AV.str ps[i].n], [AV.str [58, 32]], [AV.str (txE ps[i].e)], [AV.str [59]]] : List (List AV)) = encD [ps[i].n, [58, 32], txE ps[i].e, [59]] from rfl, hg, someB, asS_]
    rw [gOK (by rw [encD_len]; simp; omega), guT, encD_app, w64_succ (by omega), ih, dropCons h1, txPs_cons, List.append_assoc, List.singleton_append]
omit hk hb hl in
theorem jf_is (l : List Bs) (hl : l.length ≤ 1073741824) (hb : Lib.lens l + l.length ≤ 1099511000000) : u_show_fields.j1 (.own 1 (encD l)) = some (.str (123 :: (Lib.join l [32] ++ [125]))) := by
  have hj := join_le l [32]
  simp only [List.length_cons, List.length_nil] at hj
  have hg := glue_is [[123], Lib.join l [32], [125]] (by simp) (by simp; omega)
  rw [u_show_fields.j1_eq, joinU hl (by omega), someB, asS_, show ([[AV.str [123]], [AV.str (Lib.join l [32])], [AV.str [125]]] : List (List AV)) = encD [[123], Lib.join l [32], [125]] from rfl, hg]
  simp [asS]
theorem sfields_is (h1 : Lib.lens (txPs ps) + ps.length ≤ 1099510000000) : u_show_fields (.agg 7 (encE (.mk op n s p ps o ks))) = some (.str (123 :: (Lib.join (txPs ps ++ (if o = true then [[46, 46, 46]] else [])) [32] ++ [125]))) := by
  have h := sfields_l op n s p ps o ks hk hb hl ps.length 0 [] (by omega) rfl
  rw [List.drop_zero, List.nil_append] at h
  rw [u_show_fields.f_eq]
  simp only [x4, asL8_, encPs_len]
  have hx : (Ex.mk op n s p ps o ks).ps = ps := rfl
  rw [hx]
  refine h.trans ?_
  rw [u_show_fields.l0_eq, decide_eq_false (by omega), ifF]
  simp only [x5, asB_]
  rw [show (Ex.mk op n s p ps o ks).o = o from rfl]
  cases o with
  | true =>
    rw [ifT, gOK (by rw [encD_len, txPs_len]; simp; omega), guT, encD_app, if_pos rfl]
    exact jf_is _ (by rw [List.length_append, txPs_len]; simp; omega) (by rw [lens_app, List.length_append, txPs_len]; simp [Lib.lens] at h1 ⊢; omega)
  | false =>
    rw [ifF, if_neg (by simp), List.append_nil]
    exact jf_is _ (by rw [txPs_len]; omega) (by rw [txPs_len]; omega)
end
/-- The program's text of an expression. -/
theorem text_is (e : Ex) (h : GX e) (hz : szE e ≤ 268435456) : u_show_text (.agg 7 (encE e)) = some (.str (txE e)) := by
  have htl := tx_len e h
  rw [u_show_text.f_eq, x0, asI_]
  cases h with
  | nu op n h hn =>
    have hi := itoa_len (n := n) (by omega)
    have hT : u_num_Text (.int .i64 n) = some (.str (Lib.itoa n)) := up_num_Text (textP_is ⟨by omega, by omega⟩)
    have g1 := glue_is [[62, 61], Lib.itoa n] (by simp) (by simp; omega)
    have g2 := glue_is [[60, 61], Lib.itoa n] (by simp) (by simp; omega)
    simp only [x1, asI_, show (lf op n).n = n from rfl, hT, someB, asS_]
    rw [show ([[AV.str [62, 61]], [AV.str (Lib.itoa n)]] : List (List AV)) = encD [[62, 61], Lib.itoa n] from rfl, show ([[AV.str [60, 61]], [AV.str (Lib.itoa n)]] : List (List AV)) = encD [[60, 61], Lib.itoa n] from rfl, g1, g2, txLf]
    rcases h with rfl | rfl | rfl
    · rfl
    · show some (AV.str (List.flatten [[62, 61], Lib.itoa n])) = some (.str (62 :: 61 :: Lib.itoa n)); simp
    · show some (AV.str (List.flatten [[60, 61], Lib.itoa n])) = some (.str (60 :: 61 :: Lib.itoa n)); simp
  | tx s h =>
    simp only [x2, asS_]
    have hQ : u_token_Quote (.str s) = some (.str (quoteB s)) := up_token_Quote (quote_is s (by omega))
    rw [show (Ex.mk 2 0 s [] [] false []).s = s from rfl, hQ, someB, asS_, txE]
    rfl
  | bo n h =>
    simp only [x1, asI_]
    rcases h with rfl | rfl <;> (rw [txLf]; rfl)
  | ki n h =>
    simp only [x1, asI_]
    rw [show (lf 4 n).n = n from rfl, txLf]
    rcases h with rfl | rfl | rfl | rfl <;> rfl
  | ze op h =>
    rw [txLf]
    rcases h with rfl | rfl <;> rfl
  | st ps o h hr hp =>
    have hb := txPs_mem_le hr hp
    rw [szE] at hz htl
    have hx := sfields_is 10 0 [] [] ps o [] (fun q hm => have := szE_ps (e := .mk 10 0 [] [] ps o []) hm; text_is q.e (hp q hm) (by rw [szE] at this; omega)) (fun q hm => by
      have h1 := tx_len q.e (hp q hm)
      have h2 := ris_len hr q.n (List.mem_map_of_mem hm)
      have h3 := szP_mem hm
      unfold pt; simp only [List.length_append, List.length_cons, List.length_nil]; omega) (by omega) (by omega)
    rw [show (Ex.mk 10 0 [] [] ps o []).op = 10 from rfl, hx, txE]
    rfl
  | ks op h ks h1 h2 hk =>
    have hb := txKs_mem_le op hk
    rw [szE] at hz htl
    have hx := skids_is op 0 [] [] [] false ks h (fun k hm => (hk k hm).op) (fun k hm => have := szE_ks (e := .mk op 0 [] [] [] false ks) hm; text_is k (hk k hm) (by rw [szE] at this; omega)) (fun k hm => by
      have h1 := tx_len k (hk k hm)
      have h3 := szE_mem hm
      omega) (by omega) (by omega)
    rw [show (Ex.mk op 0 [] [] [] false ks).op = op from rfl, hx]
    rcases h with rfl | rfl
    · rw [txE]; rfl
    · rw [txE]; rfl
termination_by szE e
end Go.Proofs.YtmdimhcjogjcgaaGreatDoor.Xp
namespace Go.Proofs.YtmdimhcjogjcgaaGreatDoor.Xp
open Go.Proofs.YtmdimhcjogjcgaaGreatDoor.Abs Go.Proofs.YtmdimhcjogjcgaaGreatDoor.Lat Go.Proofs.YtmdimhcjogjcgaaGreatDoor.Gr
theorem showE_is (e : Ex) (h : GX e) (hz : szE e ≤ 5000) (hd : dpE e ≤ 16) : u_show_Expr (.agg 7 (encE e)) = some (.tup [.str (txE e), .int .i64 0]) := by
  rw [u_show_Expr.f_eq, up_expr_Check (checkX_is e (by omega) h), someB, asI_, if_neg (by omega), text_is e h (by omega)]
  rfl
theorem valueZ_is (v : List Tm) (hz : szV v ≤ 1073741824) : u_lines_Value (.agg 1 [.sl 8 (encV v)]) = some (.tup [.str (vaX v).1, .int .i64 (vaX v).2]) := by
  rw [u_lines_Value.f_eq, up_lines_Expr (linesE_is v hz), someB, asT2x, asC7_, asI_]
  unfold vaX
  by_cases h : (exX v).2 = 0
  · obtain ⟨h1, h2, h3⟩ := exX_gx h
    rw [if_pos h, decide_eq_true h, Bool.not_true, ifF, showE_is _ h1 h2 h3]; rfl
  · rw [if_neg h, decide_eq_false h]; rfl
theorem thingZ_is (t : Th) (h : NmOK t) : u_lines_thing (.agg 3 (encTh t)) = some (.tup [.str (thX t).1, .int .i64 (thX t).2]) := by
  have hs := vaX_len t.v
  have h1 := h.n
  have h2 := h.l
  have hh := hdT_len h
  rw [u_lines_thing.f_eq]
  simp only [th0, th1, th2, frz, asS_, asL1_]
  rw [valueZ_is t.v h.v, someB, asT2x, asS_, asI_]
  unfold thX
  by_cases he : (vaX t.v).2 = 0
  · have hj : u_strings_Join (.sl 1 (encD (t.n :: t.d))) (.str [32]) = some (.str (hdT t)) := joinU (by rw [List.length_cons]; omega) (by unfold hdT at hh; omega)
    rw [if_pos he, decide_eq_true he, Bool.not_true, ifF, gOK (by rw [encD_len]; simp; omega), guT, show [[AV.str t.n]] ++ encD t.d = encD (t.n :: t.d) from rfl, hj, someB, asS_, gW (by simp; omega), guT, gW (by simp; omega), guT, gW (by simp; omega), guT]
    simp [List.append_assoc]
  · rw [if_neg he, decide_eq_false he]; rfl
theorem stateZ_l (ts : List Th) (hl : ts.length ≤ 1000) (hN : ∀ t ∈ ts, NmOK t) : ∀ (d i : Nat) (acc : Bs), i + d = ts.length → acc.length + 10300000 * d ≤ 20000000000 →
    u_lines_State.l0 (.str acc) (.sl 3 (encTs ts)) (.int .i64 (ts.length : Int)) (.int .i64 (i : Int)) = some (.tup [.str (addX acc (lnX thX (ts.drop i))).1, .int .i64 (addX acc (lnX thX (ts.drop i))).2])
  | 0, i, acc, hi, ha => by
    rw [u_lines_State.l0_eq, decide_eq_false (by omega), ifF, dropNil (by omega), lnX]
    unfold addX
    simp
  | d + 1, i, acc, hi, ha => by
    have h1 : i < ts.length := by omega
    have e1 : ts[i]? = some ts[i] := List.getElem?_eq_getElem h1
    have hn := hN _ (List.getElem_mem h1)
    have hx := thX_len hn
    rw [u_lines_State.l0_eq, decide_eq_true (by omega), ifT, idx_at (encTs_at e1), thingZ_is _ hn, someB, asT2x, asS_, asI_, dropCons h1]
    by_cases he : (thX ts[i]).2 = 0
    · rw [decide_eq_true he, Bool.not_true, ifF, gW (by omega), guT, w64_succ (by omega), stateZ_l ts hl hN d (i + 1) _ (by omega) (by rw [List.length_append]; omega), addX_cons _ _ _ _ he]
    · rw [decide_eq_false he, Bool.not_false, ifT, addX_err _ _ _ _ he]
theorem stateZ_is (ts : List Th) (hl : ts.length ≤ 256) (hs : ∀ t ∈ ts, SmTh t) : u_lines_State (.sl 3 (encTs ts)) = some (.tup [.str (stateX ts).1, .int .i64 (stateX ts).2]) := by
  rw [u_lines_State.f_eq, rightS_is ts hl hs, someB, asB_]
  unfold stateX
  cases hr : (ts.all gR && risD (nmsT ts) && !ringB (tds ts)) with
  | false => rfl
  | true =>
    have hN := gR_nm hr hs
    rw [Bool.not_true, ifF, if_pos rfl, encTs_len]
    have h := stateZ_l ts (by omega) hN ts.length 0 [] (by omega) (by simp; omega)
    rw [List.drop_zero, addX_nil _ (lnX_err thX ts)] at h
    exact h
theorem actionZ_is (a : Ac) (hs : SmTh a.t) : u_lines_action (.agg 4 (encA a)) = some (.tup [.str (acX a).1, .int .i64 (acX a).2]) := by
  have hd := hs.d
  rw [u_lines_action.f_eq]
  simp only [ac0, ac1, ac3, asI_, asS_, asL1_]
  rw [up_name_Right (nameR_is a.t.n), up_name_Rising (risN_is a.t.d (by omega))]
  simp only [orKB, someB, asB_]
  have hj : ∀ s : Bs, s.length ≤ 100 → acOK a = true → u_lines_action.j0 (.boxv 4 (encA a) []) (.str s) = some (if (thX a.t).2 = 0 then .tup [.str (s ++ (thX a.t).1), .int .i64 0] else .tup [.str [], .int .i64 (thX a.t).2]) := fun s hsl hok => by
    have hn := acOK_nm hok hs
    have hth := thX_len hn
    rw [u_lines_action.j0_eq]
    simp only [ac1, ac2, ac3, frz, encTh_eta]
    rw [thingZ_is _ hn, someB, asT2x, asS_, asI_]
    by_cases he : (thX a.t).2 = 0
    · rw [decide_eq_true he, Bool.not_true, ifF, gW (by omega), guT, if_pos he]
    · rw [decide_eq_false he, Bool.not_false, ifT, if_neg he]
  cases hok : acOK a with
  | true =>
    have hok' := hok
    unfold acOK at hok'
    simp only [Bool.and_eq_true, decide_eq_true_eq] at hok'
    obtain ⟨⟨⟨q1, q2⟩, q3⟩, q4⟩ := hok'
    have hnn := rn_len q3
    have q3' : Nam.rightV a.t.n = true := q3
    rw [q3', q4, acX_yes hok]
    show ifB false _ _ = _
    rw [ifF]
    by_cases hk1 : a.k = 1
    · rw [decide_eq_true hk1, ifT, if_pos hk1, gW (by simp; omega), guT, gW (by simp; omega), guT]
      simp [List.append_assoc]
    · rw [decide_eq_false hk1, ifF, if_neg hk1]
      by_cases hk3 : a.k = 3
      · rw [decide_eq_true hk3, ifT, hj _ (by simp) hok, if_neg (by omega : ¬ a.k = 2)]
        by_cases he : (thX a.t).2 = 0
        · rw [if_pos he, if_pos he]
        · rw [if_neg he, if_neg he]
      · have hk2 : a.k = 2 := by omega
        rw [decide_eq_false hk3, ifF, decide_eq_true hk2, ifT, hj _ (by simp) hok, if_pos hk2]
        by_cases he : (thX a.t).2 = 0
        · rw [if_pos he, if_pos he]
        · rw [if_neg he, if_neg he]
  | false =>
    rw [acX_no hok]
    by_cases hc : ((!Nam.rightV a.t.n) || !risD a.t.d) = true
    · rw [hc, ifT]
    · have hc' : ((!Nam.rightV a.t.n) || !risD a.t.d) = false := by simpa using hc
      rw [hc', ifF]
      simp only [Bool.or_eq_false_iff, Bool.not_eq_false'] at hc'
      have hk : ¬ (1 ≤ a.k ∧ a.k ≤ 3) := fun h => by
        unfold acOK at hok
        have q3 : Rn a.t.n = true := hc'.1
        rw [decide_eq_true h.1, decide_eq_true h.2, q3, hc'.2] at hok
        cases hok
      rw [decide_eq_false (by omega), ifF, decide_eq_false (by omega), ifF, decide_eq_false (by omega), ifF]
theorem planZ_l (l : List Ac) (hl : l.length ≤ 1000) (hN : ∀ a ∈ l, SmTh a.t) : ∀ (d i : Nat) (acc : Bs), i + d = l.length → acc.length + 10300100 * d ≤ 20000000000 →
    u_lines_Plan.l0 (.str acc) (.sl 4 (encAs l)) (.int .i64 (l.length : Int)) (.int .i64 (i : Int)) = some (.tup [.str (addX acc (lnX acX (l.drop i))).1, .int .i64 (addX acc (lnX acX (l.drop i))).2])
  | 0, i, acc, hi, ha => by
    rw [u_lines_Plan.l0_eq, decide_eq_false (by omega), ifF, dropNil (by omega), lnX]
    unfold addX
    simp
  | d + 1, i, acc, hi, ha => by
    have h1 : i < l.length := by omega
    have e1 : l[i]? = some l[i] := List.getElem?_eq_getElem h1
    have hn := hN _ (List.getElem_mem h1)
    have hx := acX_len hn
    rw [u_lines_Plan.l0_eq, decide_eq_true (by omega), ifT, idx_at (encAs_at e1), actionZ_is _ hn, someB, asT2x, asS_, asI_, dropCons h1]
    by_cases he : (acX l[i]).2 = 0
    · rw [decide_eq_true he, Bool.not_true, ifF, gW (by omega), guT, w64_succ (by omega), planZ_l l hl hN d (i + 1) _ (by omega) (by rw [List.length_append]; omega), addX_cons _ _ _ _ he]
    · rw [decide_eq_false he, Bool.not_false, ifT, addX_err _ _ _ _ he]
theorem planZ_is (l : List Ac) (hl : l.length ≤ 1000) (hN : ∀ a ∈ l, SmTh a.t) : u_lines_Plan (.sl 4 (encAs l)) = some (.tup [.str (lnX acX l).1, .int .i64 (lnX acX l).2]) := by
  rw [u_lines_Plan.f_eq, encAs_len]
  have h := planZ_l l hl hN l.length 0 [] (by omega) (by simp; omega)
  rw [List.drop_zero, addX_nil _ (lnX_err acX l)] at h
  exact h
/-! The page's examples. -/
def awV : List Tm := [.mk 2 1 9 [] false true false []]
def awT : Th := ⟨[119, 101, 98], [.mk 4 0 0 [] false false false [.mk [110] [.mk 2 4 4 [] false false false []]]], [[110, 101, 116]]⟩
theorem itoa1 (n : Int) (h0 : 0 ≤ n) (h : n < 10) : Lib.itoa n = [UInt8.ofNat (48 + n.toNat)] := by
  rw [itoa_pos' n (by omega), dec_small' (by omega)]
theorem awV_is : vaX awV = ([99, 111, 109, 112, 117, 116, 101, 100, 32, 38, 32, 62, 61, 49, 32, 38, 32, 60, 61, 57], 0) := by
  have h1 : okV Rn awV = true := by decide +kernel
  have h2 : valX awV = some (.mk 11 0 [] [] [] false [lf 6 0, lf 7 1, lf 8 9]) := rfl
  have h3 : exX awV = (.mk 11 0 [] [] [] false [lf 6 0, lf 7 1, lf 8 9], 0) := by
    unfold exX; rw [if_pos h1, h2]; rfl
  unfold vaX
  rw [h3, if_pos rfl]
  have e1 : txE (lf 7 1) = [62, 61, 49] := by rw [txLf]; show 62 :: 61 :: Lib.itoa 1 = _; rw [itoa1 1 (by omega) (by omega)]; rfl
  have e2 : txE (lf 8 9) = [60, 61, 57] := by rw [txLf]; show 60 :: 61 :: Lib.itoa 9 = _; rw [itoa1 9 (by omega) (by omega)]; rfl
  have e3 : txE (lf 6 0) = [99, 111, 109, 112, 117, 116, 101, 100] := by rw [txLf]; rfl
  have e4 : txE (.mk 11 0 [] [] [] false [lf 6 0, lf 7 1, lf 8 9]) = Lib.join (txKs 11 [lf 6 0, lf 7 1, lf 8 9]) (signT 11) := by rw [txE]; rfl
  rw [e4, txKs_cons, txKs_cons, txKs_cons, txKs, Lib.join_cons, jt_cons, jt_cons, jt_nil]
  unfold kt
  rw [e1, e2, e3]; rfl
theorem awT_is : thX awT = ([119, 101, 98, 32, 110, 101, 116, 58, 32, 123, 110, 58, 32, 52, 59, 125, 10], 0) := by
  have h1 : okV Rn awT.v = true := by decide +kernel
  have h2 : valX awT.v = some (.mk 10 0 [] [] [.mk [110] (lf 1 4)] false []) := rfl
  have h3 : exX awT.v = (.mk 10 0 [] [] [.mk [110] (lf 1 4)] false [], 0) := by
    unfold exX; rw [if_pos h1, h2]; rfl
  have e1 : txE (lf 1 4) = [52] := by rw [txLf]; show Lib.itoa 4 = _; rw [itoa1 4 (by omega) (by omega)]; rfl
  have e4 : txE (.mk 10 0 [] [] [.mk [110] (lf 1 4)] false []) = 123 :: (Lib.join (txPs [.mk [110] (lf 1 4)] ++ (if false = true then [[46, 46, 46]] else [])) [32] ++ [125]) := by rw [txE]; rfl
  have h4 : vaX awT.v = ([123, 110, 58, 32, 52, 59, 125], 0) := by
    unfold vaX
    rw [h3, if_pos rfl, e4, txPs_cons, txPs]
    unfold pt
    rw [show (Pr.mk [110] (lf 1 4)).e = lf 1 4 from rfl, e1]; rfl
  unfold thX
  rw [h4, if_pos rfl]; rfl
theorem awT_ring : ringB (tds [awT]) = false := by
  cases h : ringB (tds [awT]) with
  | false => rfl
  | true =>
    obtain ⟨S, ⟨k, hk⟩, hS⟩ := ringB_true.1 h
    obtain ⟨h1, ds, h2, d, h3, h4, _⟩ := hS k hk
    simp [tds, awT] at h2
    obtain ⟨rfl, rfl⟩ := h2
    simp at h3
    subst h3
    simp [nms, tds, awT] at h4
theorem awT_ok : ([awT].all gR && risD (nmsT [awT])) = true := by decide +kernel
theorem awT_sm : ∀ t ∈ [awT], SmTh t := fun t ht => by
  rw [List.mem_singleton] at ht; subst ht
  exact ⟨by decide, by decide, by decide⟩
theorem awake_is : u_law36_awake = some (.bool true) := by
  have h1 : u_lines_Value (.agg 1 [.sl 8 (encV awV)]) = some (.tup [.str (vaX awV).1, .int .i64 (vaX awV).2]) := valueZ_is awV (by decide)
  have h2 : u_lines_State (.sl 3 (encTs [awT])) = some (.tup [.str (stateX [awT]).1, .int .i64 (stateX [awT]).2]) := stateZ_is [awT] (by decide) awT_sm
  have h3 : stateX [awT] = ([119, 101, 98, 32, 110, 101, 116, 58, 32, 123, 110, 58, 32, 52, 59, 125, 10], 0) := by
    unfold stateX
    rw [awT_ok, awT_ring]
    show lnX thX [awT] = _
    rw [lnX, lnX, awT_is]; rfl
  rw [awV_is] at h1
  rw [h3] at h2
  rw [u_law36_awake.f_eq]
  refine (congrArg (fun x => Option.bind x _) (show u_lines_Value _ = _ from h1)).trans ?_
  simp only [someB, asT2x, asS_, asI_]
  refine (congrArg (fun x => Option.bind x _) (show u_lines_State _ = _ from h2)).trans ?_
  rfl
theorem law_true (ts : List Th) (l : List Ac) (hl : l.length * 64 ≤ 140737488355328) : ωκ Z 6 [.sl 3 (encTs ts), .sl 4 (encAs l)] = some (.bool true) := by
  show u_law36_LinesTexts (.sl 3 (encTs ts)) (.sl 4 (encAs l)) = some (.bool true)
  obtain ⟨x, hx, hax⟩ := fewT_is ts
  obtain ⟨y, hy, hay⟩ := fewT_is (thsOf l)
  have hx' : u_law30_Few (.sl 3 (encTs ts)) = some (.bool x) := up_law30_Few hx
  have hy' : u_law33_Few (.sl 4 (encAs l)) = some (.bool y) := (z_few hl).trans hy
  rw [u_law36_LinesTexts.f_eq, hx', someB, asB_, hy', someB, asB_, orKB, someB]
  by_cases hc : (!x || !y) = true
  · rw [hc, ifT, awake_is]; rfl
  · have hcf : (!x || !y) = false := by simpa using hc
    rw [hcf, ifF]
    simp only [Bool.or_eq_false_iff, Bool.not_eq_false'] at hcf
    obtain ⟨q1, q2⟩ := hax hcf.1
    obtain ⟨q3, q4⟩ := hay hcf.2
    have q5 : l.length ≤ 12 := by rw [thsOf, List.length_map] at q3; exact q3
    have q6 : ∀ a ∈ l, SmTh a.t := fun a ha => q4 a.t (List.mem_map_of_mem ha)
    have e1 := stateZ_is ts (by omega) q2
    have e2 : u_ref36_State (.sl 3 (encTs ts)) = _ := up_ref36_State (state36_is ts (by omega) q2)
    have e3 := planZ_is l (by omega) q6
    have e4 : u_ref36_Plan (.sl 4 (encAs l)) = _ := up_ref36_Plan (plan36_is l (by omega) q6)
    rw [e1, someB, asT2x, asS_, asI_, e2, someB, asT2x, asS_, asI_, e3, someB, asT2x, asS_, asI_, e4, someB, asT2x, asS_, asI_, awake_is, someB, asB_]
    simp only [decide_true]
    rfl
end Go.Proofs.YtmdimhcjogjcgaaGreatDoor.Xp
