/- Expressions: their parts, and how deep they are. -/
import Derived.Test.YtmdimhcjogjcgaaGreatDoorXB
set_option linter.unusedVariables false
set_option linter.unusedSimpArgs false
set_option linter.unusedSectionVars false
set_option linter.deprecated false
set_option linter.unnecessarySimpa false
namespace Go.Proofs.YtmdimhcjogjcgaaGreatDoor.Xp
open Go.Proofs.YtmdimhcjogjcgaaGreatDoor.Abs Go.Proofs.YtmdimhcjogjcgaaGreatDoor.Lat
def partsX (e : Ex) : List Ex := if e.op = 10 then e.ps.map Pr.e else e.ks
section
variable {α : Type}
theorem z1 (p : Pr) (k : AV → Option α) : getC (encPr p) 1 k = k (.int .i64 p.e.op) := by cases p with | mk n e => cases e; rfl
theorem z2 (p : Pr) (k : AV → Option α) : getC (encPr p) 2 k = k (.int .i64 p.e.n) := by cases p with | mk n e => cases e; rfl
theorem z3 (p : Pr) (k : AV → Option α) : getC (encPr p) 3 k = k (.str p.e.s) := by cases p with | mk n e => cases e; rfl
theorem z4 (p : Pr) (k : AV → Option α) : getC (encPr p) 4 k = k (.sl 1 (encD p.e.p)) := by cases p with | mk n e => cases e; rfl
theorem z5 (p : Pr) (k : AV → Option α) : getC (encPr p) 5 k = k (.sl 8 (encPs p.e.ps)) := by cases p with | mk n e => cases e; rfl
theorem z6 (p : Pr) (k : AV → Option α) : getC (encPr p) 6 k = k (.bool p.e.o) := by cases p with | mk n e => cases e; rfl
theorem z7 (p : Pr) (k : AV → Option α) : getC (encPr p) 7 k = k (.sl 7 (encEs p.e.ks)) := by cases p with | mk n e => cases e; rfl
end
theorem encE_eta (e : Ex) : [AV.int .i64 e.op, AV.int .i64 e.n, AV.str e.s, AV.sl 1 (encD e.p), AV.sl 8 (encPs e.ps), AV.bool e.o, AV.sl 7 (encEs e.ks)] = encE e := by cases e; rfl
theorem partsP_l (ps : List Pr) (hl : ps.length ≤ 1073741824) : ∀ (d i : Nat) (acc : List Ex), i + d = ps.length → acc.length ≤ i → expr_parts.l0 (.own 7 (encEs acc)) (.sl 8 (encPs ps)) (.int .i64 (ps.length : Int)) (.int .i64 (i : Int)) = some (.own 7 (encEs (acc ++ (ps.drop i).map Pr.e)))
  | 0, i, acc, hi, ha => by rw [expr_parts.l0_eq, decide_eq_false (by omega), ifF, dropNil (by omega), List.map_nil, List.append_nil]
  | d + 1, i, acc, hi, ha => by
    have h1 : i < ps.length := by omega
    have e1 : ps[i]? = some ps[i] := List.getElem?_eq_getElem h1
    have ih := partsP_l ps hl d (i + 1) (acc ++ [ps[i].e]) (by omega) (by simp; omega)
    rw [expr_parts.l0_eq, decide_eq_true (by omega), ifT, idx_at (encPr_at e1)]
    simp only [z1, z2, z3, z4, z5, z6, z7, frz, encE_eta]
    rw [gOK (by rw [encEs_len]; simp; omega), guT, w64_succ (by omega), encEs_snoc, ih, dropCons h1, List.map_cons, List.append_assoc, List.singleton_append]
theorem partsP_is (e : Ex) (hz : szE e ≤ 1073741824) : ∃ r, expr_parts (.agg 7 (encE e)) = some r ∧ ∀ (α : Type) (k : List (List AV) → Option α), asL 7 r k = k (encEs (partsX e)) := by
  rw [expr_parts.f_eq, x0, asI_]
  unfold partsX
  by_cases h : e.op = 10
  · rw [decide_eq_true h, Bool.not_true, ifF, x4, asL8_, if_pos h, encPs_len]
    have hl : e.ps.length ≤ 1073741824 := by
      have := szPs_len e.ps
      cases e with | mk op n s p ps o ks => have : szE (.mk op n s p ps o ks) = 1 + szPs ps + szEs ks := rfl; simp only [Ex.ps] at *; omega
    refine ⟨_, partsP_l e.ps hl e.ps.length 0 [] (by omega) (by simp), fun α k => ?_⟩
    rw [asL7o, List.drop_zero, List.nil_append]
  · rw [decide_eq_false h, Bool.not_false, ifT, x6, asL7_, if_neg h]
    exact ⟨_, rfl, fun α k => rfl⟩
theorem partsR_l (e : Ex) (hl : e.ps.length ≤ 1073741824) : ∀ (d i : Nat) (acc : List Ex), i + d = e.ps.length → acc.length ≤ i → ref13_Parts.l0 (.boxv 7 (encE e) []) (.own 7 (encEs acc)) (.int .i64 (i : Int)) = some (.own 7 (encEs (acc ++ (e.ps.drop i).map Pr.e)))
  | 0, i, acc, hi, ha => by rw [ref13_Parts.l0_eq, x4, asL8_, encPs_len, decide_eq_false (by omega), ifF, dropNil (by omega), List.map_nil, List.append_nil]
  | d + 1, i, acc, hi, ha => by
    have h1 : i < e.ps.length := by omega
    have e1 : e.ps[i]? = some e.ps[i] := List.getElem?_eq_getElem h1
    have ih := partsR_l e hl d (i + 1) (acc ++ [e.ps[i].e]) (by omega) (by simp; omega)
    rw [ref13_Parts.l0_eq, x4, asL8_, encPs_len, decide_eq_true (by omega), ifT, x4, asL8_, idx_at (encPr_at e1)]
    simp only [z1, z2, z3, z4, z5, z6, z7, encE_eta]
    rw [gOK (by rw [encEs_len]; simp; omega), guT, w64_succ (by omega), encEs_snoc, ih, dropCons h1, List.map_cons, List.append_assoc, List.singleton_append]
theorem partsR_is (e : Ex) (hz : szE e ≤ 1073741824) : ∃ r, ref13_Parts (.agg 7 (encE e)) = some r ∧ ∀ (α : Type) (k : List (List AV) → Option α), asL 7 r k = k (encEs (partsX e)) := by
  rw [ref13_Parts.f_eq, x0, asI_]
  unfold partsX
  by_cases h : e.op = 10
  · rw [decide_eq_true h, Bool.not_true, ifF, if_pos h]
    have hl : e.ps.length ≤ 1073741824 := by
      have := szPs_len e.ps
      cases e with | mk op n s p ps o ks => have : szE (.mk op n s p ps o ks) = 1 + szPs ps + szEs ks := rfl; simp only [Ex.ps] at *; omega
    refine ⟨_, partsR_l e hl e.ps.length 0 [] (by omega) (by simp), fun α k => ?_⟩
    rw [asL7o, List.drop_zero, List.nil_append]
  · rw [decide_eq_false h, Bool.not_false, ifT, x6, asL7_, if_neg h]
    exact ⟨_, rfl, fun α k => rfl⟩
theorem parts_sz {e k : Ex} (h : k ∈ partsX e) : szE k < szE e := by
  unfold partsX at h
  split at h
  · obtain ⟨p, hp, rfl⟩ := List.mem_map.1 h
    exact szE_ps hp
  · exact szE_ks h
theorem parts_len (e : Ex) : (partsX e).length < szE e := by
  cases e with
  | mk op n s p ps o ks =>
    have h1 := szPs_len ps
    have h2 := szEs_len ks
    unfold partsX
    rw [szE]
    split
    · rw [List.length_map]; show ps.length < _; omega
    · show ks.length < _; omega
/-- How deep: the greatest of the parts, and one more. -/
def mxD : List Ex → Nat
  | [] => 0
  | e :: r => max (dpE e) (mxD r)
theorem dpEs_mx : ∀ l : List Ex, dpEs l = mxD l
  | [] => rfl
  | e :: r => by rw [dpEs, mxD, dpEs_mx r]
theorem dpPs_mx : ∀ l : List Pr, dpPs l = mxD (l.map Pr.e)
  | [] => rfl
  | .mk n e :: r => by rw [dpPs, List.map_cons, mxD, dpPs_mx r]; rfl
theorem dpE_parts (e : Ex) : dpE e = 1 + mxD (partsX e) := by
  cases e with
  | mk op n s p ps o ks =>
    rw [dpE]
    unfold partsX
    show 1 + (if op = 10 then dpPs ps else dpEs ks) = 1 + mxD (if op = 10 then ps.map Pr.e else ks)
    split
    · rw [dpPs_mx]
    · rw [dpEs_mx]
mutual
theorem dpE_sz : ∀ e : Ex, dpE e ≤ szE e
  | .mk op n s p ps o ks => by
    have h1 := dpPs_sz ps
    have h2 := dpEs_sz ks
    rw [dpE, szE]
    split <;> omega
theorem dpEs_sz : ∀ l : List Ex, dpEs l ≤ szEs l
  | [] => Nat.le_refl _
  | e :: r => by have h1 := dpE_sz e; have h2 := dpEs_sz r; rw [dpEs, szEs]; omega
theorem dpPs_sz : ∀ l : List Pr, dpPs l ≤ szPs l
  | [] => Nat.le_refl _
  | .mk n e :: r => by have h1 := dpE_sz e; have h2 := dpPs_sz r; rw [dpPs, szPs]; omega
end
theorem mxD_sz (e : Ex) : mxD (partsX e) < szE e := by
  have h1 := dpE_sz e
  rw [dpE_parts] at h1
  omega
theorem depP_l (l : List Ex) (hl : l.length ≤ 1073741824) (h : ∀ x ∈ l, expr_Depth (.agg 7 (encE x)) = some (.int .i64 (dpE x : Nat))) : ∀ (d i : Nat) (m : Nat), i + d = l.length → max m (mxD (l.drop i)) ≤ 2147483648 →
    expr_Depth.l0 (.int .i64 (m : Int)) (.sl 7 (encEs l)) (.int .i64 (l.length : Int)) (.int .i64 (i : Int)) = some (.int .i64 ((1 + max m (mxD (l.drop i)) : Nat) : Int))
  | 0, i, m, hi, hm => by
    rw [expr_Depth.l0_eq, decide_eq_false (by omega), ifF, dropNil (by omega), w64_succ (by omega)]
    show some (AV.int .i64 ((m + 1 : Nat) : Int)) = _
    rw [mxD, Nat.max_zero, Nat.add_comm]
  | d + 1, i, m, hi, hm => by
    have h1 : i < l.length := by omega
    have e1 : l[i]? = some l[i] := List.getElem?_eq_getElem h1
    rw [dropCons h1, mxD] at hm
    have ih := depP_l l hl h d (i + 1) (max m (dpE l[i])) (by omega) (by omega)
    rw [expr_Depth.l0_eq, decide_eq_true (by omega), ifT, idx_at (encE_at e1), h _ (List.getElem_mem h1), someB, asI_, w64_succ (by omega), show max (m : Int) ((dpE l[i] : Nat) : Int) = ((max m (dpE l[i]) : Nat) : Int) by omega, ih, dropCons h1, mxD, Nat.max_assoc]
theorem depthP_is (e : Ex) (hz : szE e ≤ 1073741824) : expr_Depth (.agg 7 (encE e)) = some (.int .i64 (dpE e : Nat)) := by
  obtain ⟨r, hr, hk⟩ := partsP_is e hz
  have h1 := parts_len e
  have h2 := mxD_sz e
  rw [expr_Depth.f_eq, hr, someB, hk, encEs_len]
  have := depP_l (partsX e) (by omega) (fun x hx => by have := parts_sz hx; exact depthP_is x (by omega)) (partsX e).length 0 0 (by omega) (by rw [List.drop_zero]; omega)
  rw [List.drop_zero, Nat.zero_max, ← dpE_parts] at this
  exact this
termination_by szE e
theorem depR_l (l : List Ex) (hl : l.length ≤ 1073741824) (h : ∀ x ∈ l, ref13_Depth (.agg 7 (encE x)) = some (.int .i64 (dpE x : Nat))) : ∀ (d i : Nat) (m : Nat), i + d = l.length → max m (mxD (l.drop i)) ≤ 2147483648 →
    ref13_Depth.l0 (.int .i64 (m : Int)) (.sl 7 (encEs l)) (.int .i64 (i : Int)) = some (.int .i64 ((1 + max m (mxD (l.drop i)) : Nat) : Int))
  | 0, i, m, hi, hm => by
    rw [ref13_Depth.l0_eq, encEs_len, decide_eq_false (by omega), ifF, dropNil (by omega), Int.add_comm, w64_succ (by omega)]
    rw [mxD, Nat.max_zero, Nat.add_comm]
  | d + 1, i, m, hi, hm => by
    have h1 : i < l.length := by omega
    have e1 : l[i]? = some l[i] := List.getElem?_eq_getElem h1
    rw [dropCons h1, mxD] at hm
    have ih := fun m' hm' => depR_l l hl h d (i + 1) m' (by omega) hm'
    rw [ref13_Depth.l0_eq, encEs_len, decide_eq_true (by omega), ifT, idx_at (encE_at e1), h _ (List.getElem_mem h1), someB, asI_, w64_succ (by omega), dropCons h1, mxD]
    by_cases hlt : m < dpE l[i]
    · rw [decide_eq_true (by omega), ifT, ih _ (by omega)]
      congr 3; omega
    · rw [decide_eq_false (by omega), ifF, ih _ (by omega)]
      congr 3; omega
theorem depthR_is (e : Ex) (hz : szE e ≤ 1073741824) : ref13_Depth (.agg 7 (encE e)) = some (.int .i64 (dpE e : Nat)) := by
  obtain ⟨r, hr, hk⟩ := partsR_is e hz
  have h1 := parts_len e
  have h2 := mxD_sz e
  rw [ref13_Depth.f_eq, hr, someB, hk]
  have := depR_l (partsX e) (by omega) (fun x hx => by have := parts_sz hx; exact depthR_is x (by omega)) (partsX e).length 0 0 (by omega) (by rw [List.drop_zero]; omega)
  rw [List.drop_zero, Nat.zero_max, ← dpE_parts] at this
  exact this
termination_by szE e
theorem andKB (b c : Bool) : ifB b (some c) (some false) = some (b && c) := by cases b <;> rfl
theorem orKB (b c : Bool) : ifB b (some true) (some c) = some (b || c) := by cases b <;> rfl
theorem asL1_x {α : Type} (l : List (List AV)) (k : List (List AV) → Option α) : asL 1 (.sl 1 l) k = k l := rfl
theorem bare_is (e : Ex) (b2 b3 b4 b5 b6 : Bool) : expr_bare (.agg 7 (encE e)) (.bool b2) (.bool b3) (.bool b4) (.bool b5) (.bool b6) =
    some (.bool (((((b2 || decide (e.n = 0)) && (b3 || decide (e.s = []))) && (b4 || decide (((e.p.length : Int) : Int) = 0))) && (b5 || (decide (((e.ps.length : Int) : Int) = 0) && !e.o))) && (b6 || decide (((e.ks.length : Int) : Int) = 0)))) := by
  rw [expr_bare.f_eq]
  simp only [x1, x2, x3, x4, x5, x6, asI_, asS_, asB_, asL1_x, asL7_, asL8_, encD_len, encPs_len, encEs_len, andKB, orKB, someB]
theorem shapedN (op n : Int) (h : op = 1 ∨ op = 7 ∨ op = 8) (hn : -9007199254740992 ≤ n ∧ n ≤ 9007199254740992) : expr_shaped (.agg 7 (encE (lf op n))) = some (.bool true) := by
  have h0 : expr_shaped.j0 (.boxv 7 (encE (lf op n)) []) = some (.bool true) := by
    rw [expr_shaped.j0_eq, bare_is, someB, asB_, x1, asI_, num_In.f_eq]
    show (ifB true _ _ : Option Bool).bind _ = _
    rw [ifT, show (lf op n).n = n from rfl, andKB, someB, someB, asB_, someB, decide_eq_true hn.1, decide_eq_true hn.2]
    rfl
  rw [expr_shaped.f_eq, x0, asI_, show (lf op n).op = op from rfl, h0]
  rcases h with rfl | rfl | rfl <;> rfl
theorem shapedT (s : Bs) (h : s.length ≤ 256) : expr_shaped (.agg 7 (encE (.mk 2 0 s [] [] false []))) = some (.bool true) := by
  have h1 : expr_shaped.j1 (.boxv 7 (encE (.mk 2 0 s [] [] false [])) []) (.int .i64 2) = some (.bool true) := by
    rw [expr_shaped.j1_eq, show decide ((2 : Int) = 2) = true from rfl, ifT, bare_is, someB, asB_, x2, asS_]
    show (ifB true (some (decide ((s.length : Int) ≤ 256))) _ : Option Bool).bind _ = _
    rw [ifT, someB, decide_eq_true (by omega)]
  rw [expr_shaped.f_eq, x0, asI_]
  exact h1
theorem shapedB (n : Int) (h : n = 0 ∨ n = 1) : expr_shaped (.agg 7 (encE (lf 3 n))) = some (.bool true) := by
  rcases h with rfl | rfl
  · have h1 : expr_shaped.j1 (.boxv 7 (encE (lf 3 0)) []) (.int .i64 3) = some (.bool true) := by
      rw [expr_shaped.j1_eq, show decide ((3 : Int) = 2) = false from rfl, ifF, show decide ((3 : Int) = 3) = true from rfl, ifT, bare_is]; rfl
    rw [expr_shaped.f_eq, x0, asI_]
    exact h1
  · have h1 : expr_shaped.j1 (.boxv 7 (encE (lf 3 1)) []) (.int .i64 3) = some (.bool true) := by
      rw [expr_shaped.j1_eq, show decide ((3 : Int) = 2) = false from rfl, ifF, show decide ((3 : Int) = 3) = true from rfl, ifT, bare_is]; rfl
    rw [expr_shaped.f_eq, x0, asI_]
    exact h1
theorem shapedK (n : Int) (h : n = 1 ∨ n = 2 ∨ n = 3 ∨ n = 5) : expr_shaped (.agg 7 (encE (lf 4 n))) = some (.bool true) := by
  have h1 : expr_shaped.j1 (.boxv 7 (encE (lf 4 n)) []) (.int .i64 4) = some (.bool true) := by
    rw [expr_shaped.j1_eq, show decide ((4 : Int) = 2) = false from rfl, ifF, show decide ((4 : Int) = 3) = false from rfl, ifF, show decide ((4 : Int) = 4) = true from rfl, ifT]
    simp only [x1, asI_, bare_is, someB, asB_]
    rcases h with rfl | rfl | rfl | rfl <;> rfl
  rw [expr_shaped.f_eq, x0, asI_]
  exact h1
theorem shapedZ (op : Int) (h : op = 5 ∨ op = 6) : expr_shaped (.agg 7 (encE (lf op 0))) = some (.bool true) := by
  rcases h with rfl | rfl
  · have h1 : expr_shaped.j1 (.boxv 7 (encE (lf 5 0)) []) (.int .i64 5) = some (.bool true) := by
      rw [expr_shaped.j1_eq]
      simp only [bare_is, someB, asB_]
      rfl
    rw [expr_shaped.f_eq, x0, asI_]
    exact h1
  · have h1 : expr_shaped.j1 (.boxv 7 (encE (lf 6 0)) []) (.int .i64 6) = some (.bool true) := by
      rw [expr_shaped.j1_eq]
      simp only [bare_is, someB, asB_]
      rfl
    rw [expr_shaped.f_eq, x0, asI_]
    exact h1
theorem shapedO (op : Int) (h : op = 11 ∨ op = 12) (ks : List Ex) (h1 : 2 ≤ ks.length) (h2 : ks.length ≤ 32) : expr_shaped (.agg 7 (encE (.mk op 0 [] [] [] false ks))) = some (.bool true) := by
  have hj : expr_shaped.j2 (.boxv 7 (encE (.mk op 0 [] [] [] false ks)) []) = some (.bool true) := by
    rw [expr_shaped.j2_eq, bare_is, someB, asB_]
    simp only [x6, asL7_, encEs_len]
    show ((ifB true (some (decide ((2 : Int) ≤ (ks.length : Int)))) _ : Option Bool).bind fun b4 => (ifB b4 (some (decide ((ks.length : Int) ≤ 32))) (some false)).bind fun b7 => some (AV.bool b7)) = _
    rw [ifT, someB, decide_eq_true (by omega), decide_eq_true (by omega)]
    rfl
  have hj1 : expr_shaped.j1 (.boxv 7 (encE (.mk op 0 [] [] [] false ks)) []) (.int .i64 op) = some (.bool true) := by
    rw [expr_shaped.j1_eq, hj]
    rcases h with rfl | rfl <;> rfl
  rw [expr_shaped.f_eq, x0, asI_]
  rcases h with rfl | rfl
  · exact hj1
  · exact hj1
def nmP (ps : List Pr) : List Lat.Fd := fsD (ps.map Pr.n)
theorem nmP_len (ps : List Pr) : (nmP ps).length = ps.length := by simp [nmP, fsD]
theorem nmP_at {ps : List Pr} {i : Nat} {p : Pr} (h : ps[i]? = some p) : (nmP ps)[i]? = some (.mk p.n []) := by simp [nmP, fsD, h]
theorem rising_l (ps : List Pr) (hl : ps.length ≤ 1073741824) : ∀ (d i : Nat), i + d = ps.length → expr_rising.l0 (.sl 8 (encPs ps)) (.sl 8 (encPs ps)) (.int .i64 (ps.length : Int)) (.int .i64 (i : Int)) = some (.bool (risF Nam.rightV (prevN (nmP ps) i) ((nmP ps).drop i)))
  | 0, i, h => by
    rw [expr_rising.l0_eq, decide_eq_false (by omega), ifF, dropNil (by rw [nmP_len]; omega)]; rfl
  | d + 1, i, h => by
    have h1' : i < ps.length := by omega
    have e1 : ps[i]? = some ps[i] := List.getElem?_eq_getElem h1'
    have hn := nmP_at e1
    have hni : i < (nmP ps).length := by rw [nmP_len]; exact h1'
    have hg : (nmP ps)[i] = .mk ps[i].n [] := (List.getElem?_eq_some_iff.1 hn).2
    have ih := rising_l ps hl d (i + 1) (by omega)
    rw [prevN_succ hn, show (Lat.Fd.mk ps[i].n []).n = ps[i].n from rfl] at ih
    rw [expr_rising.l0_eq, decide_eq_true (by omega), ifT, dropCons hni, hg, risF_cons]
    simp only [idx_at (encPr_at e1), y0, asS_, nameR_is, someB, asB_]
    rw [w64_succ (by omega), ih]
    show _ = some (AV.bool (Nam.rightV ps[i].n && rises (prevN (nmP ps) i) ps[i].n && risF Nam.rightV (some ps[i].n) ((nmP ps).drop (i + 1))))
    by_cases hi0 : i = 0
    · subst hi0
      rw [e00, decide_eq_false (by omega), ifF]
      simp only [orK, someB]
      cases Nam.rightV ps[0].n <;> simp [ifT, ifF, prevN, rises]
    · have e2 : ps[i - 1]? = some ps[i - 1] := List.getElem?_eq_getElem (by omega)
      rw [decide_eq_true (by omega), ifT, w64_pred (by omega) (by omega)]
      simp only [idx_at (encPr_at e2), y0, asS_, someB, orK]
      have : prevN (nmP ps) i = some ps[i - 1].n := by unfold prevN; rw [if_neg hi0, nmP_at e2]; rfl
      rw [this, rises]
      have hb : (bytesLt ps[i].n ps[i - 1].n || decide (ps[i].n = ps[i - 1].n)) = !bytesLt ps[i - 1].n ps[i].n := by
        cases h1 : bytesLt ps[i - 1].n ps[i].n with
        | true =>
          rw [blt_asym _ _ h1, Bool.false_or, Bool.not_true]
          exact decide_eq_false fun e => by rw [e, blt_irr] at h1; cases h1
        | false =>
          cases h2 : bytesLt ps[i].n ps[i - 1].n with
          | true => rfl
          | false => rw [Bool.false_or, Bool.not_false]; exact decide_eq_true (blt_total _ _ h2 h1)
      rw [hb]
      cases Nam.rightV ps[i].n <;> cases bytesLt ps[i - 1].n ps[i].n <;> simp [ifT, ifF]
theorem rising_is (ps : List Pr) (hl : ps.length ≤ 1073741824) : expr_rising (.sl 8 (encPs ps)) = some (.bool (risD (ps.map Pr.n))) := by
  rw [expr_rising.f_eq, encPs_len]
  exact rising_l ps hl ps.length 0 (by omega)
theorem shapedS (ps : List Pr) (o : Bool) (h : ps.length ≤ 32) (hr : risD (ps.map Pr.n) = true) : expr_shaped (.agg 7 (encE (.mk 10 0 [] [] ps o []))) = some (.bool true) := by
  have h1 : expr_shaped.j1 (.boxv 7 (encE (.mk 10 0 [] [] ps o [])) []) (.int .i64 10) = some (.bool true) := by
    rw [expr_shaped.j1_eq]
    simp only [bare_is, someB, asB_, x4, asL8_, encPs_len]
    rw [show (Ex.mk 10 0 [] [] ps o []).ps = ps from rfl, rising_is ps (by omega), hr]
    show ((ifB true (some (decide ((ps.length : Int) ≤ 32))) (some false) : Option Bool).bind fun b43 => (ifB b43 (some true) (some false)).bind fun b46 => some (AV.bool b46)) = _
    rw [ifT, someB, decide_eq_true (by omega)]
    rfl
  rw [expr_shaped.f_eq, x0, asI_]
  exact h1
/-- Right expressions, of those that a value's are. -/
inductive GX : Ex → Prop where
  | nu (op n : Int) (h : op = 1 ∨ op = 7 ∨ op = 8) (hn : -9007199254740992 ≤ n ∧ n ≤ 9007199254740992) : GX (lf op n)
  | tx (s : Bs) (h : s.length ≤ 256) : GX (.mk 2 0 s [] [] false [])
  | bo (n : Int) (h : n = 0 ∨ n = 1) : GX (lf 3 n)
  | ki (n : Int) (h : n = 1 ∨ n = 2 ∨ n = 3 ∨ n = 5) : GX (lf 4 n)
  | ze (op : Int) (h : op = 5 ∨ op = 6) : GX (lf op 0)
  | st (ps : List Pr) (o : Bool) (h : ps.length ≤ 32) (hr : risD (ps.map Pr.n) = true) (hp : ∀ p ∈ ps, GX p.e) : GX (.mk 10 0 [] [] ps o [])
  | ks (op : Int) (h : op = 11 ∨ op = 12) (ks : List Ex) (h1 : 2 ≤ ks.length) (h2 : ks.length ≤ 32) (hk : ∀ k ∈ ks, GX k) : GX (.mk op 0 [] [] [] false ks)
theorem GX.shaped {e : Ex} (h : GX e) : expr_shaped (.agg 7 (encE e)) = some (.bool true) := by
  cases h with
  | nu op n h hn => exact shapedN op n h hn
  | tx s h => exact shapedT s h
  | bo n h => exact shapedB n h
  | ki n h => exact shapedK n h
  | ze op h => exact shapedZ op h
  | st ps o h hr hp => exact shapedS ps o h hr
  | ks op h ks h1 h2 hk => exact shapedO op h ks h1 h2
theorem GX.parts {e : Ex} (h : GX e) : ∀ x ∈ partsX e, GX x := fun x hx => by
  cases h with
  | nu op n h hn =>
    have : partsX (lf op n) = [] := by unfold partsX; split <;> rfl
    rw [this] at hx; cases hx
  | tx s h => cases hx
  | bo n h => cases hx
  | ki n h => cases hx
  | ze op h =>
    have : partsX (lf op 0) = [] := by unfold partsX; split <;> rfl
    rw [this] at hx; cases hx
  | st ps o h hr hp =>
    obtain ⟨p, hp', rfl⟩ := List.mem_map.1 (show x ∈ ps.map Pr.e from hx)
    exact hp p hp'
  | ks op h ks h1 h2 hk =>
    have : partsX (.mk op 0 [] [] [] false ks) = ks := by
      unfold partsX
      rw [if_neg (by show ¬ op = 10; omega)]; rfl
    rw [this] at hx
    exact hk x hx
theorem anyX_l (l : List Ex) (hl : l.length ≤ 1073741824) (h : ∀ x ∈ l, expr_Right (.agg 7 (encE x)) = some (.bool true)) : ∀ (d i : Nat), i + d = l.length → slices_IndexFunc__Expr.l0 (.sl 7 (encEs l)) (.fn 233 []) (.int .i64 (l.length : Int)) (.int .i64 (i : Int)) = some (.int .i64 (-1))
  | 0, i, hi => by rw [slices_IndexFunc__Expr.l0_eq, decide_eq_false (by omega), ifF]
  | d + 1, i, hi => by
    have h1 : i < l.length := by omega
    have e1 : l[i]? = some l[i] := List.getElem?_eq_getElem h1
    have hc : ωκ S 233 ([AV.agg 7 (encE l[i])] ++ []) = some (.bool false) := by
      have : expr_Right_1 (.agg 7 (encE l[i])) = some (.bool false) := by rw [expr_Right_1.f_eq, h _ (List.getElem_mem h1)]; rfl
      exact this
    rw [slices_IndexFunc__Expr.l0_eq, decide_eq_true (by omega), ifT, idx_at (encE_at e1), hc, someB, asB_, ifF, w64_succ (by omega)]
    exact anyX_l l hl h d (i + 1) (by omega)
theorem rightX_is (e : Ex) (hz : szE e ≤ 1073741824) (hg : GX e) : expr_Right (.agg 7 (encE e)) = some (.bool true) := by
  obtain ⟨r, hr, hk⟩ := partsP_is e hz
  have h1 := parts_len e
  rw [expr_Right.f_eq, hg.shaped, someB, asB_, ifT, hr, someB, hk, slices_ContainsFunc__Expr.f_eq, slices_IndexFunc__Expr.f_eq, encEs_len]
  have := anyX_l (partsX e) (by omega) (fun x hx => by have := parts_sz hx; exact rightX_is x (by omega) (hg.parts x hx)) (partsX e).length 0 (by omega)
  rw [e00] at this
  rw [this]
  rfl
termination_by szE e
/-- The check: depth alone. -/
theorem checkX_is (e : Ex) (hz : szE e ≤ 1073741824) (hg : GX e) : expr_Check (.agg 7 (encE e)) = some (.int .i64 (if 16 < dpE e then 22 else 0)) := by
  rw [expr_Check.f_eq, rightX_is e hz hg, someB, asB_, Bool.not_true, ifF, depthP_is e hz, someB, asI_]
  by_cases h : 16 < dpE e
  · rw [decide_eq_true (by omega), ifT, if_pos h]
  · rw [decide_eq_false (by omega), ifF, if_neg h]
end Go.Proofs.YtmdimhcjogjcgaaGreatDoor.Xp
