/- Expressions that are right, for the document. -/
import Derived.Test.YtmdimhcjogjcgaaGreatDoorXC
set_option linter.unusedVariables false
set_option linter.unusedSimpArgs false
set_option linter.unusedSectionVars false
set_option linter.deprecated false
set_option linter.unnecessarySimpa false
namespace Go.Proofs.YtmdimhcjogjcgaaGreatDoor.Xp
open Go.Proofs.YtmdimhcjogjcgaaGreatDoor.Abs Go.Proofs.YtmdimhcjogjcgaaGreatDoor.Lat
theorem encD_snoc (a : List Bs) (s : Bs) : encD a ++ [[AV.str s]] = encD (a ++ [s]) := by simp [encD]
theorem kids_l (l : List Ex) (a b : Int) (hl : l.length ≤ 1073741824) (h : ∀ x ∈ l, ref13_Right (.agg 7 (encE x)) = some (.bool true)) : ∀ (d i : Nat), i + d = l.length → ref13_kids.l0 (.sl 7 (encEs l)) (.int .i64 a) (.int .i64 b) (.int .i64 (i : Int)) = some (.bool (decide (a ≤ (l.length : Int)) && decide ((l.length : Int) ≤ b)))
  | 0, i, hi => by
    rw [ref13_kids.l0_eq, encEs_len, decide_eq_false (by omega), ifF, andKB, someB]
  | d + 1, i, hi => by
    have h1 : i < l.length := by omega
    have e1 : l[i]? = some l[i] := List.getElem?_eq_getElem h1
    rw [ref13_kids.l0_eq, encEs_len, decide_eq_true (by omega), ifT, idx_at (encE_at e1), h _ (List.getElem_mem h1), someB, asB_, Bool.not_true, ifF, w64_succ (by omega)]
    exact kids_l l a b hl h d (i + 1) (by omega)
theorem pairs13_l (ps : List Pr) (hl : ps.length ≤ 1073741824) (h : ∀ p ∈ ps, ref13_Right (.agg 7 (encE p.e)) = some (.bool true)) : ∀ (d i : Nat), i + d = ps.length → ref13_pairs.l0 (.sl 8 (encPs ps)) (.own 1 (encD ((ps.take i).map Pr.n))) (.int .i64 (i : Int)) = some (.bool (decide ((ps.length : Int) ≤ 32) && risD (ps.map Pr.n)))
  | 0, i, hi => by
    rw [ref13_pairs.l0_eq, encPs_len, decide_eq_false (by omega), ifF, List.take_of_length_le (by omega), risR_is _ (by rw [List.length_map]; omega)]
    simp only [someB, asB_, andKB]
  | d + 1, i, hi => by
    have h1 : i < ps.length := by omega
    have e1 : ps[i]? = some ps[i] := List.getElem?_eq_getElem h1
    have ih := pairs13_l ps hl h d (i + 1) (by omega)
    rw [List.take_add_one, e1, Option.toList_some, List.map_append, List.map_cons, List.map_nil] at ih
    rw [ref13_pairs.l0_eq, encPs_len, decide_eq_true (by omega), ifT, idx_at (encPr_at e1), y0, asS_, gOK (by rw [encD_len, List.length_map, List.length_take]; simp; omega), guT, idx_at (encPr_at e1)]
    simp only [z1, z2, z3, z4, z5, z6, z7, encE_eta]
    rw [h _ (List.getElem_mem h1), someB, asB_, Bool.not_true, ifF, w64_succ (by omega), encD_snoc]
    exact ih
theorem right13_is (e : Ex) (hz : szE e ≤ 1073741824) (hg : GX e) : ref13_Right (.agg 7 (encE e)) = some (.bool true) := by
  have hpl := parts_len e
  have hI : ∀ x ∈ partsX e, ref13_Right (.agg 7 (encE x)) = some (.bool true) := fun x hx => by
    have := parts_sz hx
    exact right13_is x (by omega) (hg.parts x hx)
  rw [ref13_Right.f_eq]
  simp only [ref13_s1, ref13_s0]
  cases hg with
  | nu op n h hn =>
    have hE : ref13_empty (.agg 7 (encE (lf op n))) (.int .i64 1) = some (.bool true) := by rw [ref13_empty.f_eq]; rfl
    have hN : ref01_In (.int .i64 (lf op n).n) = some (.bool true) := by
      show ref01_In (.int .i64 n) = _
      rw [ref01_In.f_eq, decide_eq_true hn.1, decide_eq_true hn.2]; rfl
    simp only [x0, x1, asI_, hE, hN, someB, asB_]
    rcases h with rfl | rfl | rfl <;> rfl
  | tx s h =>
    have hE : ref13_empty (.agg 7 (encE (.mk 2 0 s [] [] false []))) (.int .i64 2) = some (.bool true) := by rw [ref13_empty.f_eq]; rfl
    simp only [x0, x2, asI_, asS_, hE, someB, asB_]
    show ((ifB true (some (decide ((s.length : Int) ≤ 256))) (some false) : Option Bool).bind fun b13 => some (AV.bool b13)) = _
    rw [ifT, someB, decide_eq_true (by omega)]
  | bo n h =>
    have hE : ref13_empty (.agg 7 (encE (lf 3 n))) (.int .i64 1) = some (.bool true) := by rw [ref13_empty.f_eq]; rfl
    simp only [x0, x1, asI_, hE, someB, asB_]
    rcases h with rfl | rfl <;> rfl
  | ki n h =>
    have hE : ref13_empty (.agg 7 (encE (lf 4 n))) (.int .i64 1) = some (.bool true) := by rw [ref13_empty.f_eq]; rfl
    simp only [x0, x1, asI_, hE, someB, asB_]
    rcases h with rfl | rfl | rfl | rfl <;> rfl
  | ze op h =>
    have hE : ref13_empty (.agg 7 (encE (lf op 0))) (.int .i64 0) = some (.bool true) := by rw [ref13_empty.f_eq]; rfl
    simp only [x0, asI_, hE, someB, asB_]
    rcases h with rfl | rfl <;> rfl
  | st ps o h hr hp =>
    have hE : ref13_empty (.agg 7 (encE (.mk 10 0 [] [] ps o []))) (.int .i64 8) = some (.bool true) := by rw [ref13_empty.f_eq]; rfl
    have hP : ref13_pairs (.sl 8 (encPs (Ex.mk 10 0 [] [] ps o []).ps)) = some (.bool true) := by
      rw [ref13_pairs.f_eq]
      refine (pairs13_l ps (by omega) (fun p hp' => hI p.e (List.mem_map.2 ⟨p, hp', rfl⟩)) ps.length 0 (by omega)).trans ?_
      rw [decide_eq_true (by omega), hr]; rfl
    simp only [x0, x4, asI_, asL8_, hE, hP, someB, asB_]
    rfl
  | ks op h ks h1 h2 hk =>
    have hE : ref13_empty (.agg 7 (encE (.mk op 0 [] [] [] false ks))) (.int .i64 16) = some (.bool true) := by rw [ref13_empty.f_eq]; rfl
    have hparts : partsX (.mk op 0 [] [] [] false ks) = ks := by
      unfold partsX
      rw [if_neg (by show ¬ op = 10; omega)]; rfl
    rw [hparts] at hI
    have hK : ref13_kids (.sl 7 (encEs (Ex.mk op 0 [] [] [] false ks).ks)) (.int .i64 2) (.int .i64 32) = some (.bool true) := by
      rw [ref13_kids.f_eq]
      refine (kids_l ks 2 32 (by omega) hI ks.length 0 (by omega)).trans ?_
      rw [decide_eq_true (by omega), decide_eq_true (by omega)]; rfl
    simp only [x0, x6, asI_, asL7_, hE, hK, someB, asB_]
    rcases h with rfl | rfl <;> rfl
termination_by szE e
theorem check13_is (e : Ex) (hz : szE e ≤ 1073741824) (hg : GX e) : ref13_Check (.agg 7 (encE e)) = some (.int .i64 (if 16 < dpE e then 22 else 0)) := by
  rw [ref13_Check.f_eq, right13_is e hz hg, someB, asB_, Bool.not_true, ifF, depthR_is e hz, someB, asI_]
  by_cases h : 16 < dpE e
  · rw [decide_eq_true (by omega), ifT, if_pos h]
  · rw [decide_eq_false (by omega), ifF, if_neg h]
theorem scal_facts (t : Tm) (h : scal t = true) : t.fs = [] ∧ ((t.k = 3 ∧ (t.a = false → t.s.length ≤ 256)) ∨ (t.k = 1 ∧ 0 ≤ t.lo ∧ t.lo ≤ t.hi ∧ t.hi ≤ 1) ∨ (t.k = 2 ∧ -9007199254740992 ≤ t.lo ∧ t.lo ≤ t.hi ∧ t.hi ≤ 9007199254740992)) := by
  cases t with
  | mk k lo hi s a m o fs =>
    rw [scal] at h
    by_cases hn : (o || !fs.isEmpty || (m && single (.mk k lo hi s a m o fs))) = true
    · rw [if_pos hn] at h; cases h
    · rw [if_neg hn] at h
      simp only [Bool.or_eq_true, not_or] at hn
      have hfs : fs = [] := by
        cases fs with
        | nil => rfl
        | cons f r => exact absurd rfl hn.1.2
      refine ⟨hfs, ?_⟩
      show (k = 3 ∧ (a = false → s.length ≤ 256)) ∨ (k = 1 ∧ 0 ≤ lo ∧ lo ≤ hi ∧ hi ≤ 1) ∨ (k = 2 ∧ -9007199254740992 ≤ lo ∧ lo ≤ hi ∧ hi ≤ 9007199254740992)
      split at h
      · rename_i h3
        refine .inl ⟨h3, fun ha => ?_⟩
        subst ha
        simp only [Bool.and_eq_true] at h
        simpa using h.2
      · split at h
        · rename_i h1
          simp only [Bool.and_eq_true, decide_eq_true_eq] at h
          exact .inr (.inl ⟨h1, h.1.1, h.1.2.1, h.1.2.2.1⟩)
        · split at h
          · rename_i h2
            simp only [Bool.and_eq_true, decide_eq_true_eq] at h
            exact .inr (.inr ⟨h2, h.1.1, h.1.2.1, h.1.2.2.1⟩)
          · cases h
theorem plX_gx (t : Tm) (h : scal t = true) : ∀ x ∈ plX t.k t.lo t.hi t.s t.a, GX x := by
  obtain ⟨_, ⟨hk, h3⟩ | ⟨hk, h1⟩ | ⟨hk, h2⟩⟩ := scal_facts t h
  · rw [hk]
    cases ha : t.a with
    | true =>
      intro x hx
      obtain rfl : x = lf 4 3 := by simpa [plX] using hx
      exact .ki 3 (by omega)
    | false =>
      intro x hx
      obtain rfl : x = .mk 2 0 t.s [] [] false [] := by simpa [plX] using hx
      exact .tx _ (h3 ha)
  · rw [hk]
    intro x hx
    by_cases he : t.lo = t.hi
    · obtain rfl : x = lf 3 t.lo := by simpa [plX, he] using hx
      exact .bo _ (by omega)
    · obtain rfl : x = lf 4 1 := by simpa [plX, he] using hx
      exact .ki 1 (by omega)
  · rw [hk]
    intro x hx
    unfold plX MI at hx
    rw [if_neg (by decide), if_neg (by decide)] at hx
    split at hx
    · obtain rfl : x = lf 1 t.lo := by simpa using hx
      exact .nu 1 _ (by omega) (by omega)
    · split at hx
      · split at hx
        · obtain rfl : x = lf 4 2 := by simpa using hx
          exact .ki 2 (by omega)
        · obtain rfl : x = lf 8 t.hi := by simpa using hx
          exact .nu 8 _ (by omega) (by omega)
      · split at hx
        · obtain rfl : x = lf 7 t.lo := by simpa using hx
          exact .nu 7 _ (by omega) (by omega)
        · rcases List.mem_cons.1 hx with rfl | hx
          · exact .nu 7 _ (by omega) (by omega)
          · obtain rfl : x = lf 8 t.hi := by simpa using hx
            exact .nu 8 _ (by omega) (by omega)
theorem oneX_gx (l : List Ex) (h1 : 1 ≤ l.length) (h2 : l.length ≤ 32) (h : ∀ x ∈ l, GX x) : GX (oneX l) := by
  match l, h1 with
  | [x], _ => exact h x (List.mem_cons_self ..)
  | x :: y :: r, _ => exact .ks 11 (by omega) _ (by simp) h2 h
theorem risF_nm : ∀ (p : Option Bs) (fs : List Lat.Fd), risF Rn p fs = risF Rn p (fsD (fs.map Lat.Fd.n))
  | p, [] => rfl
  | p, .mk n v :: r => by
    show (Rn n && rises p n && risF Rn (some n) r) = (Rn n && rises p n && risF Rn (some n) (fsD (r.map Lat.Fd.n)))
    rw [risF_nm (some n) r]
theorem pairsX_at : ∀ {fs : List Lat.Fd} {ps : List Pr}, pairsX fs = some ps → ps.map Pr.n = fs.map Lat.Fd.n ∧ ∀ p ∈ ps, ∃ f ∈ fs, valX f.v = some p.e
  | [], ps, h => by cases h; exact ⟨rfl, fun p hp => by cases hp⟩
  | .mk n v :: r, ps, h => by
    rw [pairsX] at h
    obtain ⟨x, hx, h⟩ := Option.bind_eq_some_iff.1 h
    obtain ⟨q, hq, rfl⟩ := Option.map_eq_some_iff.1 h
    obtain ⟨h1, h2⟩ := pairsX_at hq
    refine ⟨by rw [List.map_cons, h1]; rfl, fun p hp => ?_⟩
    rcases List.mem_cons.1 hp with rfl | hp
    · exact ⟨.mk n v, List.mem_cons_self .., hx⟩
    · obtain ⟨f, hf, e⟩ := h2 p hp
      exact ⟨f, List.mem_cons_of_mem _ hf, e⟩
theorem termX_gx (t : Tm) (ht : okT Rn t = true) (h : ∀ f ∈ t.fs, ∀ x, valX f.v = some x → GX x) (x : Ex) (hx : termX t = some x) : GX x := by
  have hT : termX t = if t.k = 5 then some (lf 4 5) else if t.k = 4 then (pairsX t.fs).map fun ps => .mk 10 0 [] [] ps t.o [] else some (oneX (if t.m = true then lf 6 0 :: plX t.k t.lo t.hi t.s t.a else plX t.k t.lo t.hi t.s t.a)) := by
    cases t; rw [termX]; rfl
  rw [hT] at hx
  rw [okT_eq] at ht
  by_cases h5 : t.k = 5
  · rw [if_pos h5] at hx
    cases hx
    exact .ki 5 (by omega)
  · rw [if_neg h5] at hx ht
    by_cases h4 : t.k = 4
    · rw [if_pos h4] at hx ht
      obtain ⟨ps, hps, rfl⟩ := Option.map_eq_some_iff.1 hx
      obtain ⟨hn, hm⟩ := pairsX_at hps
      rw [Bool.and_eq_true] at ht
      have hb := ht.1
      have hb : decide (t.fs.length ≤ 32) = true ∧ risF Rn none t.fs = true := by
        cases t with
        | mk k lo hi s a m o fs =>
          simp only [bareT, Bool.and_eq_true] at hb
          exact ⟨hb.1.2, hb.2⟩
      have hlen : ps.length = t.fs.length := by have := congrArg List.length hn; simpa using this
      refine .st ps t.o (by rw [hlen]; simpa using hb.1) ?_ fun p hp => ?_
      · rw [hn]
        show risF Rn none (fsD (t.fs.map Lat.Fd.n)) = true
        rw [← risF_nm]; exact hb.2
      · obtain ⟨f, hf, e⟩ := hm p hp
        exact h f hf _ e
    · rw [if_neg h4] at hx ht
      cases hx
      have hp := plX_pos t.k t.lo t.hi t.s t.a
      have hg := plX_gx t ht
      cases t.m with
      | true =>
        rw [if_pos rfl]
        exact oneX_gx _ (by simp) (by simp; omega) fun y hy => by
          rcases List.mem_cons.1 hy with rfl | hy
          · exact .ze 6 (by omega)
          · exact hg y hy
      | false =>
        rw [if_neg (by simp)]
        exact oneX_gx _ hp.1 (by omega) hg
theorem termsX_at : ∀ {v : List Tm} {l : List Ex}, termsX v = some l → l.length = v.length ∧ ∀ x ∈ l, ∃ t ∈ v, termX t = some x
  | [], l, h => by cases h; exact ⟨rfl, fun p hp => by cases hp⟩
  | t :: r, l, h => by
    rw [termsX] at h
    obtain ⟨x, hx, h⟩ := Option.bind_eq_some_iff.1 h
    obtain ⟨q, hq, rfl⟩ := Option.map_eq_some_iff.1 h
    obtain ⟨h1, h2⟩ := termsX_at hq
    refine ⟨by simp [h1], fun p hp => ?_⟩
    rcases List.mem_cons.1 hp with rfl | hp
    · exact ⟨t, List.mem_cons_self .., hx⟩
    · obtain ⟨f, hf, e⟩ := h2 p hp
      exact ⟨f, List.mem_cons_of_mem _ hf, e⟩
theorem valX_gx (v : List Tm) (hok : okL Rn v = true) (x : Ex) (hx : valX v = some x) : GX x := by
  have hT : ∀ t ∈ v, ∀ y, termX t = some y → GX y := fun t ht y hy => by
    have hot := okL_mem v hok t ht
    refine termX_gx t hot (fun f hf z hz => ?_) y hy
    have h4 : t.k = 4 := by
      rw [okT_eq] at hot
      by_cases h5 : t.k = 5
      · exfalso
        rw [if_pos h5] at hot
        cases t with
        | mk k lo hi s a m o fs =>
          simp only [anyT, Bool.and_eq_true, List.isEmpty_iff] at hot
          have : fs = [] := hot.2
          subst this
          cases hf
      · rw [if_neg h5] at hot
        by_cases h4 : t.k = 4
        · exact h4
        · rw [if_neg h4] at hot
          rw [(scal_facts t hot).1] at hf; cases hf
    rw [okT_eq, if_neg (by omega), if_pos h4, Bool.and_eq_true] at hot
    have hv := okF_mem _ hot.2 f hf
    have hd := szV_dp ht hf
    exact valX_gx f.v (okV_L hv) z hz
  match v, hT, hx with
  | [], _, hx => cases hx; exact .ze 5 (by omega)
  | [t], hT, hx => exact hT t (List.mem_cons_self ..) x hx
  | t :: u :: r, hT, hx =>
    by_cases h32 : (t :: u :: r).length ≤ 32
    · rw [valX_many (by simp) h32] at hx
      obtain ⟨l, hl, rfl⟩ := Option.map_eq_some_iff.1 hx
      obtain ⟨h1, h2⟩ := termsX_at hl
      refine .ks 12 (by omega) l (by rw [h1]; simp) (by rw [h1]; exact h32) fun k hk => ?_
      obtain ⟨t', ht', e⟩ := h2 k hk
      exact hT t' ht' k e
    · rw [valX_long (by omega)] at hx; cases hx
termination_by szV v
decreasing_by have := szV_dp ht hf; omega
theorem kok_of (v : List Tm) (hok : okL Rn v = true) : KOK v := by
  refine .mk v (fun t ht => ?_) fun t ht f hf => ?_
  · have hot := okL_mem v hok t ht
    rw [okT_eq] at hot
    by_cases h5 : t.k = 5
    · omega
    · by_cases h4 : t.k = 4
      · omega
      · rw [if_neg h5, if_neg h4] at hot
        have := (scal_facts t hot).2
        omega
  · have hot := okL_mem v hok t ht
    have h4 : t.k = 4 := by
      rw [okT_eq] at hot
      by_cases h5 : t.k = 5
      · exfalso
        rw [if_pos h5] at hot
        cases t with
        | mk k lo hi s a m o fs =>
          simp only [anyT, Bool.and_eq_true, List.isEmpty_iff] at hot
          have : fs = [] := hot.2
          subst this
          cases hf
      · rw [if_neg h5] at hot
        by_cases h4 : t.k = 4
        · exact h4
        · rw [if_neg h4] at hot
          rw [(scal_facts t hot).1] at hf; cases hf
    rw [okT_eq, if_neg (by omega), if_pos h4, Bool.and_eq_true] at hot
    have hv := okF_mem _ hot.2 f hf
    have hd := szV_dp ht hf
    exact kok_of f.v (okV_L hv)
termination_by szV v
decreasing_by have := szV_dp ht hf; omega
theorem szPs_le : ∀ {fs : List Lat.Fd} {ps : List Pr}, pairsX fs = some ps → (∀ f ∈ fs, ∀ x, valX f.v = some x → szE x ≤ 4 * szV f.v + 1) → szPs ps ≤ 4 * szF fs
  | [], ps, h, _ => by cases h; exact Nat.le_refl _
  | .mk n v :: r, ps, h, hf => by
    rw [pairsX] at h
    obtain ⟨x, hx, h⟩ := Option.bind_eq_some_iff.1 h
    obtain ⟨q, hq, rfl⟩ := Option.map_eq_some_iff.1 h
    have h1 := szPs_le hq fun f hm => hf f (List.mem_cons_of_mem _ hm)
    have h2 : szE x ≤ 4 * szV v + 1 := hf (.mk n v) (List.mem_cons_self ..) x hx
    rw [szPs, szF]
    omega
theorem szOne (l : List Ex) (h : ∀ x ∈ l, szE x = 1) (hl : 1 ≤ l.length) (h3 : l.length ≤ 3) : szE (oneX l) ≤ 4 := by
  match l, hl with
  | [x], _ => rw [show oneX [x] = x from rfl, h x (List.mem_cons_self ..)]; omega
  | x :: y :: r, _ =>
    have hs : ∀ l : List Ex, (∀ x ∈ l, szE x = 1) → szEs l = l.length := fun l => by
      induction l with
      | nil => intro _; rfl
      | cons a r ih => intro h; rw [szEs, h a (List.mem_cons_self ..), ih fun x hx => h x (List.mem_cons_of_mem _ hx), List.length_cons]; omega
    show szE (.mk 11 0 [] [] [] false (x :: y :: r)) ≤ 4
    rw [szE, hs _ h]
    show 1 + 0 + (x :: y :: r).length ≤ 4
    omega
theorem plX_one (k lo hi : Int) (s : Bs) (a : Bool) : ∀ x ∈ plX k lo hi s a, szE x = 1 := by
  have h1 : ∀ op n, szE (lf op n) = 1 := fun op n => rfl
  have h2 : ∀ s, szE (.mk 2 0 s [] [] false []) = 1 := fun s => rfl
  intro x hx
  unfold plX at hx
  repeat' split at hx
  all_goals (simp only [List.mem_cons, List.not_mem_nil, or_false] at hx; first | (subst hx; rfl) | (rcases hx with rfl | rfl <;> rfl))
theorem szX_term (t : Tm) (h : ∀ f ∈ t.fs, ∀ x, valX f.v = some x → szE x ≤ 4 * szV f.v + 1) (x : Ex) (hx : termX t = some x) : szE x ≤ 4 * szT t := by
  have hT : termX t = if t.k = 5 then some (lf 4 5) else if t.k = 4 then (pairsX t.fs).map fun ps => .mk 10 0 [] [] ps t.o [] else some (oneX (if t.m = true then lf 6 0 :: plX t.k t.lo t.hi t.s t.a else plX t.k t.lo t.hi t.s t.a)) := by
    cases t; rw [termX]; rfl
  rw [hT] at hx
  rw [szT_fs]
  split at hx
  · cases hx
    show (1 : Nat) ≤ _
    omega
  · split at hx
    · obtain ⟨ps, hps, rfl⟩ := Option.map_eq_some_iff.1 hx
      have := szPs_le hps h
      rw [szE]
      show 1 + szPs ps + 0 ≤ _
      omega
    · cases hx
      have hp := plX_pos t.k t.lo t.hi t.s t.a
      have h1 := plX_one t.k t.lo t.hi t.s t.a
      cases t.m with
      | true =>
        rw [if_pos rfl]
        have := szOne (lf 6 0 :: plX t.k t.lo t.hi t.s t.a) (fun y hy => by
          rcases List.mem_cons.1 hy with rfl | hy
          · rfl
          · exact h1 y hy) (by simp) (by simp; omega)
        omega
      | false =>
        rw [if_neg (by simp)]
        have := szOne (plX t.k t.lo t.hi t.s t.a) h1 hp.1 (by omega)
        omega
theorem szEs_le : ∀ {v : List Tm} {l : List Ex}, termsX v = some l → (∀ t ∈ v, ∀ x, termX t = some x → szE x ≤ 4 * szT t) → szEs l ≤ 4 * szV v
  | [], l, h, _ => by cases h; exact Nat.le_refl _
  | t :: r, l, h, hf => by
    rw [termsX] at h
    obtain ⟨x, hx, h⟩ := Option.bind_eq_some_iff.1 h
    obtain ⟨q, hq, rfl⟩ := Option.map_eq_some_iff.1 h
    have h1 := szEs_le hq fun f hm => hf f (List.mem_cons_of_mem _ hm)
    have h2 := hf t (List.mem_cons_self ..) x hx
    rw [szEs, szV]
    omega
theorem szX_is (v : List Tm) (x : Ex) (hx : valX v = some x) : szE x ≤ 4 * szV v + 1 := by
  have hT : ∀ t ∈ v, ∀ y, termX t = some y → szE y ≤ 4 * szT t := fun t ht y hy => szX_term t (fun f hf z hz => by
    have hd := szV_dp ht hf
    exact szX_is f.v z hz) y hy
  match v, hT, hx with
  | [], _, hx => cases hx; exact Nat.le_refl _
  | [t], hT, hx =>
    have := hT t (List.mem_cons_self ..) x hx
    rw [szV, szV]
    omega
  | t :: u :: r, hT, hx =>
    by_cases h32 : (t :: u :: r).length ≤ 32
    · rw [valX_many (by simp) h32] at hx
      obtain ⟨l, hl, rfl⟩ := Option.map_eq_some_iff.1 hx
      have := szEs_le hl hT
      rw [szE]
      show 1 + 0 + szEs l ≤ _
      omega
    · rw [valX_long (by omega)] at hx; cases hx
termination_by szV v
decreasing_by have := szV_dp ht hf; omega
/-- What lines.Expr comes to: the expression, or which error. -/
def exX (v : List Tm) : Ex × Int := if okV Rn v = true then (match valX v with
  | some x => if 16 < dpE x then (lf 0 0, 22) else (x, 0)
  | none => (lf 0 0, 4)) else (lf 0 0, 1)
theorem linesExpr_is (v : List Tm) (hz : szV v ≤ 200000000) : lines_Expr (.agg 1 [.sl 8 (encV v)]) = some (.tup [.agg 7 (encE (exX v).1), .int .i64 (exX v).2]) := by
  have hR : lat_Right (.agg 1 [.sl 8 (encV v)]) = some (.bool (okV Rn v)) := rightP_is v (by omega)
  rw [lines_Expr.f_eq, hR, someB, asB_]
  unfold exX
  cases hok : okV Rn v with
  | false => rfl
  | true =>
    have hL := okV_L hok
    rw [Bool.not_true, ifF, if_pos rfl, value_is v (by omega) (kok_of v hL), someB]
    cases hx : valX v with
    | none => rfl
    | some x =>
      have hg := valX_gx v hL x hx
      have hs := szX_is v x hx
      rw [resS, asT2x, asC7_, asI_, show (!decide ((0 : Int) = 0)) = false from rfl, ifF, checkX_is x (by omega) hg, someB, asI_]
      show _ = some (AV.tup [AV.agg 7 (encE (if 16 < dpE x then (lf 0 0, (22 : Int)) else (x, 0)).1), AV.int .i64 (if 16 < dpE x then (lf 0 0, (22 : Int)) else (x, 0)).2])
      by_cases h : 16 < dpE x
      · rw [if_pos h, if_pos h]; rfl
      · rw [if_neg h, if_neg h]; rfl
end Go.Proofs.YtmdimhcjogjcgaaGreatDoor.Xp
