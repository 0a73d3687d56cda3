/- Settled values; depth; values of one term. -/
import Derived.Test.YtmdimhcjogjcgaaGreatDoorLC
set_option linter.unusedVariables false
set_option linter.unusedSimpArgs false
set_option linter.unusedSectionVars false
set_option linter.deprecated false
set_option linter.unnecessarySimpa false
namespace Go.Proofs.YtmdimhcjogjcgaaGreatDoor.Lat
open Go.Proofs.YtmdimhcjogjcgaaGreatDoor.Abs
theorem factsS_of (v : List Tm) (hl : szV v ≤ 1073741824) (hok : okL Rn v = true) (h : ∀ t ∈ v, ∀ f ∈ t.fs, okV Rn f.v = true → fact_all (.agg 1 [.sl 8 (encV f.v)]) (.fn 155 []) = some (.bool (seL false f.v))) :
    fact_all (.agg 1 [.sl 8 (encV v)]) (.fn 155 []) = some (.bool (seL false v)) := by
  rw [fact_all.f_eq, fact_one.f_eq]
  simp only [v0, asL8, encV_len]
  match v with
  | [] => rfl
  | t :: u :: r =>
    rw [decide_eq_false (by simp <;> omega), ifF, decide_eq_true (by simp <;> omega)]; rfl
  | [t] =>
    have hs := mem_szT (v := [t]) (List.mem_cons_self ..)
    rw [szT_fs] at hs
    have hlen := szF_len t.fs
    have hT := okL_mem _ hok t (List.mem_cons_self ..)
    have e1 : decide ((([t] : List Tm).length : Int) = 0) = false := by simp
    have e2 : decide ((1 : Int) < (([t] : List Tm).length : Int)) = false := by simp
    rw [e1, ifF, e2, ifF]
    simp only [idxV0, g0, asI_, someB]
    rw [seL, seT_eq]
    rw [okT_eq] at hT
    by_cases h5 : t.k = 5
    · rw [decide_eq_true h5, ifT]
      simp [asT2C, asC8, asI_, someB, ifT, h5]
    rw [if_neg h5] at hT
    rw [decide_eq_false h5, ifF, decide_eq_true (p := t.k ≠ 5) h5, Bool.true_and]
    simp only [asT2C, asC8, asI_, someB, g0, g7, asL2]
    simp only [decide_true, Bool.not_true, ifF]
    by_cases h4 : t.k = 4
    · rw [if_pos h4, Bool.and_eq_true] at hT
      rw [decide_eq_true h4, Bool.not_true, ifF, if_pos h4]
      have := anyF_is t.fs 197 [AV.eptr 1 [AV.fn 155 []] 0] (fun f => !seL false f.v) (by omega) (fun f hf => by
        have : fact_all_1 (.agg 2 (encFd f)) (.eptr 1 [AV.fn 155 []] 0) = some (.bool (!seL false f.v)) := by
          rw [fact_all_1.f_eq]
          simp only [h1, frz]
          rw [h t (List.mem_cons_self ..) f hf (okF_mem _ hT.2 f hf)]; rfl
        exact this)
      rw [this]
      simp only [someB, asB_]
      rw [any_not, Bool.not_not, seF_all]
    · rw [if_neg h4] at hT
      rw [decide_eq_false h4, Bool.not_false, ifT, if_neg h4]
      have hr : ωκ S 155 ([AV.agg 8 (encT t)] ++ []) = some (.bool (single t)) := by
        have : scalar_Atom (.agg 8 (encT t)) = some (.bool (single t)) := by
          rw [scalar_Atom.f_eq]
          simp only [g5, asB_, scalR_is, hT, one_is, someB, ifT, orK]
        exact this
      rw [hr]
      simp only [someB, asB_]
      cases t.m <;> cases single t <;> rfl
theorem factsS_is : ∀ (v : List Tm), szV v ≤ 1073741824 → okL Rn v = true → fact_all (.agg 1 [.sl 8 (encV v)]) (.fn 155 []) = some (.bool (seL false v))
  | v, hv, hok => factsS_of v hv hok fun t ht f hf ho => factsS_is f.v (by have := szV_dp ht hf; omega) (okV_L ho)
termination_by v => szV v
decreasing_by have := szV_dp ht hf; omega
theorem settledP_is (v : List Tm) (hv : szV v ≤ 1073741824) : fact_Settled (.agg 1 [.sl 8 (encV v)]) = some (.bool (okV Rn v && seL false v)) := by
  rw [fact_Settled.f_eq, rightP_is v hv]
  cases h : okV Rn v with
  | false => rfl
  | true =>
    rw [factsS_is v hv (okV_L h)]
    rfl
theorem dpR_in (v : List Tm) (n j : Nat) (t : Tm) (hj : v[j]? = some t) (hl : v.length ≤ 1073741824) (hb : szF t.fs ≤ 1073741824)
    (h : ∀ f ∈ t.fs, rank_Depth (.agg 1 [.sl 8 (encV f.v)]) = some (.int .i64 (depth f.v : Nat)))
    (next : ∀ m : Nat, m = max n (dpF t.fs) → rank_Depth.l0 (.int .i64 (m : Int)) (.sl 8 (encV v)) (.int .i64 (v.length : Int)) (.int .i64 ((j + 1 : Nat) : Int)) = some (.int .i64 ((1 + max m (dpV (v.drop (j + 1))) : Nat) : Int))) :
    ∀ (d i m : Nat), i + d = t.fs.length → max m (dpF (t.fs.drop i)) = max n (dpF t.fs) → rank_Depth.l1 (.int .i64 (m : Int)) (.sl 8 (encV v)) (.int .i64 (v.length : Int)) (.int .i64 (j : Int)) (.sl 2 (encF t.fs)) (.int .i64 (t.fs.length : Int)) (.int .i64 (i : Int)) = some (.int .i64 ((1 + max n (max (dpF t.fs) (dpV (v.drop (j + 1)))) : Nat) : Int))
  | 0, i, m, hi, hm => by
    rw [rank_Depth.l1_eq, decide_eq_false (by omega), ifF]
    rw [dropNil (by omega), dpF] at hm
    have hj' : j < v.length := (List.getElem?_eq_some_iff.1 hj).1
    rw [w64_succ (by omega), next m (by omega)]
    congr 3
    omega
  | d + 1, i, m, hi, hm => by
    have h1' : i < t.fs.length := by omega
    have e1 : t.fs[i]? = some t.fs[i] := List.getElem?_eq_getElem h1'
    have hc := h _ (List.getElem_mem h1')
    have hl := szF_len t.fs
    have hk := dpF_take e1
    rw [rank_Depth.l1_eq, decide_eq_true (by omega), ifT, idx_at (encFd_at e1), h1]
    simp only [frz, hc, someB, asI_]
    rw [w64_succ (by omega)]
    have hd : depth t.fs[i].v = dpV t.fs[i].v + 1 := rfl
    have hmx : max (m : Int) ((depth t.fs[i].v : Nat) : Int) = ((max m (depth t.fs[i].v) : Nat) : Int) := by omega
    rw [hmx, dpR_in v n j t hj ‹_› hb h next d (i + 1) _ (by omega) (by omega)]
theorem dpR_loop (v : List Tm) (hl : szV v ≤ 1073741824) (h : ∀ t ∈ v, ∀ f ∈ t.fs, rank_Depth (.agg 1 [.sl 8 (encV f.v)]) = some (.int .i64 (depth f.v : Nat))) :
    ∀ (d i n : Nat), i + d = v.length → max n (dpV (v.drop i)) ≤ dpV v → rank_Depth.l0 (.int .i64 (n : Int)) (.sl 8 (encV v)) (.int .i64 (v.length : Int)) (.int .i64 (i : Int)) = some (.int .i64 ((1 + max n (dpV (v.drop i)) : Nat) : Int))
  | 0, i, n, hi, hn => by
    have hw := dp_sz v
    rw [rank_Depth.l0_eq]
    rw [decide_eq_false (by omega), ifF, dropNil (by omega), dpV, w64_succ (by omega), Nat.max_zero, Nat.add_comm]
  | d + 1, i, n, hi, hn => by
    have h1' : i < v.length := by omega
    have e1 : v[i]? = some v[i] := List.getElem?_eq_getElem h1'
    have hlen := szV_len v
    have hs := szT_get e1
    rw [szT_fs] at hs
    have hk := dpV_take e1
    rw [rank_Depth.l0_eq]
    rw [decide_eq_true (by omega), ifT]
    simp only [idx_at (encT_at e1), g7, asL2, encF_len]
    have := dpR_in v n i v[i] e1 (by omega) (by omega) (h _ (List.getElem_mem h1')) (fun m hm => dpR_loop v hl h d (i + 1) m (by omega) (by omega)) v[i].fs.length 0 n (by omega) (by rw [List.drop_zero])
    rw [e00] at this
    rw [this, hk]
theorem dpR_is : ∀ (n : Nat) (v : List Tm), szV v ≤ n → n ≤ 1073741824 → rank_Depth (.agg 1 [.sl 8 (encV v)]) = some (.int .i64 (depth v : Nat))
  | 0, v, h, hn => by
    have hl := szV_len v
    obtain rfl : v = [] := List.eq_nil_of_length_eq_zero (by omega)
    rw [rank_Depth.f_eq]
    simp only [v0, asL8, encV_len]
    exact dpR_loop [] (by simp [szV]) (fun t ht => by cases ht) 0 0 0 rfl (by simp)
  | n + 1, v, h, hn => by
    have := dpR_loop v (by omega) (fun t ht f hf => dpR_is n f.v (by have := szV_dp ht hf; omega) (by omega)) v.length 0 0 (by omega) (by simp)
    rw [rank_Depth.f_eq]
    simp only [v0, asL8, encV_len]
    rw [List.drop_zero, Nat.zero_max, Nat.add_comm, e00] at this
    rw [this]; rfl
/-- What counting down comes to. -/
def Left (v : List Tm) : Prop := ∀ d n : Int, 0 ≤ d → d ≤ 20 → -1 ≤ n → n ≤ 200 → ∃ r : Int, law08_left (.agg 1 [.sl 8 (encV v)]) (.int .i64 d) (.int .i64 n) = some (.int .i64 r) ∧ -1 ≤ r ∧ r ≤ n ∧ (0 ≤ r → (szV v : Int) ≤ 101 * (n - r))
theorem left_fs (D : Int) (hD : 1 ≤ D ∧ D ≤ 20) (c3 : List AV) (n4 : Int) (t : Tm) (hl : t.fs.length ≤ 100) (h : ∀ f ∈ t.fs, Left f.v) :
    ∀ (d i : Nat) (n : Int), i + d = t.fs.length → -1 ≤ n → n ≤ 200 → ∃ r : Int, -1 ≤ r ∧ r ≤ n ∧ (0 ≤ r → (szF (t.fs.drop i) : Int) ≤ 101 * (n - r) + d) ∧
      (law08_left.l1 (.int .i64 D) (.int .i64 n) (.boxv 1 c3 []) (.int .i64 n4) (.boxv 8 (encT t) []) (.int .i64 (i : Int)) = law08_left.l0 (.int .i64 D) (.int .i64 r) (.boxv 1 c3 []) (.int .i64 (w64 (n4 + 1))) ∨
       r = -1 ∧ law08_left.l1 (.int .i64 D) (.int .i64 n) (.boxv 1 c3 []) (.int .i64 n4) (.boxv 8 (encT t) []) (.int .i64 (i : Int)) = some (.int .i64 (-1)))
  | 0, i, n, hi, h1n, h2n => by
    refine ⟨n, h1n, Int.le_refl _, fun _ => by rw [dropNil (by omega), szF]; omega, .inl ?_⟩
    rw [law08_left.l1_eq]
    simp only [g7, asL2, encF_len, andK, someB]
    rw [decide_eq_false (by omega), Bool.false_and, ifF]
  | d + 1, i, n, hi, h1n, h2n => by
    have h1' : i < t.fs.length := by omega
    have e1 : t.fs[i]? = some t.fs[i] := List.getElem?_eq_getElem h1'
    by_cases hn : 0 ≤ n
    · by_cases hnm : 100 < t.fs[i].n.length
      · refine ⟨-1, by omega, by omega, fun h => by omega, .inr ⟨rfl, ?_⟩⟩
        rw [law08_left.l1_eq]
        simp only [g7, asL2, encF_len, andK, someB, idx_at (encFd_at e1), h0, asS_]
        rw [decide_eq_true (p := (i : Int) < (t.fs.length : Int)) (by omega), decide_eq_true hn, Bool.and_self, ifT, decide_eq_true (by omega), ifT]
      · obtain ⟨r1, q1, q2, q3, q4⟩ := h _ (List.getElem_mem h1') (D - 1) n (by omega) (by omega) h1n h2n
        obtain ⟨r, p1, p2, p3, p4⟩ := left_fs D hD c3 n4 t hl h d (i + 1) r1 (by omega) q2 (by omega)
        have he : law08_left.l1 (.int .i64 D) (.int .i64 n) (.boxv 1 c3 []) (.int .i64 n4) (.boxv 8 (encT t) []) (.int .i64 (i : Int)) = law08_left.l1 (.int .i64 D) (.int .i64 r1) (.boxv 1 c3 []) (.int .i64 n4) (.boxv 8 (encT t) []) (.int .i64 ((i + 1 : Nat) : Int)) := by
          rw [law08_left.l1_eq]
          simp only [g7, asL2, encF_len, andK, someB, idx_at (encFd_at e1), h0, h1, asS_]
          rw [decide_eq_true (p := (i : Int) < (t.fs.length : Int)) (by omega), decide_eq_true hn, Bool.and_self, ifT, decide_eq_false (by omega), ifF, w64_id (n := D - 1) (by omega), q1]
          simp only [someB, asI_]
          rw [w64_succ (by omega)]
        refine ⟨r, p1, by omega, fun hr => ?_, ?_⟩
        · have := p3 hr
          have := q4 (by omega)
          rw [dropCons h1']
          have hz : szF (t.fs[i] :: t.fs.drop (i + 1)) = 1 + szV t.fs[i].v + szF (t.fs.drop (i + 1)) := by generalize t.fs[i] = f; cases f; rfl
          rw [hz]; omega
        · rcases p4 with p4 | p4
          · exact .inl (he.trans p4)
          · exact .inr ⟨p4.1, he.trans p4.2⟩
    · refine ⟨n, h1n, Int.le_refl _, fun h => by omega, .inl ?_⟩
      rw [law08_left.l1_eq]
      simp only [g7, asL2, encF_len, andK, someB]
      rw [decide_eq_false hn, Bool.and_false, ifF]
theorem left_of (v : List Tm) (h : ∀ t ∈ v, ∀ f ∈ t.fs, Left f.v) (D : Int) (hD : 1 ≤ D ∧ D ≤ 20) :
    ∀ (d i : Nat) (n : Int), i + d = v.length → -1 ≤ n → n ≤ 200 → (i : Int) + n ≤ 200 → ∃ r : Int, law08_left.l0 (.int .i64 D) (.int .i64 n) (.boxv 1 [.sl 8 (encV v)] []) (.int .i64 (i : Int)) = some (.int .i64 r) ∧ -1 ≤ r ∧ r ≤ n ∧ (0 ≤ r → (szV (v.drop i) : Int) ≤ 101 * (n - r))
  | 0, i, n, hi, h1n, h2n, hin => by
    refine ⟨n, ?_, h1n, Int.le_refl _, fun _ => by rw [dropNil (by omega), szV]; omega⟩
    rw [law08_left.l0_eq]
    simp only [v0, asL8, encV_len, andK, someB]
    rw [decide_eq_false (by omega), Bool.false_and, ifF]
  | d + 1, i, n, hi, h1n, h2n, hin => by
    have h1' : i < v.length := by omega
    have e1 : v[i]? = some v[i] := List.getElem?_eq_getElem h1'
    by_cases hn : 0 ≤ n
    · by_cases hbig : 400 < v[i].s.length ∨ 100 < v[i].fs.length
      · refine ⟨-1, ?_, by omega, by omega, fun h => by omega⟩
        rw [law08_left.l0_eq]
        simp only [v0, asL8, encV_len, andK, orK, someB, idx_at (encT_at e1), g3, g7, asS_, asL2, encF_len]
        have hb : (decide ((400 : Int) < (v[i].s.length : Int)) || decide ((100 : Int) < (v[i].fs.length : Int))) = true := by
          rw [Bool.or_eq_true, decide_eq_true_eq, decide_eq_true_eq]; omega
        rw [decide_eq_true (p := (i : Int) < (v.length : Int)) (by omega), decide_eq_true hn, Bool.and_self, ifT, hb, ifT]
      · obtain ⟨r1, p1, p2, p3, p4⟩ := left_fs D hD [.sl 8 (encV v)] (i : Int) v[i] (by omega) (h _ (List.getElem_mem h1')) v[i].fs.length 0 (n - 1) (by omega) (by omega) (by omega)
        rw [List.drop_zero] at p3
        rw [e00] at p4
        have he : law08_left.l0 (.int .i64 D) (.int .i64 n) (.boxv 1 [.sl 8 (encV v)] []) (.int .i64 (i : Int)) = law08_left.l1 (.int .i64 D) (.int .i64 (n - 1)) (.boxv 1 [.sl 8 (encV v)] []) (.int .i64 (i : Int)) (.boxv 8 (encT v[i]) []) (.int .i64 0) := by
          rw [law08_left.l0_eq]
          simp only [v0, asL8, encV_len, andK, orK, someB, idx_at (encT_at e1), g3, g7, asS_, asL2, encF_len]
          have hb : (decide ((400 : Int) < (v[i].s.length : Int)) || decide ((100 : Int) < (v[i].fs.length : Int))) = false := by
            rw [decide_eq_false (by omega), decide_eq_false (by omega)]; rfl
          rw [decide_eq_true (p := (i : Int) < (v.length : Int)) (by omega), decide_eq_true hn, Bool.and_self, ifT, hb, ifF, w64_id (by omega)]
        have hz : szV (v[i] :: v.drop (i + 1)) = 1 + szF v[i].fs + szV (v.drop (i + 1)) := by rw [szV, szT_fs]
        have hd : v.drop i = v[i] :: v.drop (i + 1) := dropCons h1'
        rcases p4 with p4 | ⟨p5, p4⟩
        · obtain ⟨r, q1, q2, q3, q4⟩ := left_of v h D hD d (i + 1) r1 (by omega) p1 (by omega) (by omega)
          refine ⟨r, ?_, q2, by omega, fun hr => ?_⟩
          · rw [he, p4, w64_succ (by omega), q1]
          · have := q4 hr
            have := p3 (by omega)
            rw [hd, hz]; omega
        · exact ⟨-1, he.trans p4, by omega, by omega, fun h => by omega⟩
    · refine ⟨n, ?_, h1n, Int.le_refl _, fun h => by omega⟩
      rw [law08_left.l0_eq]
      simp only [v0, asL8, encV_len, andK, someB]
      rw [decide_eq_false hn, Bool.and_false, ifF]
theorem left_is (v : List Tm) : Left v := by
    intro d n h1d h2d h1n h2n
    rw [law08_left.f_eq]
    simp only [v0, asL8, encV_len, orK, someB]
    by_cases h0 : d = 0 ∨ n < (v.length : Int)
    · refine ⟨-1, ?_, by omega, by omega, fun h => by omega⟩
      have hb : (decide (d = 0) || decide (n < (v.length : Int))) = true := by rw [Bool.or_eq_true, decide_eq_true_eq, decide_eq_true_eq]; exact h0
      rw [hb, ifT]
    · have hb : (decide (d = 0) || decide (n < (v.length : Int))) = false := by rw [decide_eq_false (by omega), decide_eq_false (by omega)]; rfl
      rw [hb, ifF]
      obtain ⟨r, q1, q2, q3, q4⟩ := left_of v (fun t ht f hf => left_is f.v) d ⟨by omega, h2d⟩ v.length 0 n (by omega) h1n h2n (by omega)
      exact ⟨r, q1, q2, q3, q4⟩
termination_by szV v
decreasing_by have := szV_dp ht hf; omega
/-- Few terms: an answer, and a bound. -/
theorem few_is (v : List Tm) : ∃ b, law09_Few (.agg 1 [.sl 8 (encV v)]) = some (.bool b) ∧ (b = true → szV v ≤ 1073741824) := by
  obtain ⟨r, q1, q2, q3, q4⟩ := left_is v 20 200 (by omega) (by omega) (by omega) (by omega)
  rw [law09_Few.f_eq, law08_Few.f_eq, q1]
  simp only [someB, asI_, asB_]
  by_cases hr : 0 ≤ r
  · have hz : szV v ≤ 1073741824 := by have := q4 hr; omega
    rw [decide_eq_true hr, ifT, wt8_is 1073741824 v hz (Nat.le_refl _)]
    exact ⟨_, rfl, fun _ => hz⟩
  · rw [decide_eq_false hr, ifF]
    exact ⟨_, rfl, fun h => by cases h⟩
structure Th where
  n : Bs
  v : List Tm
  d : List Bs
def encD (d : List Bs) : List (List AV) := d.map fun s => [AV.str s]
def encTh (t : Th) : List AV := [.str t.n, .sl 8 (encV t.v), .sl 1 (encD t.d)]
def encTs (ts : List Th) : List (List AV) := ts.map encTh
theorem encD_at {d : List Bs} {i : Nat} {s : Bs} (h : d[i]? = some s) : (encD d)[i]? = some [AV.str s] := by rw [encD, List.getElem?_map, h]; rfl
theorem encD_len (d : List Bs) : (encD d).length = d.length := by simp [encD]
theorem encTs_at {ts : List Th} {i : Nat} {t : Th} (h : ts[i]? = some t) : (encTs ts)[i]? = some (encTh t) := by rw [encTs, List.getElem?_map, h]; rfl
theorem encTs_len (ts : List Th) : (encTs ts).length = ts.length := by simp [encTs]
theorem th0 {α : Type} (t : Th) (k : AV → Option α) : getC (encTh t) 0 k = k (.str t.n) := rfl
theorem th1 {α : Type} (t : Th) (k : AV → Option α) : getC (encTh t) 1 k = k (.sl 8 (encV t.v)) := rfl
theorem th2 {α : Type} (t : Th) (k : AV → Option α) : getC (encTh t) 2 k = k (.sl 1 (encD t.d)) := rfl
theorem asL1_ {α : Type} (l : List (List AV)) (k : List (List AV) → Option α) : asL 1 (.sl 1 l) k = k l := rfl
theorem str0 {α : Type} (s : Bs) (k : AV → Option α) : getC [AV.str s] 0 k = k (.str s) := rfl
/-- The first place. -/
def ixB : List Bs → Bs → Nat → Int
  | [], _, _ => -1
  | x :: r, s, i => if x = s then (i : Int) else ixB r s (i + 1)
theorem ixB_pos : ∀ (l : List Bs) (s : Bs) (i : Nat), 0 ≤ ixB l s i ↔ s ∈ l
  | [], s, i => by simp [ixB]
  | x :: r, s, i => by
    unfold ixB
    split
    · rename_i h; subst h; simp
    · rename_i h
      rw [ixB_pos r s (i + 1), List.mem_cons]
      constructor
      · exact .inr
      · rintro (e | e)
        · exact absurd e.symm h
        · exact e
/-- A list of things whose names are these. -/
def NmOK (l : List (List AV)) (ns : List Bs) : Prop := l.length = ns.length ∧ ∀ (i : Nat) (n : Bs), ns[i]? = some n → ∃ a b, l[i]? = some [.str n, a, b]
theorem nm_enc (ts : List Th) : NmOK (encTs ts) (ts.map (·.n)) := ⟨by simp [encTs], fun i n h => by
  rw [List.getElem?_map] at h
  cases ht : ts[i]? with
  | none => rw [ht] at h; cases h
  | some t => rw [ht] at h; cases h; exact ⟨_, _, encTs_at ht⟩⟩
theorem findI_loop (l : List (List AV)) (ns : List Bs) (hn : NmOK l ns) (hl : ns.length ≤ 1073741824) (s : Bs) : ∀ (d i : Nat), i + d = ns.length → slices_IndexFunc__Thing.l0 (.sl 3 l) (.fn 80 [.eptr 1 [.str s] 0]) (.int .i64 (l.length : Int)) (.int .i64 (i : Int)) = some (.int .i64 (ixB (ns.drop i) s i))
  | 0, i, h => by rw [slices_IndexFunc__Thing.l0_eq, hn.1, decide_eq_false (by omega), ifF, dropNil (by omega)]; rfl
  | d + 1, i, h => by
    have h1' : i < ns.length := by omega
    obtain ⟨a, b, e1⟩ := hn.2 i ns[i] (List.getElem?_eq_getElem h1')
    have hc : ωκ S 80 ([AV.agg 3 [.str ns[i], a, b]] ++ [.eptr 1 [.str s] 0]) = some (.bool (decide (ns[i] = s))) := by
      have : state_Find_1 (.agg 3 [.str ns[i], a, b]) (.eptr 1 [.str s] 0) = some (.bool (decide (ns[i] = s))) := by rw [state_Find_1.f_eq]; rfl
      exact this
    have ih := findI_loop l ns hn hl s d (i + 1) (by omega)
    rw [slices_IndexFunc__Thing.l0_eq, decide_eq_true (by rw [hn.1]; omega), ifT, idx_at e1, hc, dropCons h1']
    simp only [someB, asB_]
    unfold ixB
    by_cases hs : ns[i] = s
    · rw [decide_eq_true hs, ifT, if_pos hs]
    · rw [decide_eq_false hs, ifF, if_neg hs, w64_succ (by omega), ih]
theorem findN_is (l : List (List AV)) (ns : List Bs) (hn : NmOK l ns) (hl : ns.length ≤ 1073741824) (s : Bs) : state_Find (.sl 3 l) (.str s) = some (.int .i64 (ixB ns s 0)) := by
  have := findI_loop l ns hn hl s ns.length 0 (by omega)
  rw [state_Find.f_eq, slices_IndexFunc__Thing.f_eq]
  rw [e00, List.drop_zero] at this
  rw [this]; rfl
theorem findP30_is (ts : List Th) (hl : ts.length ≤ 1073741824) (s : Bs) : state_Find (.sl 3 (encTs ts)) (.str s) = some (.int .i64 (ixB (ts.map (·.n)) s 0)) := findN_is _ _ (nm_enc ts) (by simpa using hl) s
theorem findR_loop (ts : List Th) (hl : ts.length ≤ 1073741824) (s : Bs) : ∀ (d i : Nat), i + d = ts.length → ref30_Find.l0 (.sl 3 (encTs ts)) (.str s) (.int .i64 (i : Int)) = some (.int .i64 (ixB ((ts.map (·.n)).drop i) s i))
  | 0, i, h => by rw [ref30_Find.l0_eq, encTs_len, decide_eq_false (by omega), ifF, dropNil (by simp; omega)]; rfl
  | d + 1, i, h => by
    have h1' : i < ts.length := by omega
    have e1 : ts[i]? = some ts[i] := List.getElem?_eq_getElem h1'
    have ih := findR_loop ts hl s d (i + 1) (by omega)
    have e2 : (ts.map (·.n)).drop i = ts[i].n :: (ts.map (·.n)).drop (i + 1) := by rw [dropCons (by simpa using h1')]; simp
    rw [ref30_Find.l0_eq, encTs_len, decide_eq_true (by omega), ifT, idx_at (encTs_at e1), th0, e2]
    simp only [asS_]
    unfold ixB
    by_cases hs : ts[i].n = s
    · rw [decide_eq_true hs, ifT, if_pos hs]
    · rw [decide_eq_false hs, ifF, if_neg hs, w64_succ (by omega), ih]
theorem findR30_is (ts : List Th) (hl : ts.length ≤ 1073741824) (s : Bs) : ref30_Find (.sl 3 (encTs ts)) (.str s) = some (.int .i64 (ixB (ts.map (·.n)) s 0)) := by
  have := findR_loop ts hl s ts.length 0 (by omega)
  rw [e00, List.drop_zero] at this
  rw [ref30_Find.f_eq, this]
/-! Lists of texts -/
theorem hasR_loop (d : List Bs) (hl : d.length ≤ 1073741824) (s : Bs) : ∀ (k i : Nat), i + k = d.length → ref17_Has.l0 (.sl 1 (encD d)) (.str s) (.int .i64 (i : Int)) = some (.bool (decide (s ∈ d.drop i)))
  | 0, i, h => by rw [ref17_Has.l0_eq, encD_len, decide_eq_false (by omega), ifF, dropNil (by omega)]; simp
  | k + 1, i, h => by
    have h1' : i < d.length := by omega
    have e1 : d[i]? = some d[i] := List.getElem?_eq_getElem h1'
    have ih := hasR_loop d hl s k (i + 1) (by omega)
    rw [ref17_Has.l0_eq, encD_len, decide_eq_true (by omega), ifT, idx_at (encD_at e1), str0, dropCons h1']
    simp only [asS_]
    by_cases hs : d[i] = s
    · rw [decide_eq_true hs, ifT, decide_eq_true (by rw [hs]; exact List.mem_cons_self ..)]
    · rw [decide_eq_false hs, ifF, w64_succ (by omega), ih]
      congr 2
      refine decide_eq_decide.2 ?_
      rw [List.mem_cons]
      constructor
      · exact .inr
      · rintro (e | e)
        · exact absurd e.symm hs
        · exact e
theorem hasR_is (d : List Bs) (hl : d.length ≤ 1073741824) (s : Bs) : ref17_Has (.sl 1 (encD d)) (.str s) = some (.bool (decide (s ∈ d))) := by
  have := hasR_loop d hl s d.length 0 (by omega)
  rw [e00, List.drop_zero] at this
  rw [ref17_Has.f_eq, this]
theorem ixS_loop (d : List Bs) (hl : d.length ≤ 1073741824) (s : Bs) : ∀ (k i : Nat), i + k = d.length → slices_Index__string.l0 (.sl 1 (encD d)) (.str s) (.int .i64 (d.length : Int)) (.int .i64 (i : Int)) = some (.int .i64 (ixB (d.drop i) s i))
  | 0, i, h => by rw [slices_Index__string.l0_eq, decide_eq_false (by omega), ifF, dropNil (by omega)]; rfl
  | k + 1, i, h => by
    have h1' : i < d.length := by omega
    have e1 : d[i]? = some d[i] := List.getElem?_eq_getElem h1'
    have ih := ixS_loop d hl s k (i + 1) (by omega)
    rw [slices_Index__string.l0_eq, decide_eq_true (by omega), ifT, idx_at (encD_at e1), str0, dropCons h1']
    simp only [asS_]
    unfold ixB
    by_cases hs : d[i] = s
    · rw [decide_eq_true hs.symm, ifT, if_pos hs]
    · rw [decide_eq_false (fun e => hs e.symm), ifF, if_neg hs, w64_succ (by omega), ih]
theorem contains_is (d : List Bs) (hl : d.length ≤ 1073741824) (s : Bs) : slices_Contains__string (.sl 1 (encD d)) (.str s) = some (.bool (decide (s ∈ d))) := by
  have := ixS_loop d hl s d.length 0 (by omega)
  rw [e00, List.drop_zero] at this
  rw [slices_Contains__string.f_eq, slices_Index__string.f_eq, encD_len, this]
  simp only [someB, asI_]
  congr 2
  exact decide_eq_decide.2 (ixB_pos d s 0)
/-- Rising names, as fields. -/
def fsD (d : List Bs) : List Fd := d.map fun s => .mk s []
theorem encN_fs (d : List Bs) : encN (fsD d) = encD d := by simp [encN, fsD, encD, Fd.n]
def risD (d : List Bs) : Bool := risF Rn none (fsD d)
theorem risR_is (d : List Bs) (hl : d.length ≤ 1073741824) : ref02_Rising (.sl 1 (encD d)) = some (.bool (risD d)) := by
  have := ris2_is (fsD d) (by simpa [fsD] using hl)
  rw [encN_fs] at this
  exact this
theorem risN_loop (fs : List Fd) (hl : fs.length ≤ 1073741824) : ∀ (d i : Nat), i + d = fs.length → name_Rising.l0 (.sl 1 (encN fs)) (.sl 1 (encN fs)) (.int .i64 (fs.length : Int)) (.int .i64 (i : Int)) = some (.bool (risF Nam.rightV (prevN fs i) (fs.drop i)))
  | 0, i, h => by
    rw [name_Rising.l0_eq, decide_eq_false (by omega), ifF, dropNil (by omega)]; rfl
  | d + 1, i, h => by
    have h1' : i < fs.length := by omega
    have e1 : fs[i]? = some fs[i] := List.getElem?_eq_getElem h1'
    have ih := risN_loop fs hl d (i + 1) (by omega)
    rw [prevN_succ e1] at ih
    rw [name_Rising.l0_eq, decide_eq_true (by omega), ifT, dropCons h1', risF_cons]
    simp only [idx_at (encN_at e1), getC0, asS_, nameR_is, someB, asB_]
    rw [w64_succ (by omega), ih]
    by_cases hi0 : i = 0
    · subst hi0
      rw [e00, decide_eq_false (by omega), ifF]
      simp only [orK, someB]
      cases Nam.rightV fs[0].n <;> simp [ifT, ifF, prevN, rises]
    · have e2 : fs[i - 1]? = some fs[i - 1] := List.getElem?_eq_getElem (by omega)
      rw [decide_eq_true (by omega), ifT, w64_pred (by omega) (by omega)]
      simp only [idx_at (encN_at e2), getC0, asS_, someB, orK]
      have : prevN fs i = some fs[i - 1].n := by unfold prevN; rw [if_neg hi0, e2]; rfl
      rw [this, rises]
      have hb : (bytesLt fs[i].n fs[i - 1].n || decide (fs[i].n = fs[i - 1].n)) = !bytesLt fs[i - 1].n fs[i].n := by
        cases h1 : bytesLt fs[i - 1].n fs[i].n with
        | true =>
          rw [blt_asym _ _ h1, Bool.false_or, Bool.not_true]
          exact decide_eq_false fun e => by rw [e, blt_irr] at h1; cases h1
        | false =>
          cases h2 : bytesLt fs[i].n fs[i - 1].n with
          | true => rfl
          | false => rw [Bool.false_or, Bool.not_false]; exact decide_eq_true (blt_total _ _ h2 h1)
      rw [hb]
      cases Nam.rightV fs[i].n <;> cases bytesLt fs[i - 1].n fs[i].n <;> simp [ifT, ifF]
theorem risN_is (d : List Bs) (hl : d.length ≤ 1073741824) : name_Rising (.sl 1 (encD d)) = some (.bool (risD d)) := by
  have := risN_loop (fsD d) (by simpa [fsD] using hl) (fsD d).length 0 (by omega)
  rw [e00, List.drop_zero, encN_fs] at this
  rw [name_Rising.f_eq, encD_len]
  rw [show ((fsD d).length : Int) = (d.length : Int) by simp [fsD]] at this
  exact this
theorem gOK {a b : List (List AV)} (h : a.length + b.length ≤ 1073741824) : Nat.ble (a.length + b.length) lim = true := by
  rw [Nat.ble_eq]; unfold lim; omega
theorem encD_app (a : List Bs) (s : Bs) : encD a ++ [[AV.str s]] = encD (a ++ [s]) := by simp [encD]
/-! Put -/
theorem putT_loop (l : List Bs) (s : Bs) (hl : l.length ≤ 1048576) : ∀ (d i : Nat) (out : List Bs), i + d = l.length → out.length ≤ 1048576 + i → ref17_Put.l0 (.sl 1 (encD l)) (.str s) (.own 1 (encD out)) (.bool true) (.int .i64 (i : Int)) = some (.own 1 (encD (out ++ l.drop i)))
  | 0, i, out, h, ho => by rw [ref17_Put.l0_eq2, encD_len, decide_eq_false (by omega), ifF, dropNil (by omega), List.append_nil]
  | d + 1, i, out, h, ho => by
    have h1' : i < l.length := by omega
    have e1 : l[i]? = some l[i] := List.getElem?_eq_getElem h1'
    have ih := putT_loop l s hl d (i + 1) (out ++ [l[i]]) (by omega) (by simp; omega)
    rw [ref17_Put.l0_eq2, encD_len, decide_eq_true (by omega), ifT, ref17_Put.j1_eq, idx_at (encD_at e1), str0]
    simp only [asS_]
    rw [gOK (by rw [encD_len]; simp; omega), guT, encD_app, w64_succ (by omega), ih, dropCons h1', List.append_assoc]; rfl
theorem putF_loop (l : List Bs) (s : Bs) (hl : l.length ≤ 1048576) : ∀ (d i : Nat) (out : List Bs), i + d = l.length → out.length ≤ i → ∃ X : List Bs, ref17_Put.l0 (.sl 1 (encD l)) (.str s) (.own 1 (encD out)) (.bool false) (.int .i64 (i : Int)) = some (.own 1 (encD (out ++ X))) ∧ (∀ y, y ∈ X ↔ y = s ∨ y ∈ l.drop i) ∧ X.length = d + 1
  | 0, i, out, h, ho => by
    refine ⟨[s], ?_, by rw [dropNil (by omega)]; simp, rfl⟩
    rw [ref17_Put.l0_eq, encD_len, decide_eq_false (by omega), ifF, gOK (by rw [encD_len]; simp; omega), guT, encD_app]
  | d + 1, i, out, h, ho => by
    have h1' : i < l.length := by omega
    have e1 : l[i]? = some l[i] := List.getElem?_eq_getElem h1'
    rw [ref17_Put.l0_eq, encD_len, decide_eq_true (by omega), ifT, idx_at (encD_at e1), str0]
    simp only [asS_, someB]
    cases hb : bytesLt s l[i] with
    | true =>
      have := putT_loop l s hl d (i + 1) (out ++ [s] ++ [l[i]]) (by omega) (by simp; omega)
      refine ⟨s :: l[i] :: l.drop (i + 1), ?_, fun y => by rw [dropCons h1']; simp, by simp; omega⟩
      rw [ifT, gOK (by rw [encD_len]; simp; omega), guT, encD_app, ref17_Put.j1_eq, idx_at (encD_at e1), str0]
      simp only [asS_]
      rw [gOK (by rw [encD_len]; simp; omega), guT, encD_app, w64_succ (by omega), this]
      simp
    | false =>
      obtain ⟨X, hX, hm, hlen⟩ := putF_loop l s hl d (i + 1) (out ++ [l[i]]) (by omega) (by simp; omega)
      refine ⟨l[i] :: X, ?_, fun y => by rw [dropCons h1', List.mem_cons, hm, List.mem_cons]; constructor <;> (rintro (h | h | h) <;> simp [h]), by simp [hlen]⟩
      rw [ifF, ref17_Put.j1_eq2, idx_at (encD_at e1), str0]
      simp only [asS_]
      rw [gOK (by rw [encD_len]; simp; omega), guT, encD_app, w64_succ (by omega), hX]
      simp
theorem put17_is (l : List Bs) (s : Bs) (hl : l.length ≤ 1048576) : ∃ (r : AV) (X : List Bs), ref17_Put (.sl 1 (encD l)) (.str s) = some r ∧ (r = .sl 1 (encD X) ∨ r = .own 1 (encD X)) ∧ (∀ y, y ∈ X ↔ y = s ∨ y ∈ l) ∧ X.length ≤ l.length + 1 := by
  rw [ref17_Put.f_eq, hasR_is l (by omega)]
  simp only [someB, asB_]
  by_cases hs : s ∈ l
  · rw [decide_eq_true hs, ifT]
    refine ⟨_, l, rfl, .inl rfl, fun y => ⟨.inr, ?_⟩, by omega⟩
    rintro (rfl | h)
    · exact hs
    · exact h
  · rw [decide_eq_false hs, ifF]
    obtain ⟨X, hX, hm, hlen⟩ := putF_loop l s hl l.length 0 [] (by omega) (by simp)
    rw [List.drop_zero] at hm
    exact ⟨_, X, hX, .inr rfl, hm, by omega⟩
/-! To -/
def encE (E : List (Bs × Bs)) : List (List AV) := E.map fun p => [AV.str p.1, .str p.2]
theorem encE_at {E : List (Bs × Bs)} {i : Nat} {p : Bs × Bs} (h : E[i]? = some p) : (encE E)[i]? = some [AV.str p.1, .str p.2] := by rw [encE, List.getElem?_map, h]; rfl
theorem encE_len (E : List (Bs × Bs)) : (encE E).length = E.length := by simp [encE]
theorem toS_loop (E : List (Bs × Bs)) (k : Bs) (hE : E.length ≤ 1048576) : ∀ (d i : Nat) (L : List Bs), i + d = E.length → L.length ≤ i → ∃ X : List Bs, ref17_To.l0 (.sl 2 (encE E)) (.str k) (.sl 1 (encD L)) (.int .i64 (i : Int)) = some (.sl 1 (encD X)) ∧ (∀ y, y ∈ X ↔ y ∈ L ∨ (k, y) ∈ E.drop i) ∧ X.length ≤ E.length
  | 0, i, L, h, hL => by
    refine ⟨L, ?_, by rw [dropNil (by omega)]; simp, by omega⟩
    rw [ref17_To.l0_eq2, encE_len, decide_eq_false (by omega), ifF]
  | d + 1, i, L, h, hL => by
    have h1' : i < E.length := by omega
    have e1 : E[i]? = some E[i] := List.getElem?_eq_getElem h1'
    rw [ref17_To.l0_eq2, encE_len, decide_eq_true (by omega), ifT, idx_at (encE_at e1), getC0]
    simp only [asS_]
    by_cases hk : E[i].1 = k
    · obtain ⟨r, X, hP, hr, hm, hlen⟩ := put17_is L E[i].2 (by omega)
      obtain ⟨Y, hY, hmY, hlY⟩ := toS_loop E k hE d (i + 1) X (by omega) (by omega)
      refine ⟨Y, ?_, fun y => ?_, hlY⟩
      · rw [decide_eq_true hk, ifT, idx_at (encE_at e1)]
        show getC [AV.str E[i].1, .str E[i].2] 1 _ = _
        rw [show ∀ (k : AV → Option AV), getC [AV.str E[i].1, .str E[i].2] 1 k = k (.str E[i].2) from fun k => rfl]
        simp only [asS_, hP, someB]
        rcases hr with rfl | rfl
        · rw [asL1_, w64_succ (by omega), hY]
        · rw [show ∀ (k : List (List AV) → Option AV), asL 1 (.own 1 (encD X)) k = k (encD X) from fun k => rfl, w64_succ (by omega), hY]
      · rw [hmY, hm, dropCons h1', List.mem_cons]
        constructor
        · rintro ((rfl | h) | h)
          · exact .inr (.inl (by rw [← hk]))
          · exact .inl h
          · exact .inr (.inr h)
        · rintro (h | h | h)
          · exact .inl (.inr h)
          · exact .inl (.inl (by rw [← h]))
          · exact .inr h
    · obtain ⟨Y, hY, hmY, hlY⟩ := toS_loop E k hE d (i + 1) L (by omega) (by omega)
      refine ⟨Y, ?_, fun y => ?_, hlY⟩
      · rw [decide_eq_false hk, ifF, w64_succ (by omega), hY]
      · rw [hmY, dropCons h1', List.mem_cons]
        have : ¬ (k, y) = E[i] := fun e => hk (by rw [← e])
        simp [this]
theorem toO_loop (E : List (Bs × Bs)) (k : Bs) (hE : E.length ≤ 1048576) : ∀ (d i : Nat), i + d = E.length → ∃ (r : AV) (X : List Bs), ref17_To.l0 (.sl 2 (encE E)) (.str k) (.own 1 (encD [])) (.int .i64 (i : Int)) = some r ∧ (r = .sl 1 (encD X) ∨ r = .own 1 (encD X)) ∧ (∀ y, y ∈ X ↔ (k, y) ∈ E.drop i) ∧ X.length ≤ E.length
  | 0, i, h => by
    refine ⟨.own 1 (encD []), [], ?_, .inr rfl, by rw [dropNil (by omega)]; simp, by simp⟩
    rw [ref17_To.l0_eq, encE_len, decide_eq_false (by omega), ifF]
  | d + 1, i, h => by
    have h1' : i < E.length := by omega
    have e1 : E[i]? = some E[i] := List.getElem?_eq_getElem h1'
    rw [ref17_To.l0_eq, encE_len, decide_eq_true (by omega), ifT, idx_at (encE_at e1), getC0]
    simp only [asS_]
    by_cases hk : E[i].1 = k
    · obtain ⟨r, X, hP, hr, hm, hlen⟩ := put17_is [] E[i].2 (by simp)
      have hP : ref17_Put (.sl 1 (encD [])) (.str E[i].2) = some r := hP
      obtain ⟨Y, hY, hmY, hlY⟩ := toS_loop E k hE d (i + 1) X (by omega) (by simp at hlen; omega)
      refine ⟨.sl 1 (encD Y), Y, ?_, .inl rfl, fun y => ?_, hlY⟩
      · rw [decide_eq_true hk, ifT, idx_at (encE_at e1)]
        show getC [AV.str E[i].1, .str E[i].2] 1 _ = _
        rw [show ∀ (k : AV → Option AV), getC [AV.str E[i].1, .str E[i].2] 1 k = k (.str E[i].2) from fun k => rfl]
        simp only [asS_, hP, someB]
        rcases hr with rfl | rfl
        · rw [asL1_, w64_succ (by omega), hY]
        · rw [show ∀ (k : List (List AV) → Option AV), asL 1 (.own 1 (encD X)) k = k (encD X) from fun k => rfl, w64_succ (by omega), hY]
      · rw [hmY, hm, dropCons h1', List.mem_cons]
        constructor
        · rintro ((rfl | h) | h)
          · exact .inl (by rw [← hk])
          · cases h
          · exact .inr h
        · rintro (h | h)
          · exact .inl (.inl (by rw [← h]))
          · exact .inr h
    · obtain ⟨r, Y, hY, hr, hmY, hlY⟩ := toO_loop E k hE d (i + 1) (by omega)
      refine ⟨r, Y, ?_, hr, fun y => ?_, hlY⟩
      · rw [decide_eq_false hk, ifF, w64_succ (by omega), hY]
      · rw [hmY, dropCons h1', List.mem_cons]
        have : ¬ (k, y) = E[i] := fun e => hk (by rw [← e])
        simp [this]
theorem to17_is (E : List (Bs × Bs)) (k : Bs) (hE : E.length ≤ 1048576) : ∃ (r : AV) (X : List Bs), ref17_To (.sl 2 (encE E)) (.str k) = some r ∧ (r = .sl 1 (encD X) ∨ r = .own 1 (encD X)) ∧ (∀ y, y ∈ X ↔ (k, y) ∈ E) ∧ X.length ≤ E.length := by
  obtain ⟨r, X, h1, h2, h3, h4⟩ := toO_loop E k hE E.length 0 (by omega)
  rw [e00] at h1
  rw [List.drop_zero] at h3
  exact ⟨r, X, by rw [ref17_To.f_eq]; exact h1, h2, h3, h4⟩
end Go.Proofs.YtmdimhcjogjcgaaGreatDoor.Lat
