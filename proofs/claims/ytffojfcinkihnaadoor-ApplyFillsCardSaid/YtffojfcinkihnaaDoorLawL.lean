/- Few terms: a bound on how large a value is. -/
import Derived.Test.YtffojfcinkihnaaDoorLC
set_option linter.unusedVariables false
set_option linter.unusedSimpArgs false
set_option linter.unusedSectionVars false
set_option linter.deprecated false
set_option linter.unnecessarySimpa false
namespace Go.Proofs.YtffojfcinkihnaaDoor.Lat
open Go.Proofs.YtffojfcinkihnaaDoor.Abs
set_option linter.unusedVariables false
/-- What counting down comes to. -/
def Left (v : List Tm) : Prop := ∀ d n : Int, 0 ≤ d → d ≤ 20 → -1 ≤ n → n ≤ 200 → ∃ r : Int, law08_left (.agg 1 [.sl 8 (encV v)]) (.int .i64 d) (.int .i64 n) = some (.int .i64 r) ∧ -1 ≤ r ∧ r ≤ n ∧ (0 ≤ r → (szV v : Int) ≤ 101 * (n - r))
theorem left_fs (D : Int) (hD : 1 ≤ D ∧ D ≤ 20) (c3 : List AV) (n4 : Int) (t : Tm) (hl : t.fs.length ≤ 100) (h : ∀ f ∈ t.fs, Left f.v) :
    ∀ (d i : Nat) (n : Int), i + d = t.fs.length → -1 ≤ n → n ≤ 200 → ∃ r : Int, -1 ≤ r ∧ r ≤ n ∧ (0 ≤ r → (szF (t.fs.drop i) : Int) ≤ 101 * (n - r) + d) ∧
      (law08_left.l1 (.int .i64 D) (.int .i64 n) (.boxv 1 c3 []) (.int .i64 n4) (.boxv 8 (encT t) []) (.int .i64 (i : Int)) = law08_left.l0 (.int .i64 D) (.int .i64 r) (.boxv 1 c3 []) (.int .i64 (w64 (n4 + 1))) ∨
       r = -1 ∧ law08_left.l1 (.int .i64 D) (.int .i64 n) (.boxv 1 c3 []) (.int .i64 n4) (.boxv 8 (encT t) []) (.int .i64 (i : Int)) = some (.int .i64 (-1)))
  | 0, i, n, hi, h1n, h2n => by
    refine ⟨n, h1n, Int.le_refl _, fun _ => by rw [dropNil (by omega), szF]; omega, .inl ?_⟩
    rw [law08_left.l1_eq]
    simp only [g7, asL2, encF_len, andK, someB]
    rw [decide_eq_false (by omega), Bool.false_and, ifF]
  | d + 1, i, n, hi, h1n, h2n => by
    have h1' : i < t.fs.length := by omega
    have e1 : t.fs[i]? = some t.fs[i] := List.getElem?_eq_getElem h1'
    by_cases hn : 0 ≤ n
    · by_cases hnm : 100 < t.fs[i].n.length
      · refine ⟨-1, by omega, by omega, fun h => by omega, .inr ⟨rfl, ?_⟩⟩
        rw [law08_left.l1_eq]
        simp only [g7, asL2, encF_len, andK, someB, idx_at (encFd_at e1), h0, asS_]
        rw [decide_eq_true (p := (i : Int) < (t.fs.length : Int)) (by omega), decide_eq_true hn, Bool.and_self, ifT, decide_eq_true (by omega), ifT]
      · obtain ⟨r1, q1, q2, q3, q4⟩ := h _ (List.getElem_mem h1') (D - 1) n (by omega) (by omega) h1n h2n
        obtain ⟨r, p1, p2, p3, p4⟩ := left_fs D hD c3 n4 t hl h d (i + 1) r1 (by omega) q2 (by omega)
        have he : law08_left.l1 (.int .i64 D) (.int .i64 n) (.boxv 1 c3 []) (.int .i64 n4) (.boxv 8 (encT t) []) (.int .i64 (i : Int)) = law08_left.l1 (.int .i64 D) (.int .i64 r1) (.boxv 1 c3 []) (.int .i64 n4) (.boxv 8 (encT t) []) (.int .i64 ((i + 1 : Nat) : Int)) := by
          rw [law08_left.l1_eq]
          simp only [g7, asL2, encF_len, andK, someB, idx_at (encFd_at e1), h0, h1, asS_]
          rw [decide_eq_true (p := (i : Int) < (t.fs.length : Int)) (by omega), decide_eq_true hn, Bool.and_self, ifT, decide_eq_false (by omega), ifF, w64_id (n := D - 1) (by omega), q1]
          simp only [someB, asI_]
          rw [w64_succ (by omega)]
        refine ⟨r, p1, by omega, fun hr => ?_, ?_⟩
        · have := p3 hr
          have := q4 (by omega)
          rw [dropCons h1']
          have hz : szF (t.fs[i] :: t.fs.drop (i + 1)) = 1 + szV t.fs[i].v + szF (t.fs.drop (i + 1)) := by generalize t.fs[i] = f; cases f; rfl
          rw [hz]; omega
        · rcases p4 with p4 | p4
          · exact .inl (he.trans p4)
          · exact .inr ⟨p4.1, he.trans p4.2⟩
    · refine ⟨n, h1n, Int.le_refl _, fun h => by omega, .inl ?_⟩
      rw [law08_left.l1_eq]
      simp only [g7, asL2, encF_len, andK, someB]
      rw [decide_eq_false hn, Bool.and_false, ifF]
theorem left_of (v : List Tm) (h : ∀ t ∈ v, ∀ f ∈ t.fs, Left f.v) (D : Int) (hD : 1 ≤ D ∧ D ≤ 20) :
    ∀ (d i : Nat) (n : Int), i + d = v.length → -1 ≤ n → n ≤ 200 → (i : Int) + n ≤ 200 → ∃ r : Int, law08_left.l0 (.int .i64 D) (.int .i64 n) (.boxv 1 [.sl 8 (encV v)] []) (.int .i64 (i : Int)) = some (.int .i64 r) ∧ -1 ≤ r ∧ r ≤ n ∧ (0 ≤ r → (szV (v.drop i) : Int) ≤ 101 * (n - r))
  | 0, i, n, hi, h1n, h2n, hin => by
    refine ⟨n, ?_, h1n, Int.le_refl _, fun _ => by rw [dropNil (by omega), szV]; omega⟩
    rw [law08_left.l0_eq]
    simp only [v0, asL8, encV_len, andK, someB]
    rw [decide_eq_false (by omega), Bool.false_and, ifF]
  | d + 1, i, n, hi, h1n, h2n, hin => by
    have h1' : i < v.length := by omega
    have e1 : v[i]? = some v[i] := List.getElem?_eq_getElem h1'
    by_cases hn : 0 ≤ n
    · by_cases hbig : 400 < v[i].s.length ∨ 100 < v[i].fs.length
      · refine ⟨-1, ?_, by omega, by omega, fun h => by omega⟩
        rw [law08_left.l0_eq]
        simp only [v0, asL8, encV_len, andK, orK, someB, idx_at (encT_at e1), g3, g7, asS_, asL2, encF_len]
        have hb : (decide ((400 : Int) < (v[i].s.length : Int)) || decide ((100 : Int) < (v[i].fs.length : Int))) = true := by
          rw [Bool.or_eq_true, decide_eq_true_eq, decide_eq_true_eq]; omega
        rw [decide_eq_true (p := (i : Int) < (v.length : Int)) (by omega), decide_eq_true hn, Bool.and_self, ifT, hb, ifT]
      · obtain ⟨r1, p1, p2, p3, p4⟩ := left_fs D hD [.sl 8 (encV v)] (i : Int) v[i] (by omega) (h _ (List.getElem_mem h1')) v[i].fs.length 0 (n - 1) (by omega) (by omega) (by omega)
        rw [List.drop_zero] at p3
        rw [e00] at p4
        have he : law08_left.l0 (.int .i64 D) (.int .i64 n) (.boxv 1 [.sl 8 (encV v)] []) (.int .i64 (i : Int)) = law08_left.l1 (.int .i64 D) (.int .i64 (n - 1)) (.boxv 1 [.sl 8 (encV v)] []) (.int .i64 (i : Int)) (.boxv 8 (encT v[i]) []) (.int .i64 0) := by
          rw [law08_left.l0_eq]
          simp only [v0, asL8, encV_len, andK, orK, someB, idx_at (encT_at e1), g3, g7, asS_, asL2, encF_len]
          have hb : (decide ((400 : Int) < (v[i].s.length : Int)) || decide ((100 : Int) < (v[i].fs.length : Int))) = false := by
            rw [decide_eq_false (by omega), decide_eq_false (by omega)]; rfl
          rw [decide_eq_true (p := (i : Int) < (v.length : Int)) (by omega), decide_eq_true hn, Bool.and_self, ifT, hb, ifF, w64_id (by omega)]
        have hz : szV (v[i] :: v.drop (i + 1)) = 1 + szF v[i].fs + szV (v.drop (i + 1)) := by rw [szV, szT_fs]
        have hd : v.drop i = v[i] :: v.drop (i + 1) := dropCons h1'
        rcases p4 with p4 | ⟨p5, p4⟩
        · obtain ⟨r, q1, q2, q3, q4⟩ := left_of v h D hD d (i + 1) r1 (by omega) p1 (by omega) (by omega)
          refine ⟨r, ?_, q2, by omega, fun hr => ?_⟩
          · rw [he, p4, w64_succ (by omega), q1]
          · have := q4 hr
            have := p3 (by omega)
            rw [hd, hz]; omega
        · exact ⟨-1, he.trans p4, by omega, by omega, fun h => by omega⟩
    · refine ⟨n, ?_, h1n, Int.le_refl _, fun h => by omega⟩
      rw [law08_left.l0_eq]
      simp only [v0, asL8, encV_len, andK, someB]
      rw [decide_eq_false hn, Bool.and_false, ifF]
theorem left_is (v : List Tm) : Left v := by
    intro d n h1d h2d h1n h2n
    rw [law08_left.f_eq]
    simp only [v0, asL8, encV_len, orK, someB]
    by_cases h0 : d = 0 ∨ n < (v.length : Int)
    · refine ⟨-1, ?_, by omega, by omega, fun h => by omega⟩
      have hb : (decide (d = 0) || decide (n < (v.length : Int))) = true := by rw [Bool.or_eq_true, decide_eq_true_eq, decide_eq_true_eq]; exact h0
      rw [hb, ifT]
    · have hb : (decide (d = 0) || decide (n < (v.length : Int))) = false := by rw [decide_eq_false (by omega), decide_eq_false (by omega)]; rfl
      rw [hb, ifF]
      obtain ⟨r, q1, q2, q3, q4⟩ := left_of v (fun t ht f hf => left_is f.v) d ⟨by omega, h2d⟩ v.length 0 n (by omega) h1n h2n (by omega)
      exact ⟨r, q1, q2, q3, q4⟩
termination_by szV v
decreasing_by have := szV_dp ht hf; omega
/-- Few terms: an answer, and a bound. -/
theorem few_is (v : List Tm) : ∃ b, law09_Few (.agg 1 [.sl 8 (encV v)]) = some (.bool b) ∧ (b = true → szV v ≤ 1073741824) := by
  obtain ⟨r, q1, q2, q3, q4⟩ := left_is v 20 200 (by omega) (by omega) (by omega) (by omega)
  rw [law09_Few.f_eq, law08_Few.f_eq, q1]
  simp only [someB, asI_, asB_]
  by_cases hr : 0 ≤ r
  · have hz : szV v ≤ 1073741824 := by have := q4 hr; omega
    rw [decide_eq_true hr, ifT, wt8_is 1073741824 v hz (Nat.le_refl _)]
    exact ⟨_, rfl, fun _ => hz⟩
  · rw [decide_eq_false hr, ifF]
    exact ⟨_, rfl, fun h => by cases h⟩
end Go.Proofs.YtffojfcinkihnaaDoor.Lat
