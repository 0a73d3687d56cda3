/- Several texts of mine in one (merge.py). -/
import Derived.Test.YtffojfcinkihnaaGreatDoorLawS
import Derived.Test.YtffojfcinkihnaaGreatDoorGD
set_option linter.unusedVariables false
set_option linter.unusedSimpArgs false
set_option linter.unusedSectionVars false
set_option linter.deprecated false
set_option linter.unnecessarySimpa false
/- Things: the same ones; few; names and lines; rings in the document. -/
namespace Go.Proofs.YtffojfcinkihnaaGreatDoor.Lat
open Go.Proofs.YtffojfcinkihnaaGreatDoor.Abs Go.Proofs.YtffojfcinkihnaaGreatDoor.Gr
set_option linter.unusedVariables false
/-! The same -/
theorem eqR_loop (a b : List Bs) (h : a.length = b.length) (hl : a.length ≤ 1073741824) : ∀ (d i : Nat), i + d = a.length → ref02_Same.l0 (.sl 1 (encD a)) (.sl 1 (encD b)) (.int .i64 (i : Int)) = some (.bool (decide (a.drop i = b.drop i)))
  | 0, i, hi => by rw [ref02_Same.l0_eq, encD_len, decide_eq_false (by omega), ifF, dropNil (by omega), dropNil (by omega)]; rfl
  | d + 1, i, hi => by
    have h1 : i < a.length := by omega
    have h2 : i < b.length := by omega
    have ih := eqR_loop a b h hl d (i + 1) (by omega)
    rw [ref02_Same.l0_eq, encD_len, decide_eq_true (by omega), ifT, idx_at (encD_at (List.getElem?_eq_getElem h1)), str0]
    simp only [asS_]
    rw [idx_at (encD_at (List.getElem?_eq_getElem h2)), str0]
    simp only [asS_]
    rw [dropCons h1, dropCons h2]
    by_cases he : a[i] = b[i]
    · rw [decide_eq_true he, Bool.not_true, ifF, w64_succ (by omega), ih, he]
      congr 2
      exact decide_eq_decide.2 (by rw [List.cons.injEq]; simp)
    · rw [decide_eq_false he, Bool.not_false, ifT, decide_eq_false (by rw [List.cons.injEq]; exact fun c => he c.1)]
theorem eqR_is (a b : List Bs) (hl : a.length ≤ 1073741824) : ref02_Same (.sl 1 (encD a)) (.sl 1 (encD b)) = some (.bool (decide (a = b))) := by
  rw [ref02_Same.f_eq, encD_len, encD_len]
  by_cases h : a.length = b.length
  · rw [decide_eq_true (by omega), Bool.not_true, ifF]
    have := eqR_loop a b h hl a.length 0 (by omega)
    rw [e00, List.drop_zero, List.drop_zero] at this
    exact this
  · rw [decide_eq_false (by omega), Bool.not_false, ifT, decide_eq_false (fun e => h (by rw [e]))]
/-- Small things. -/
structure SmTh (t : Th) : Prop where
  v : szV t.v ≤ 1073741824
  d : t.d.length ≤ 1000
  n : t.n.length ≤ 1000
def sameTh (t u : Th) : Bool := decide (t.n = u.n) && decide (cmpV t.v u.v = 0) && decide (t.d = u.d)
theorem same29_is {t u : Th} (ht : SmTh t) : ref29_Same (.agg 3 (encTh t)) (.agg 3 (encTh u)) = some (.bool (sameTh t u)) := by
  rw [ref29_Same.f_eq, th0]
  simp only [asS_, th0, th1, th2, frz, same8_is ht.v, asL1_, eqR_is t.d u.d (by have := ht.d; omega), someB, asB_]
  unfold sameTh
  cases decide (t.n = u.n) <;> cases decide (cmpV t.v u.v = 0) <;> rfl
def allSame : List Th → List Th → Bool
  | t :: a, u :: b => sameTh t u && allSame a b
  | _, _ => true
theorem things_loop (a b : List Th) (h : a.length = b.length) (hl : a.length ≤ 1073741824) (hs : ∀ t ∈ a, SmTh t) : ∀ (d i : Nat), i + d = a.length → ref29_Things.l0 (.sl 3 (encTs a)) (.sl 3 (encTs b)) (.int .i64 (i : Int)) = some (.bool (allSame (a.drop i) (b.drop i)))
  | 0, i, hi => by rw [ref29_Things.l0_eq, encTs_len, decide_eq_false (by omega), ifF, dropNil (by omega)]; rfl
  | d + 1, i, hi => by
    have h1 : i < a.length := by omega
    have h2 : i < b.length := by omega
    have ih := things_loop a b h hl hs d (i + 1) (by omega)
    rw [ref29_Things.l0_eq, encTs_len, decide_eq_true (by omega), ifT, idx_at (encTs_at (List.getElem?_eq_getElem h1)), idx_at (encTs_at (List.getElem?_eq_getElem h2)), same29_is (hs _ (List.getElem_mem h1)), dropCons h1, dropCons h2, allSame]
    simp only [someB, asB_]
    cases sameTh a[i] b[i] with
    | true => rw [Bool.not_true, ifF, w64_succ (by omega), ih, Bool.true_and]
    | false => rw [Bool.not_false, ifT, Bool.false_and]
theorem things_is (a b : List Th) (hl : a.length ≤ 1073741824) (hs : ∀ t ∈ a, SmTh t) : ref29_Things (.sl 3 (encTs a)) (.sl 3 (encTs b)) = some (.bool (decide (a.length = b.length) && allSame a b)) := by
  rw [ref29_Things.f_eq, encTs_len, encTs_len]
  by_cases h : a.length = b.length
  · rw [decide_eq_true (by omega), Bool.not_true, ifF, decide_eq_true h, Bool.true_and]
    have := things_loop a b h hl hs a.length 0 (by omega)
    rw [e00, List.drop_zero, List.drop_zero] at this
    exact this
  · rw [decide_eq_false (by omega), Bool.not_false, ifT, decide_eq_false h, Bool.false_and]
/-! Few -/
theorem few1_loop (ts : List Th) (i : Nat) (t : Th) (ht : ts[i]? = some t) (hd : t.d.length ≤ 20) (r : Option AV) (hr : law30_Few.l0 (.sl 3 (encTs ts)) (.int .i64 ((i + 1 : Nat) : Int)) = r) (hi : i ≤ 1000) : ∀ (d j : Nat), j + d = t.d.length → law30_Few.l1 (.sl 3 (encTs ts)) (.int .i64 (i : Int)) (.int .i64 (j : Int)) = some (.bool false) ∨ law30_Few.l1 (.sl 3 (encTs ts)) (.int .i64 (i : Int)) (.int .i64 (j : Int)) = r
  | 0, j, h => by
    right
    rw [law30_Few.l1_eq, idx_at (encTs_at ht), th2, asL1_, encD_len, decide_eq_false (by omega), ifF, w64_succ (by omega), hr]
  | d + 1, j, h => by
    have h1 : j < t.d.length := by omega
    have ih := few1_loop ts i t ht hd r hr hi d (j + 1) (by omega)
    rw [law30_Few.l1_eq, idx_at (encTs_at ht), th2, asL1_, encD_len, decide_eq_true (by omega), ifT, idx_at (encTs_at ht), th2, asL1_, idx_at (encD_at (List.getElem?_eq_getElem h1)), str0]
    simp only [asS_]
    by_cases hc : (100 : Int) < (t.d[j].length : Int)
    · rw [decide_eq_true hc, ifT]; exact .inl rfl
    · rw [decide_eq_false hc, ifF, w64_succ (by omega)]; exact ih
theorem few0_loop (ts : List Th) (hl : ts.length ≤ 12) : ∀ (d i : Nat), i + d = ts.length → ∃ b : Bool, law30_Few.l0 (.sl 3 (encTs ts)) (.int .i64 (i : Int)) = some (.bool b) ∧ (b = true → ∀ t ∈ ts.drop i, szV t.v ≤ 1073741824 ∧ t.d.length ≤ 20 ∧ t.n.length ≤ 100)
  | 0, i, h => ⟨true, by rw [law30_Few.l0_eq, encTs_len, decide_eq_false (by omega), ifF], fun _ => by rw [dropNil (by omega)]; simp⟩
  | d + 1, i, h => by
    have h1 : i < ts.length := by omega
    have e1 : ts[i]? = some ts[i] := List.getElem?_eq_getElem h1
    obtain ⟨b, hb, hq⟩ := few0_loop ts hl d (i + 1) (by omega)
    obtain ⟨b2, hb2, hz⟩ := few_is ts[i].v
    rw [law30_Few.l0_eq, encTs_len, decide_eq_true (by omega), ifT, idx_at (encTs_at e1), th0]
    simp only [asS_, idx_at (encTs_at e1), th1, th2, asL1_, encD_len, hb2, someB, asB_, orK]
    by_cases hn : (100 : Int) < (ts[i].n.length : Int)
    · rw [decide_eq_true hn]
      exact ⟨false, by simp [ifT, someB], fun c => by cases c⟩
    · rw [decide_eq_false hn, Bool.false_or]
      by_cases hd : (20 : Int) < (ts[i].d.length : Int)
      · rw [decide_eq_true hd]
        exact ⟨false, by simp [ifT, someB], fun c => by cases c⟩
      · rw [decide_eq_false hd, Bool.false_or]
        cases b2 with
        | false => exact ⟨false, rfl, fun c => by cases c⟩
        | true =>
          rw [Bool.not_true, ifF]
          have := few1_loop ts i ts[i] e1 (by omega) _ hb (by omega) ts[i].d.length 0 (by omega)
          rw [e00] at this
          rcases this with h0 | h0
          · exact ⟨false, h0, fun c => by cases c⟩
          · refine ⟨b, h0, fun hbt t ht => ?_⟩
            rw [dropCons h1] at ht
            rcases List.mem_cons.1 ht with rfl | ht
            · exact ⟨hz rfl, by omega, by omega⟩
            · exact hq hbt t ht
theorem fewT_is (ts : List Th) : ∃ b : Bool, law30_Few (.sl 3 (encTs ts)) = some (.bool b) ∧ (b = true → ts.length ≤ 12 ∧ ∀ t ∈ ts, SmTh t) := by
  rw [law30_Few.f_eq, encTs_len]
  by_cases h : (12 : Int) < (ts.length : Int)
  · rw [decide_eq_true h, ifT]; exact ⟨false, rfl, fun c => by cases c⟩
  · rw [decide_eq_false h, ifF]
    obtain ⟨b, hb, hq⟩ := few0_loop ts (by omega) ts.length 0 (by omega)
    rw [e00] at hb
    exact ⟨b, hb, fun hbt => ⟨by omega, fun t ht => by
      have := hq hbt t (by rw [List.drop_zero]; exact ht)
      exact ⟨this.1, by omega, by omega⟩⟩⟩
end Go.Proofs.YtffojfcinkihnaaGreatDoor.Lat
/- The document's rightness of a state. -/
namespace Go.Proofs.YtffojfcinkihnaaGreatDoor.Lat
open Go.Proofs.YtffojfcinkihnaaGreatDoor.Abs Go.Proofs.YtffojfcinkihnaaGreatDoor.Gr
set_option linter.unusedVariables false
def nmsT (ts : List Th) : List Bs := ts.map (·.n)
def tds (ts : List Th) : List Td := ts.map fun t => (t.n, t.d)
theorem nms_tds (ts : List Th) : nms (tds ts) = nmsT ts := by simp [nms, tds, nmsT]
/-! Names -/
/-! Lines -/
def linesOf (N : List Bs) (ts : List Th) : List (Bs × Bs) := ts.flatMap fun t => (t.d.filter fun s => decide (s ∈ N)).map fun s => (t.n, s)
/-! The ring -/
open Classical in
theorem ringB_true {ts : List Td} : ringB ts = true ↔ Ring ts := by unfold ringB; exact decide_eq_true_iff
/-! One thing -/
/-- A right value of one struct. -/
def kOne (v : List Tm) : Bool := okV Rn v && (match v with | [t] => decide (t.k = 4) | _ => false)
def gR (t : Th) : Bool := kOne t.v && (okV Rn t.v && seL false t.v) && risD t.d && !decide (t.n ∈ t.d)
end Go.Proofs.YtffojfcinkihnaaGreatDoor.Lat
