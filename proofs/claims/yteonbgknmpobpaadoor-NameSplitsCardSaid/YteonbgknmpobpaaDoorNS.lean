/- Which lists are short; the document's paths; lists alike. -/
import Derived.Test.YteonbgknmpobpaaDoorNQ
namespace Go.Proofs.YteonbgknmpobpaaDoor.NS
open Go.RowKit Go.Proofs.YteonbgknmpobpaaDoorW.PrintWords Go.Proofs.YteonbgknmpobpaaDoorW.PrintLast Go.Proofs.YteonbgknmpobpaaDoorW.PrintMore
open Go.Proofs.YteonbgknmpobpaaDoor.NX Go.Proofs.YteonbgknmpobpaaDoor.NW Go.Proofs.YteonbgknmpobpaaDoor.NR Go.Proofs.YteonbgknmpobpaaDoor.NP Go.Proofs.YteonbgknmpobpaaDoor.NQ
set_option linter.unusedVariables false

theorem wrapS {i n : Nat} (h : i < n) (hn : n ≤ 4611686018427387904) : wrap64 ((i : Int) + 1) = ((i + 1 : Nat) : Int) := by unfold wrap64; omega
theorem rd_n (l : List B) (i : Nat) : rdOf ByteArray.empty l (i : Int) = nth l i := rd_nth l i

theorem few_loop (l : List B) (hs : ∀ i, i < l.length → (nth l i).size ≤ 4611686018427387904) (d : Nat) : ∀ (k i n : Nat), i + d = l.length → d < k → l.length ≤ 4611686018427387904 →
    ∃ r, treillagelaw02_few.l0 k l (n : Int) (i : Int) = some r ∧ (r = true → n ≤ 400 ∧ ∀ j, i ≤ j → j < l.length → (nth l j).size ≤ 400) := by
  induction d with
  | zero =>
    intro k i n hi hk hl
    obtain ⟨k, rfl⟩ : ∃ m, k = m + 1 := ⟨k - 1, by omega⟩
    refine ⟨decide (n ≤ 400), ?_, fun h => ⟨of_decide_eq_true h, fun j h1 h2 => by omega⟩⟩
    simp only [treillagelaw02_few.l0]
    rw [if_neg (by omega)]
    exact congrArg some (decide_eq_decide.2 (by omega))
  | succ d ih =>
    intro k i n hi hk hl
    obtain ⟨k, rfl⟩ : ∃ m, k = m + 1 := ⟨k - 1, by omega⟩
    simp only [treillagelaw02_few.l0]
    rw [if_pos (by omega)]
    by_cases hn : n ≤ 400
    · have hz := hs i (by omega)
      rw [if_pos (by omega), if_pos (by omega), rd_n, wrapS (n := l.length) (by omega) hl, show wrap64 ((n : Int) + ((nth l i).size : Int)) = ((n + (nth l i).size : Nat) : Int) from by unfold wrap64; omega]
      obtain ⟨r, e, h⟩ := ih k (i + 1) (n + (nth l i).size) (by omega) (by omega) hl
      refine ⟨r, e, fun hr => ⟨hn, fun j h1 h2 => ?_⟩⟩
      have := h hr
      by_cases hj : j = i
      · subst hj; omega
      · exact this.2 j (by omega) h2
    · rw [if_neg (by omega)]
      exact ⟨decide ((n : Int) ≤ 400), rfl, fun h => absurd (of_decide_eq_true h) (by omega)⟩
theorem few_is (l : List B) (hs : ∀ i, i < l.length → (nth l i).size ≤ 4611686018427387904) (hl : l.length ≤ 4611686018427387904) :
    ∃ r, treillagelaw02_few.f (l.length + 1) l = some r ∧ (r = true → l.length ≤ 400 ∧ ∀ j, j < l.length → (nth l j).size ≤ 400) := by
  obtain ⟨r, e, h⟩ := few_loop l hs l.length (l.length + 1) 0 l.length (by omega) (by omega) hl
  exact ⟨r, e, fun hr => ⟨(h hr).1, fun j hj => (h hr).2 j (Nat.zero_le _) hj⟩⟩

theorem refPath_loop (l : List B) (hs : ∀ i, i < l.length → (nth l i).size ≤ 400) (hl : l.length ≤ 4611686018427387904) (d : Nat) : ∀ (k i : Nat), i + d = l.length → d + 403 < k → upTo (pathF l) i = true →
    treillageref02_Path.l0 k l (i : Int) = some (pathV l) := by
  induction d with
  | zero =>
    intro k i hi hk hu
    obtain ⟨k, rfl⟩ : ∃ m, k = m + 1 := ⟨k - 1, by omega⟩
    obtain rfl : i = l.length := by omega
    simp only [treillageref02_Path.l0]
    rw [if_neg (by omega)]
    unfold pathV
    rw [hu, Bool.and_true]
    by_cases h : 1 ≤ l.length
    · rw [if_pos (by omega), decide_eq_true h, Bool.true_and]
      exact congrArg some (decide_eq_decide.2 (by omega))
    · rw [if_neg (by omega), decide_eq_false h, Bool.false_and]
  | succ d ih =>
    intro k i hi hk hu
    obtain ⟨k, rfl⟩ : ∃ m, k = m + 1 := ⟨k - 1, by omega⟩
    simp only [treillageref02_Path.l0]
    have hz := hs i (by omega)
    rw [if_pos (by omega), if_pos (by omega), rd_n, refRight_is _ (by omega) k (by omega)]
    simp only [Option.bind_some]
    cases hr : rightV (nth l i).data.toList
    · rw [if_neg (by simp), pathV_no l i (by omega) hr]
    · rw [if_pos rfl, wrapS (n := l.length) (by omega) hl]
      exact ih k (i + 1) (by omega) (by omega) (by rw [upTo_succ, hu]; exact hr)
theorem refPath_is (l : List B) (hs : ∀ i, i < l.length → (nth l i).size ≤ 400) (hl : l.length ≤ 4611686018427387904) (k : Nat) (hk : l.length + 403 < k) : treillageref02_Path.f k l = some (pathV l) :=
  refPath_loop l hs hl l.length k 0 (by omega) hk rfl

def sameF (a b : List B) (i : Nat) : Bool := (nth a i).toList == (nth b i).toList
def sameV (a b : List B) : Bool := decide (a.length = b.length) && upTo (sameF a b) a.length
theorem same_loop (a b : List B) (he : a.length = b.length) (hl : a.length ≤ 4611686018427387904) (d : Nat) : ∀ (k i : Nat), i + d = a.length → d < k → upTo (sameF a b) i = true →
    treillageref02_Same.l0 k a b (i : Int) = some (upTo (sameF a b) a.length) := by
  induction d with
  | zero =>
    intro k i hi hk hu
    obtain ⟨k, rfl⟩ : ∃ m, k = m + 1 := ⟨k - 1, by omega⟩
    obtain rfl : i = a.length := by omega
    simp only [treillageref02_Same.l0]
    rw [if_neg (by omega), hu]
  | succ d ih =>
    intro k i hi hk hu
    obtain ⟨k, rfl⟩ : ∃ m, k = m + 1 := ⟨k - 1, by omega⟩
    simp only [treillageref02_Same.l0]
    rw [if_pos (by omega), if_pos (by omega), if_pos (by omega), rd_n, rd_n]
    by_cases hc : (nth a i).toList = (nth b i).toList
    · rw [if_pos hc, wrapS (n := a.length) (by omega) hl]
      exact ih k (i + 1) (by omega) (by omega) (by rw [upTo_succ, hu]; exact beq_iff_eq.2 hc)
    · rw [if_neg hc, upTo_false (f := sameF a b) (j := i) (by omega) (beq_eq_false_iff_ne.2 hc)]
theorem same_is (a b : List B) (hl : a.length ≤ 4611686018427387904) : treillageref02_Same.f (a.length + 1) a b = some (sameV a b) := by
  unfold treillageref02_Same.f sameV
  by_cases he : a.length = b.length
  · rw [if_pos (by omega), decide_eq_true he, Bool.true_and]
    exact same_loop a b he hl a.length _ 0 (by omega) (by omega) rfl
  · rw [if_neg (by omega), decide_eq_false he, Bool.false_and]

theorem nth_eq {a b : List B} {i : Nat} (h : i < a.length) (h2 : i < b.length) (e : (nth a i).toList = (nth b i).toList) : a[i] = b[i] := by
  have e1 : nth a i = a[i] := by unfold nth; rw [List.getD_eq_getElem?_getD, List.getElem?_eq_getElem h]; rfl
  have e2 : nth b i = b[i] := by unfold nth; rw [List.getD_eq_getElem?_getD, List.getElem?_eq_getElem h2]; rfl
  rw [e1, e2, Lib.toList_data, Lib.toList_data] at e
  generalize a[i] = x at e
  generalize b[i] = y at e
  cases x; cases y
  simp at e
  rw [e]
theorem same_self (a : List B) : sameV a a = true := by
  unfold sameV upTo
  rw [decide_eq_true rfl, Bool.true_and, List.all_eq_true]
  intro i hi
  exact beq_iff_eq.2 rfl
end Go.Proofs.YteonbgknmpobpaaDoor.NS
