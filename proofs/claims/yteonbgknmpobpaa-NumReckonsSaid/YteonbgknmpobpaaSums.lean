/- A list's sum, as the program and the document reckon it; the walk of NumSums. -/
import Derived.Test.YteonbgknmpobpaaBack
import Derived.Test.YteonbgknmpobpaaPNumSumsx
namespace Go.Proofs.Yteonbgknmpobpaa.Sums
open Go.RowKit Go.Proofs.YteonbgknmpobpaaW.PrintWords Go.Proofs.YteonbgknmpobpaaW.PrintLast Go.Proofs.YteonbgknmpobpaaW.PrintMore
open Go.Proofs.Yteonbgknmpobpaa.Num Go.Proofs.Yteonbgknmpobpaa.NT Go.Proofs.Yteonbgknmpobpaa.Txt Go.Proofs.Yteonbgknmpobpaa.Back
open Go.Proofs.Yteonbgknmpobpaa.PNumSums
set_option linter.unusedVariables false

def sumV (n : Int) : List Int → Int × Int
  | [] => (n, 0)
  | x :: r => if (addV n x).2 = 0 then sumV (addV n x).1 r else (0, (addV n x).2)
theorem add3_is (a b : Int) : PNumSums.num_Add.f a b = some (addV a b) := add_is a b
theorem refIn3_is (n : Int) : PNumSums.treillageref01_In.f n = some (inB n) := in_is n
theorem refAdd_is (k : Nat) (a b : Int) : treillageref01_Add.f (k + 1) a b = some (addV a b) := by
  unfold treillageref01_Add.f addV
  rw [refIn3_is, refIn3_is]
  simp only [Option.bind_some]
  by_cases ha : inB a = true
  · by_cases hb : inB b = true
    · have h1 := in_iff.1 ha
      have h2 := in_iff.1 hb
      rw [if_pos ha, ha, hb]
      simp only [treillageref01_Add.j0, Bool.not_true, Bool.false_eq_true, if_false, Bool.and_self, if_true]
      rw [wrap_in (by omega), refIn3_is]
      simp only [Option.bind_some]
      cases inB (a + b) <;> rfl
    · rw [Bool.not_eq_true] at hb
      rw [if_pos ha, ha, hb]
      simp only [treillageref01_Add.j0, Bool.not_false, if_true, Bool.and_false, Bool.false_eq_true, if_false]
  · rw [if_neg ha]
    rw [Bool.not_eq_true] at ha
    simp only [treillageref01_Add.j0, if_true, ha, Bool.false_and, Bool.false_eq_true, if_false]
theorem rd_drop (l : List Int) (i : Nat) (h : i < l.length) : l.drop i = rd l (i : Int) :: l.drop (i + 1) := by
  rw [List.drop_eq_getElem_cons h]
  unfold rd
  rw [Int.toNat_natCast, List.getD_eq_getElem?_getD, List.getElem?_eq_getElem h]; rfl
theorem sum_loop (l : List Int) (hl : l.length ≤ 140737488351232) (d : Nat) : ∀ (k i : Nat) (n : Int), i + d = l.length → d < k →
    num_Sum.l0 k n l (l.length : Int) (i : Int) = some (sumV n (l.drop i)) := by
  induction d with
  | zero =>
    intro k i n hi hk
    obtain ⟨k, rfl⟩ : ∃ m, k = m + 1 := ⟨k - 1, by omega⟩
    simp only [num_Sum.l0]
    rw [if_neg (by omega), List.drop_eq_nil_of_le (by omega)]; rfl
  | succ d ih =>
    intro k i n hi hk
    obtain ⟨k, rfl⟩ : ∃ m, k = m + 1 := ⟨k - 1, by omega⟩
    simp only [num_Sum.l0]
    rw [if_pos (by omega), if_pos (by omega), if_pos (by omega), add3_is, rd_drop l i (by omega)]
    simp only [Option.bind_some, sumV]
    by_cases h : (addV n (rd l (i : Int))).2 = 0
    · rw [if_pos h, if_pos h, wrap_succ (n := l.length) (by omega) hl, ih k (i + 1) _ (by omega) (by omega)]
    · rw [if_neg h, if_neg h]
theorem refSum_loop (l : List Int) (hl : l.length ≤ 140737488351232) (d : Nat) : ∀ (k i : Nat) (n : Int), i + d = l.length → d + 1 < k →
    treillageref01_Sum.l0 k l n (i : Int) = some (sumV n (l.drop i)) := by
  induction d with
  | zero =>
    intro k i n hi hk
    obtain ⟨k, rfl⟩ : ∃ m, k = m + 1 := ⟨k - 1, by omega⟩
    simp only [treillageref01_Sum.l0]
    rw [if_neg (by omega), List.drop_eq_nil_of_le (by omega)]; rfl
  | succ d ih =>
    intro k i n hi hk
    obtain ⟨k, rfl⟩ : ∃ m, k = m + 1 := ⟨k - 1, by omega⟩
    have ha : ∀ a b, treillageref01_Add.f k a b = some (addV a b) := fun a b => by
      obtain ⟨q, rfl⟩ : ∃ m, k = m + 1 := ⟨k - 1, by omega⟩
      exact refAdd_is q a b
    simp only [treillageref01_Sum.l0]
    rw [if_pos (by omega), if_pos (by omega), ha, rd_drop l i (by omega)]
    simp only [Option.bind_some, sumV]
    by_cases h : (addV n (rd l (i : Int))).2 = 0
    · rw [if_pos h, if_pos h, wrap_succ (n := l.length) (by omega) hl, ih k (i + 1) _ (by omega) (by omega)]
    · rw [if_neg h, if_neg h]

set_option maxHeartbeats 1000000 in
theorem walk (a0 : Option Addr) (len0 cap0 : Nat) (z0 : List Int) (w : World)
    (w0 : (a0 = none ∧ len0 = 0 ∧ cap0 = 0 ∧ z0 = []) ∨ ∃ x, a0 = some x ∧ len0 ≤ cap0 ∧ cap0 ≤ maxLen ∧ z0.length = cap0 ∧ (∀ i, i < z0.length → w.cell? (x.add i) = some (.int .i64 (z0.getD i 0))) ∧ ∀ n ∈ z0, (Lit.int .i64 n).wf = true)
    (y0 : len0 * 8 ≤ 140737488351232) :
    Calls Try.prog 6 #[.slice a0 len0 cap0] w fun e w' => e = .returned (.bool true) ∧ Below w.heap.size w w' := by
  obtain ⟨l, rfl, hr, hm, hwf, hc⟩ := ReadsInt.ofRowC w0
  clear w0 hwf hm
  have HR := Aside0.mk hr
  clear hr
  by_cases hl : l.length > 200
  · go_enter Try.func6, Try.ntmps6
    go_wp2_with fail
    refine (awake_any _).mono ?_
    rintro e w1 ⟨rfl, hB⟩
    go_wp2_with fail
    go_ret
    exact ⟨rfl, hB⟩
  · have C1 := Lib.hid fun w1 (h : ReadsInt w1 .i64 a0 l.length l) => num_Sum.calls (l.length + 1) a0 cap0 l _ _ w1 (Kd.C_of_reads (d := (0 : Int)) (h1 := fun _ => rfl) h) hc (sum_loop l (by omega) l.length (l.length + 1) 0 0 (by omega) (by omega))
    have C2 := Lib.hid fun w1 (h : ReadsInt w1 .i64 a0 l.length l) => treillageref01_Sum.calls (l.length + 2) a0 cap0 l _ _ w1 (Kd.C_of_reads (d := (0 : Int)) (h1 := fun _ => rfl) h) hc (refSum_loop l (by omega) l.length (l.length + 2) 0 0 (by omega) (by omega))
    clear hc
    generalize sumV 0 (l.drop 0) = v at C1 C2
    obtain ⟨x, f⟩ := v
    simp only at C1 C2
    go_enter Try.func6, Try.ntmps6
    go_wp2_with fail
    refine (C1.out _ HR.out).mono ?_
    rintro e w1 ⟨rfl, ⟨n1, rfl⟩⟩
    go_wp2_with fail
    refine (C2.out _ (HR.out.below (pw_below_drewN (Below.refl _ _) _))).mono ?_
    rintro e w2 ⟨rfl, ⟨n2, rfl⟩⟩
    go_wp2_with fail
    refine (awake_any _).mono ?_
    rintro e w3 ⟨rfl, hB⟩
    go_wp2_with fail
    go_ret
    exact ⟨by first | rfl | simp, below_dr hB⟩
end Go.Proofs.Yteonbgknmpobpaa.Sums
