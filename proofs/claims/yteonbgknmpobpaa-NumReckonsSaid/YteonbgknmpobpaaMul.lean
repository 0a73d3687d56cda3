/- Products: the program's, by a bound on the sizes, and the document's, bit by bit. -/
import Derived.Test.YteonbgknmpobpaaBackWalk
import Derived.Test.YteonbgknmpobpaaPNumReckonsx1
import Derived.Test.YteonbgknmpobpaaPNumReckonsx3
import Derived.Test.YteonbgknmpobpaaSums
namespace Go.Proofs.Yteonbgknmpobpaa.Mul
open Go.RowKit Go.Proofs.YteonbgknmpobpaaW.PrintWords Go.Proofs.YteonbgknmpobpaaW.PrintLast Go.Proofs.YteonbgknmpobpaaW.PrintMore
open Go.Proofs.Yteonbgknmpobpaa.Num Go.Proofs.Yteonbgknmpobpaa.NT Go.Proofs.Yteonbgknmpobpaa.Txt Go.Proofs.Yteonbgknmpobpaa.Back Go.Proofs.Yteonbgknmpobpaa.BackWalk
open Go.Proofs.Yteonbgknmpobpaa.PNumReckons
attribute [local go_sem] max2_int min2_int max_two min_two
set_option linter.unusedVariables false

def mulV (a b : Int) : Int × Int := if inB a && inB b then (if (a * b).natAbs ≤ 9007199254740992 then (a * b, 0) else (0, 25)) else (0, 9)

/-! ### The document's product -/
def endV (below : Bool) (p : Int) : Int × Int := if p > 9007199254740992 then (0, 25) else (if below then -p else p, 0)
theorem ref_loop (below : Bool) (d : Nat) : ∀ (k : Nat) (i : Nat) (x xt y sum : Int), i + d = 54 → 3 * d < k → 0 ≤ xt → x = (if xt ≤ 36028797018963968 then xt else 36028797018963968) → 0 ≤ y → y < 2 ^ d → 0 ≤ sum → sum ≤ 9007199254740992 →
    treillageref01_Mul.l0 k x y below sum (i : Int) = some (endV below (sum + xt * y)) := by
  induction d with
  | zero =>
    intro k i x xt y sum hi hk hxt hx hy hy2 hs hs2
    obtain ⟨k, rfl⟩ : ∃ m, k = m + 1 := ⟨k - 1, by omega⟩
    obtain rfl : y = 0 := by have : (2 : Int) ^ 0 = 1 := rfl; omega
    simp only [treillageref01_Mul.l0]
    rw [if_neg (by omega), Int.mul_zero, Int.add_zero]
    unfold endV
    rw [if_neg (show ¬ sum > 9007199254740992 by omega)]
    cases below
    · rfl
    · rw [if_pos rfl, if_pos rfl, wrap_in (by omega)]
  | succ d ih =>
    intro k i x xt y sum hi hk hxt hx hy hy2 hs hs2
    obtain ⟨k, rfl⟩ : ∃ m, k = m + 3 := ⟨k - 3, by omega⟩
    have hx0 : 0 ≤ x ∧ x ≤ 36028797018963968 ∧ x ≤ xt := by rw [hx]; split <;> omega
    have hy3 : y / 2 < 2 ^ d := by rw [Int.pow_succ] at hy2; omega
    simp only [treillageref01_Mul.l0, treillageref01_Mul.j4, treillageref01_Mul.j5]
    rw [if_pos (by omega), Int.tmod_eq_emod_of_nonneg hy, Int.tdiv_eq_ediv_of_nonneg hy]
    have hy54 : y < 2 ^ 54 := by
      refine Int.lt_of_lt_of_le hy2 ?_
      have := Nat.pow_le_pow_right (n := 2) (by decide) (show d + 1 ≤ 54 by omega)
      exact_mod_cast this
    have hy54' : y < 18014398509481984 := hy54
    rw [wrap_in (x := y / 2) (by omega), wrap_in (x := x * 2) (by omega), wrap_in (x := (i : Int) + 1) (by omega), wrap_in (x := sum + x) (by omega)]
    have hnext : ∀ (x' sum' : Int), x' = (if x * 2 > 36028797018963968 then 36028797018963968 else x * 2) → 0 ≤ sum' → sum' ≤ 9007199254740992 → sum' + (xt * 2) * (y / 2) = sum + xt * y → (if x * 2 > 36028797018963968 then treillageref01_Mul.l0 k 36028797018963968 (y / 2) below sum' ((i : Int) + 1) else treillageref01_Mul.l0 k (x * 2) (y / 2) below sum' ((i : Int) + 1)) = some (endV below (sum + xt * y)) := by
      intro x' sum' hx' h1 h2 h3
      have := ih k (i + 1) x' (xt * 2) (y / 2) sum' (by omega) (by omega) (by omega) (by rw [hx', hx]; split <;> split <;> (try split) <;> omega) (by omega) hy3 h1 h2
      rw [h3] at this
      rw [← this, hx']
      split <;> rfl
    have hover : sum + xt * y > 9007199254740992 → some ((0 : Int), (25 : Int)) = some (endV below (sum + xt * y)) := by
      intro h; unfold endV; rw [if_pos h]
    have hmul : xt * y = (xt * 2) * (y / 2) + xt * (y % 2) := by
      have e : y = 2 * (y / 2) + y % 2 := by omega
      calc xt * y = xt * (2 * (y / 2) + y % 2) := by rw [← e]
        _ = xt * (2 * (y / 2)) + xt * (y % 2) := Int.mul_add _ _ _
        _ = (xt * 2) * (y / 2) + xt * (y % 2) := by rw [Int.mul_assoc]
    have hpos : 0 ≤ (xt * 2) * (y / 2) := Int.mul_nonneg (by omega) (by omega)
    have hbig : y / 2 > 0 → xt * 2 ≤ (xt * 2) * (y / 2) := by
      intro h
      calc xt * 2 = (xt * 2) * 1 := by omega
        _ ≤ _ := Int.mul_le_mul_of_nonneg_left (by omega) (by omega)
    by_cases hb : y % 2 = 1
    · rw [hb, Int.mul_one] at hmul
      rw [if_pos hb]
      by_cases h1 : sum + x > 9007199254740992
      · rw [if_pos h1, if_pos trivial]; exact hover (by omega)
      · rw [if_neg h1]
        have hxx : x = xt := by rw [hx]; rw [hx] at h1; split <;> (rename_i hh; first | rfl | (rw [if_neg hh] at h1; omega))
        by_cases h2 : y / 2 > 0
        · rw [if_pos h2]
          by_cases h3 : x > 9007199254740992
          · rw [if_pos (decide_eq_true h3)]; exact hover (by omega)
          · rw [if_neg (by simpa using h3)]; exact hnext _ _ rfl (by omega) (by omega) (by omega)
        · rw [if_neg h2, if_neg (by decide)]; exact hnext _ _ rfl (by omega) (by omega) (by omega)
    · have hb0 : y % 2 = 0 := by omega
      rw [hb0, Int.mul_zero] at hmul
      rw [if_neg (by omega), if_neg (by omega)]
      by_cases h2 : y / 2 > 0
      · rw [if_pos h2]
        by_cases h3 : x > 9007199254740992
        · rw [if_pos (decide_eq_true h3)]; exact hover (by have := hbig h2; omega)
        · rw [if_neg (by simpa using h3)]; exact hnext _ _ rfl hs hs2 (by omega)
      · rw [if_neg h2, if_neg (by decide)]; exact hnext _ _ rfl hs hs2 (by omega)
theorem in4_is (n : Int) : PNumReckons.treillageref01_In.f n = some (inB n) := in_is n
theorem natAbs_mul' (a b : Int) : ((a * b).natAbs : Int) = (a.natAbs : Int) * (b.natAbs : Int) := by rw [Int.natAbs_mul]; exact Int.natCast_mul _ _
theorem end_is (a b : Int) (below : Bool) (h : below = (decide (a < 0) != decide (b < 0))) : endV below (0 + (a.natAbs : Int) * (b.natAbs : Int)) = if (a * b).natAbs ≤ 9007199254740992 then (a * b, 0) else (0, 25) := by
  have hn := natAbs_mul' a b
  rw [Int.zero_add, ← hn]
  unfold endV
  by_cases hm : (a * b).natAbs ≤ 9007199254740992
  · rw [if_pos hm, if_neg (by omega)]
    have e : (if below = true then -((a * b).natAbs : Int) else ((a * b).natAbs : Int)) = a * b := by
      by_cases ha : a < 0 <;> by_cases hb : b < 0
      · rw [h, decide_eq_true ha, decide_eq_true hb]
        have := Int.mul_nonneg (a := -a) (b := -b) (by omega) (by omega)
        rw [Int.neg_mul_neg] at this
        simp; omega
      · rw [h, decide_eq_true ha, decide_eq_false hb]
        have := Int.mul_nonneg (a := -a) (b := b) (by omega) (by omega)
        rw [Int.neg_mul] at this
        simp; omega
      · rw [h, decide_eq_false ha, decide_eq_true hb]
        have := Int.mul_nonneg (a := a) (b := -b) (by omega) (by omega)
        rw [Int.mul_neg] at this
        simp; omega
      · rw [h, decide_eq_false ha, decide_eq_false hb]
        have := Int.mul_nonneg (a := a) (b := b) (by omega) (by omega)
        simp; omega
    rw [e]
  · rw [if_neg hm, if_pos (by omega)]
theorem refMul_is (a b : Int) : treillageref01_Mul.f 200 a b = some (mulV a b) := by
  unfold treillageref01_Mul.f mulV
  rw [in4_is, in4_is]
  simp only [Option.bind_some]
  by_cases ha : inB a = true
  · by_cases hb : inB b = true
    · have h1 := in_iff.1 ha
      have h2 := in_iff.1 hb
      rw [if_pos ha, ha, hb]
      simp only [treillageref01_Mul.j0, treillageref01_Mul.j1, treillageref01_Mul.j2, Bool.not_true, Bool.false_eq_true, if_false, Bool.and_self, if_true, Bool.not_false]
      have hp : (2 : Int) ^ 54 = 18014398509481984 := by decide
      have L : ∀ below, treillageref01_Mul.l0 197 (a.natAbs : Int) (b.natAbs : Int) below 0 0 = some (endV below (0 + (a.natAbs : Int) * (b.natAbs : Int))) := fun below =>
        ref_loop below 54 197 0 (a.natAbs : Int) (a.natAbs : Int) (b.natAbs : Int) 0 (by omega) (by omega) (by omega) (by rw [if_pos (by omega)]) (by omega) (by rw [hp]; omega) (by omega) (by omega)
      by_cases ha0 : a < 0 <;> by_cases hb0 : b < 0
      · rw [if_pos ha0, if_pos hb0, wrap_in (x := -a) (by omega), wrap_in (x := -b) (by omega), show -a = (a.natAbs : Int) by omega, show -b = (b.natAbs : Int) by omega, L, end_is a b false (by rw [decide_eq_true ha0, decide_eq_true hb0]; rfl)]
      · rw [if_pos ha0, if_neg hb0, wrap_in (x := -a) (by omega), show -a = (a.natAbs : Int) by omega]
        have e : b = (b.natAbs : Int) := by omega
        have := L true
        rw [← e] at this
        rw [this]
        have := end_is a b true (by rw [decide_eq_true ha0, decide_eq_false (by omega)]; rfl)
        rw [← e] at this
        rw [this]
      · rw [if_neg ha0, if_pos hb0, wrap_in (x := -b) (by omega), show -b = (b.natAbs : Int) by omega]
        have e : a = (a.natAbs : Int) := by omega
        have := L true
        rw [← e] at this
        rw [this]
        have := end_is a b true (by rw [decide_eq_true hb0, decide_eq_false (by omega)]; rfl)
        rw [← e] at this
        rw [this]
      · rw [if_neg ha0, if_neg hb0]
        have e : a = (a.natAbs : Int) := by omega
        have e2 : b = (b.natAbs : Int) := by omega
        have := L false
        rw [← e, ← e2] at this
        rw [this]
        have := end_is a b false (by rw [decide_eq_false hb0, decide_eq_false ha0]; rfl)
        rw [← e, ← e2] at this
        rw [this]
    · rw [Bool.not_eq_true] at hb
      rw [if_pos ha, ha, hb]
      simp only [treillageref01_Mul.j0, Bool.not_false, if_true, Bool.and_false, Bool.false_eq_true, if_false]
  · rw [if_neg ha]
    rw [Bool.not_eq_true] at ha
    simp only [treillageref01_Mul.j0, if_true, ha, Bool.false_and, Bool.false_eq_true, if_false]
theorem refMul_any (a b : Int) (w : World) : Calls Try.prog 27 #[.int .i64 a, .int .i64 b] w fun e w' => e = .returned (.tuple #[.int .i64 (mulV a b).1, .int .i64 (mulV a b).2]) ∧ Drawn0 w w' :=
  treillageref01_Mul.calls 200 a b _ _ w (refMul_is a b)
theorem refAdd_any (a b : Int) (w : World) : Calls Try.prog 25 #[.int .i64 a, .int .i64 b] w fun e w' => e = .returned (.tuple #[.int .i64 (addV a b).1, .int .i64 (addV a b).2]) ∧ Drawn0 w w' :=
  PNumSums.treillageref01_Add.calls 1 a b _ _ w (Sums.refAdd_is 0 a b)

/-! ### The program's product -/
theorem ret_i {a b : Int} (h : a = b) : Ending.returned (.int .i64 a) = .returned (.int .i64 b) := by rw [h]
set_option maxHeartbeats 400000 in
theorem size_any (n : Int) (w : World) (h : -9007199254740992 ≤ n ∧ n ≤ 9007199254740992) : Calls Try.prog 33 #[.int .i64 n] w fun e w' => e = .returned (.int .i64 (n.natAbs : Int)) ∧ w = w' := by
  have h1 := h.1
  have h2 := h.2
  clear h
  go_enter Try.func33, Try.ntmps33
  go_wp2
  all_goals
    go_ret
    exact ⟨ret_i (by omega), rfl⟩

theorem quo_iff (u v : Nat) (hu : 1 ≤ u) : (9007199254740992 : Int) / (u : Int) < (v : Int) ↔ 9007199254740992 < u * v := by
  have h := Nat.div_lt_iff_lt_mul (x := 9007199254740992) (y := v) (k := u) (by omega)
  rw [Nat.mul_comm] at h
  rw [← h, show ((9007199254740992 : Int) / (u : Int)) = ((9007199254740992 / u : Nat) : Int) from rfl]
  omega
theorem bool_of {f : FuncId} {args : Array Value} {b c : Bool} {w : World} (h : Calls Try.prog f args w fun e w' => e = .returned (.bool b) ∧ Drawn0 w w') (e : b = c) : Calls Try.prog f args w fun e w' => e = .returned (.bool c) ∧ Drawn0 w w' := by subst e; exact h
theorem tup {x y : Int × Int} (h : x = y) : Ending.returned (.tuple #[.int .i64 x.1, .int .i64 x.2]) = .returned (.tuple #[.int .i64 y.1, .int .i64 y.2]) := by rw [h]
theorem drew2 (w : World) (a b : Nat) : Drawn0 w ((w.drewN a).drewN b) := (Drawn0.step (Drawn0.step (Drawn0.refl _) a) b)
theorem drew1 (w : World) (a : Nat) : Drawn0 w (w.drewN a) := (Drawn0.step (Drawn0.refl _) a)
set_option maxHeartbeats 1000000 in
theorem mul_any (a b : Int) (w : World) : Calls Try.prog 26 #[.int .i64 a, .int .i64 b] w fun e w' => e = .returned (.tuple #[.int .i64 (mulV a b).1, .int .i64 (mulV a b).2]) ∧ Drawn0 w w' := by
  by_cases ha : inB a = true
  · have C1 := Lib.hid fun w => bool_of (in_any a w) ha
    by_cases hb : inB b = true
    · have C2 := Lib.hid fun w => bool_of (in_any b w) hb
      have h1 := in_iff.1 ha
      have h2 := in_iff.1 hb
      have HM : Hid (mulV a b = if (a * b).natAbs ≤ 9007199254740992 then (a * b, 0) else (0, 25)) := Lib.hid (by unfold mulV; rw [ha, hb]; rfl)
      by_cases h0 : a = 0
      · subst h0
        clear ha hb
        go_enter Try.func26, Try.ntmps26
        go_wp2_with fail
        refine (C1.out _).mono ?_
        rintro e w1 ⟨rfl, ⟨n1, rfl⟩⟩
        go_wp2_with fail
        refine (C2.out _).mono ?_
        rintro e w2 ⟨rfl, ⟨n2, rfl⟩⟩
        go_wp2_with fail
        go_ret2
        exact ⟨by rw [HM.out]; simp, drew1 _ _⟩
      · have C3 := Lib.hid fun w => size_any a w h1
        have C4 := Lib.hid fun w => size_any b w h2
        have hu : 1 ≤ a.natAbs ∧ a.natAbs ≤ 9007199254740992 := by omega
        have hv : b.natAbs ≤ 9007199254740992 := by omega
        have HN := Lib.hid (Int.natAbs_mul a b)
        have h00 : (a == 0) = false := beq_eq_false_iff_ne.mpr h0
        have h01 : (a != 0) = true := bne_iff_ne.mpr h0
        generalize hgu : a.natAbs = u at C3 hu HN
        generalize hgv : b.natAbs = v at C4 hv HN
        have hu1 := hu.1
        have hu2 := hu.2
        have hq := quo_iff u v hu1
        have hq0 : 0 ≤ (9007199254740992 : Int) / (u : Int) ∧ (9007199254740992 : Int) / (u : Int) ≤ 9007199254740992 := ⟨Int.ediv_nonneg (by omega) (by omega), Int.ediv_le_self _ (by omega)⟩
        have hqa := hq0.1
        have hqb := hq0.2
        have hun : ((u : Int) == 0) = false := by rw [beq_eq_false_iff_ne]; omega
        clear hgu hgv h0 ha hb hu hq0
        by_cases hc : 9007199254740992 < u * v
        · have hc1 : decide ((9007199254740992 : Int) / (u : Int) < (v : Int)) = true := decide_eq_true (hq.2 hc)
          have hc2 : (9007199254740992 : Int) / (u : Int) < (v : Int) := hq.2 hc
          have HC := Lib.hid hc
          clear hq hc
          go_enter Try.func26, Try.ntmps26
          go_wp2_with fail
          refine (C1.out _).mono ?_
          rintro e w1 ⟨rfl, ⟨n1, rfl⟩⟩
          go_wp2_with fail
          refine (C2.out _).mono ?_
          rintro e w2 ⟨rfl, ⟨n2, rfl⟩⟩
          go_wp2_with fail
          refine (C4.out _).mono ?_
          rintro e w3 ⟨rfl, rfl⟩
          go_wp2_with fail
          refine (C3.out _).mono ?_
          rintro e w3 ⟨rfl, rfl⟩
          go_wp2_with fail
          go_ret2
          exact ⟨by rw [HM.out, HN.out, if_neg (by have := HC.out; omega)]; rfl, drew1 _ _⟩
        · have hc1 : decide ((9007199254740992 : Int) / (u : Int) < (v : Int)) = false := decide_eq_false (fun h => hc (hq.1 h))
          have hc2 : (v : Int) ≤ (9007199254740992 : Int) / (u : Int) := by
            rcases Int.lt_or_le ((9007199254740992 : Int) / (u : Int)) (v : Int) with h | h
            · exact absurd (hq.1 h) hc
            · exact h
          have HC := Lib.hid hc
          have hp : -9223372036854775808 ≤ a * b ∧ a * b ≤ 9223372036854775807 := by have := HN.out; omega
          have hp1 := hp.1
          have hp2 := hp.2
          clear hq hc hp
          go_enter Try.func26, Try.ntmps26
          go_wp2_with fail
          refine (C1.out _).mono ?_
          rintro e w1 ⟨rfl, ⟨n1, rfl⟩⟩
          go_wp2_with fail
          refine (C2.out _).mono ?_
          rintro e w2 ⟨rfl, ⟨n2, rfl⟩⟩
          go_wp2_with fail
          refine (C4.out _).mono ?_
          rintro e w3 ⟨rfl, rfl⟩
          go_wp2_with fail
          refine (C3.out _).mono ?_
          rintro e w3 ⟨rfl, rfl⟩
          go_wp2_with fail
          go_ret2
          exact ⟨by rw [HM.out, HN.out, if_pos (by have := HC.out; omega)]; rfl, drew1 _ _⟩
    · rw [Bool.not_eq_true] at hb
      have C2 := Lib.hid fun w => bool_of (in_any b w) hb
      have HM : Hid (mulV a b = (0, 9)) := Lib.hid (by unfold mulV; rw [ha, hb]; rfl)
      clear ha hb
      go_enter Try.func26, Try.ntmps26
      go_wp2_with fail
      refine (C1.out _).mono ?_
      rintro e w1 ⟨rfl, ⟨n1, rfl⟩⟩
      go_wp2_with fail
      refine (C2.out _).mono ?_
      rintro e w2 ⟨rfl, ⟨n2, rfl⟩⟩
      go_wp2_with fail
      go_ret2
      exact ⟨by rw [HM.out]; rfl, drew1 _ _⟩
  · rw [Bool.not_eq_true] at ha
    have C1 := Lib.hid fun w => bool_of (in_any a w) ha
    have HM : Hid (mulV a b = (0, 9)) := Lib.hid (by unfold mulV; rw [ha]; rfl)
    clear ha
    go_enter Try.func26, Try.ntmps26
    go_wp2_with fail
    refine (C1.out _).mono ?_
    rintro e w1 ⟨rfl, ⟨n1, rfl⟩⟩
    go_wp2_with fail
    go_ret2
    exact ⟨by rw [HM.out]; rfl, drew1 _ _⟩
end Go.Proofs.Yteonbgknmpobpaa.Mul
