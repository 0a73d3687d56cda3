/- The document's text of a number, the example of the page, and what is written is read again. -/
import Derived.Test.YteonbgknmpobpaaNum
import Derived.Test.YteonbgknmpobpaaNT
namespace Go.Proofs.Yteonbgknmpobpaa.Txt
open Go.RowKit Go.Proofs.YteonbgknmpobpaaW.PrintWords Go.Proofs.YteonbgknmpobpaaW.PrintLast Go.Proofs.YteonbgknmpobpaaW.PrintMore
open Go.Proofs.Yteonbgknmpobpaa.PNumTexts Go.Proofs.Yteonbgknmpobpaa.Num Go.Proofs.Yteonbgknmpobpaa.NT
set_option linter.unusedVariables false

theorem dec_small {u : Nat} (h : u < 10) : Lib.decDigits u = [UInt8.ofNat (48 + u)] := Lib.decDigits_one h
theorem dec_big {u : Nat} (h : ¬ u < 10) : Lib.decDigits u = Lib.decDigits (u / 10) ++ [UInt8.ofNat (48 + u % 10)] := by rw [Lib.decDigits, dif_neg h]
theorem one (x : Int) (u : Nat) (h : x = (48 + u : Nat)) (hu : u < 10) : strOfNums [x % 256] = ⟨[UInt8.ofNat (48 + u)].toArray⟩ := by
  unfold strOfNums
  rw [h, show ((48 + u : Nat) : Int) % 256 = ((48 + u : Nat) : Int) by omega]
  rfl
theorem size_mk (l : List UInt8) : (⟨l.toArray⟩ : ByteArray).size = l.length := by simp [ByteArray.size]
theorem itoa_small (n : Int) (u : Nat) (hu : n.natAbs = u) (h : u < 18446744073709551616) : (Lib.itoa n).length ≤ 21 := by
  have := Lib.nDigits_le20 u h
  by_cases h0 : n < 0
  · rw [itoa_neg n h0, List.length_cons, Lib.decDigits_length, hu]; omega
  · rw [itoa_pos n h0, Lib.decDigits_length, show n.toNat = u by omega]; omega

theorem refText_is (m : Nat) : ∀ (n : Int) (k : Nat), n.natAbs ≤ m → -9223372036854775808 ≤ n → n ≤ 9223372036854775807 → 2 * m + 3 < k →
    treillageref01_Text.f k n = some ⟨(Lib.itoa n).toArray⟩ := by
  induction m using Nat.strongRecOn with
  | _ m ih =>
    intro n k hm h0 h1 hk
    obtain ⟨k, rfl⟩ : ∃ q, k = q + 2 := ⟨k - 2, by omega⟩
    simp only [treillageref01_Text.f, treillageref01_Text.j0]
    by_cases hp : n ≥ 0
    · rw [if_pos hp]
      obtain ⟨u, rfl⟩ := Int.eq_ofNat_of_zero_le hp
      rw [itoa_pos _ (by omega), Int.toNat_natCast]
      by_cases h10 : u < 10
      · rw [if_pos (by simp; omega), wrap_in (by omega), one _ u (by omega) h10, dec_small h10]
      · rw [if_neg (by simp; omega), if_pos (by omega), wrap_in (x := Int.tdiv (u : Int) 10) (by rw [Int.tdiv_eq_ediv_of_nonneg hp]; omega)]
        have e : Int.tdiv (u : Int) 10 = ((u / 10 : Nat) : Int) := by rw [Int.tdiv_eq_ediv_of_nonneg hp]; omega
        rw [e, ih (u / 10) (by omega) _ k (by omega) (by omega) (by omega) (by omega)]
        simp only [Option.bind_some]
        have e2 : wrap64 (48 + Int.tmod (u : Int) 10) = ((48 + u % 10 : Nat) : Int) := by
          rw [Int.tmod_eq_emod_of_nonneg hp, wrap_in (by omega)]; omega
        rw [e2, one _ (u % 10) rfl (by omega), itoa_pos _ (by omega), Int.toNat_natCast, size_mk, size_mk]
        have := Lib.nDigits_le20 (u / 10) (by omega)
        rw [if_pos (by rw [Lib.decDigits_length]; simp; omega), cat, dec_big h10]
    · rw [if_neg hp]
      obtain ⟨u, hu⟩ : ∃ u : Nat, n = -(u : Int) := ⟨n.natAbs, by omega⟩
      subst hu
      have hu0 : 0 < u := by omega
      rw [itoa_neg _ (by omega), show (-(u : Int)).natAbs = u by omega]
      have em : wrap64 (48 + wrap64 (-(Int.tmod (-(u : Int)) 10))) = ((48 + u % 10 : Nat) : Int) := by
        rw [Int.neg_tmod, Int.neg_neg, Int.tmod_eq_emod_of_nonneg (by omega), wrap_in (x := (u : Int) % 10) (by omega), wrap_in (by omega)]; omega
      rw [if_neg (by decide), if_neg (by omega), em]
      simp only [Option.bind_some]
      rw [one _ (u % 10) rfl (by omega), size_mk]
      by_cases h10 : u < 10
      · rw [if_pos (by omega), if_pos (by simp), cat [45] _, dec_small h10, Nat.mod_eq_of_lt h10]; rfl
      · have ed : wrap64 (Int.tdiv (-(u : Int)) 10) = -((u / 10 : Nat) : Int) := by
          rw [Int.neg_tdiv, Int.tdiv_eq_ediv_of_nonneg (by omega), wrap_in (by omega)]; omega
        rw [if_neg (by omega), ed, ih (u / 10) (by omega) _ k (by omega) (by omega) (by omega) (by omega)]
        simp only [Option.bind_some]
        rw [itoa_neg _ (by omega), show (-((u / 10 : Nat) : Int)).natAbs = u / 10 by omega, size_mk]
        have := Lib.nDigits_le20 (u / 10) (by omega)
        rw [if_pos (by rw [List.length_cons, Lib.decDigits_length]; simp; omega), cat, dec_big h10]; rfl
theorem refText_any (n : Int) (w : World) (h : -9223372036854775808 ≤ n ∧ n ≤ 9223372036854775807) :
    Calls Try.prog 19 #[.int .i64 n] w fun e w' => e = .returned (.string ⟨(Lib.itoa n).toArray⟩) ∧ Below w.heap.size w w' :=
  treillageref01_Text.calls _ n _ w (refText_is n.natAbs n (2 * n.natAbs + 4) (Nat.le_refl _) h.1 h.2 (by omega))

/-! ### The page's example -/
theorem read_007 (w : World) : Calls Try.prog 16 #[.string ⟨#[48, 48, 55]⟩] w fun e w' => e = .returned (.tuple #[.int .i64 0, .int .i64 2]) ∧ Drawn0 w w' :=
  num_Read.calls 20 _ _ _ w (by rw [read_is _ (by decide) 20 (by decide)]; decide +kernel)
theorem read_big (w : World) : Calls Try.prog 16 #[.string ⟨#[57, 48, 48, 55, 49, 57, 57, 50, 53, 52, 55, 52, 48, 57, 57, 51]⟩] w fun e w' => e = .returned (.tuple #[.int .i64 0, .int .i64 25]) ∧ Drawn0 w w' :=
  num_Read.calls 40 _ _ _ w (by rw [read_is _ (by decide) 40 (by decide)]; decide +kernel)
theorem add_big (w : World) : Calls Try.prog 21 #[.int .i64 9007199254740992, .int .i64 1] w fun e w' => e = .returned (.tuple #[.int .i64 0, .int .i64 25]) ∧ Drawn0 w w' :=
  num_Add.calls _ _ _ _ w (by decide +kernel)
theorem text_0 (w : World) : Calls Try.prog 18 #[.int .i64 0] w fun e w' => e = .returned (.string ⟨#[48]⟩) ∧ Below w.heap.size w w' := by
  have h := text_any 0 w (by omega)
  rw [itoa_pos 0 (by omega), show (0 : Int).toNat = 0 from rfl, dec_small (by omega)] at h
  exact h
theorem below_dr {w w1 : World} {n : Nat} (h : Below (w.drewN n).heap.size (w.drewN n) w1) : Below w.heap.size w w1 :=
  below_then (pw_below_drewN (Below.refl _ _) n) (Nat.le_refl _) h
set_option maxHeartbeats 400000 in
theorem awake_any (w : World) : Calls Try.prog 15 #[] w fun e w' => e = .returned (.bool true) ∧ Below w.heap.size w w' := by
  go_enter Try.func15, Try.ntmps15
  go_wp2_with fail
  refine (add_big _).mono ?_
  rintro e w1 ⟨rfl, ⟨n1, rfl⟩⟩
  go_wp2_with fail
  refine (read_007 _).mono ?_
  rintro e w1 ⟨rfl, ⟨n2, rfl⟩⟩
  go_wp2_with fail
  refine (read_big _).mono ?_
  rintro e w1 ⟨rfl, ⟨n3, rfl⟩⟩
  go_wp2_with fail
  refine (text_0 _).mono ?_
  rintro e w1 ⟨rfl, hB⟩
  go_wp2_with fail
  go_ret
  exact ⟨rfl, below_dr hB⟩

set_option maxHeartbeats 1000000 in
theorem walkTexts (a0 : Int) (a1 : ByteArray) (w : World) (w0 : (Lit.int .i64 a0).wf = true) (w1 : a1.size ≤ 140737488351232) :
    Calls Try.prog 4 #[.int .i64 a0, .string a1] w fun e w' => e = .returned (.bool true) ∧ Below w.heap.size w w' := by
  have HB := Aside0.mk (bounds_i64 w0)
  clear w0
  by_cases hl : a1.size > 60
  · go_enter Try.func4, Try.ntmps4
    go_wp2_with fail
    refine (awake_any _).mono ?_
    rintro e w1 ⟨rfl, hB⟩
    go_wp2_with fail
    go_ret
    exact ⟨rfl, hB⟩
  · have c1 := fun w => read_any a1 w w1
    have c2 := fun w => refRead_any a1 w w1
    have c3 := fun w => text_any a0 w HB.out
    have c4 := fun w => refText_any a0 w HB.out
    generalize readV a1.data.toList = rv at c1 c2
    generalize (⟨(Lib.itoa a0).toArray⟩ : ByteArray) = tx at c3 c4
    have C1 := Lib.hid c1
    have C2 := Lib.hid c2
    have C3 := Lib.hid c3
    have C4 := Lib.hid c4
    clear c1 c2 c3 c4
    go_enter Try.func4, Try.ntmps4
    go_wp2_with fail
    refine (C1.out _).mono ?_
    rintro e w1 ⟨rfl, ⟨n1, rfl⟩⟩
    go_wp2_with fail
    refine (C2.out _).mono ?_
    rintro e w1 ⟨rfl, ⟨n2, rfl⟩⟩
    go_wp2_with fail
    refine (awake_any _).mono ?_
    rintro e w1 ⟨rfl, hB⟩
    have hB := Aside0.mk (below_dr hB)
    go_wp2_with fail
    refine (C3.out _).mono ?_
    rintro e w2 ⟨rfl, hB2⟩
    have hB2 := Aside0.mk (below_then hB.out hB.out.size hB2)
    go_wp2_with fail
    refine (C4.out _).mono ?_
    rintro e w3 ⟨rfl, hB3⟩
    have hB3 := Aside0.mk (below_then hB2.out hB2.out.size hB3)
    go_wp2_with fail
    go_ret
    exact ⟨by simp, hB3.out⟩
end Go.Proofs.Yteonbgknmpobpaa.Txt
