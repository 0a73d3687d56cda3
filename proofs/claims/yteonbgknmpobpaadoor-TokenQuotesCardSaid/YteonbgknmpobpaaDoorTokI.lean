/- What the document's Quote writes. -/
import Derived.Test.YteonbgknmpobpaaDoorTokH
import Derived.Test.YteonbgknmpobpaaDoorTokQ
namespace Go.Proofs.YteonbgknmpobpaaDoor.TQ4
open Go.RowKit Go.Proofs.YteonbgknmpobpaaDoorW.PrintWords Go.Proofs.YteonbgknmpobpaaDoorW.PrintLast Go.Proofs.YteonbgknmpobpaaDoorW.PrintMore
open Go.Proofs.YteonbgknmpobpaaDoor Go.Proofs.YteonbgknmpobpaaDoor.PTokenQuotes
open Go.Proofs.YteonbgknmpobpaaDoor.TJ (size_list drop_cons)
open Go.Proofs.YteonbgknmpobpaaDoor.TS (nums_app nums_size)
open Go.Proofs.YteonbgknmpobpaaDoor.TQ1 (qc body hexD)
open Go.Proofs.YteonbgknmpobpaaDoor.TQ2 (qc_len body_len)
open Go.Proofs.YteonbgknmpobpaaDoor.TQ3
set_option linter.unusedVariables false

theorem nums_two (out : List Int) (a b : Int) : strOfNums (out ++ [a, b]) = strOfNums out ++ strOfNums [a] ++ strOfNums [b] := by
  rw [show out ++ [a, b] = (out ++ [a]) ++ [b] from by simp, nums_app, nums_app]
theorem one_nums (s : B) (i : Nat) (c : UInt8) (h : i < s.size) (hc : s.data.toList.drop i = c :: s.data.toList.drop (i + 1)) : s.extract i (i + 1) = strOfNums [(c.toNat : Int)] := by
  apply ByteArray.ext
  apply Array.ext'
  rw [Lib.extract_data, hc, show i + 1 - i = 1 from by omega]
  unfold strOfNums
  simp
theorem hex_nums : ∀ n : Nat, n < 16 → hexC.extract n (n + 1) = strOfNums [((hexD n).toNat : Int)] := by decide +kernel
theorem div16 (c : UInt8) : wrap64 (Int.tdiv (c.toNat : Int) 16) = ((c.toNat / 16 : Nat) : Int) := by
  have hcl := UInt8.toNat_lt c
  rw [Int.tdiv_eq_ediv_of_nonneg (by omega)]; unfold wrap64; omega
theorem mod16 (c : UInt8) : Int.tmod (c.toNat : Int) 16 = ((c.toNat % 16 : Nat) : Int) := by
  rw [Int.tmod_eq_emod_of_nonneg (by omega)]; omega
theorem lt16 (c : UInt8) : c.toNat / 16 < 16 ∧ c.toNat % 16 < 16 := by
  have hcl := UInt8.toNat_lt c
  omega
theorem wr16 {n : Nat} (h : n < 16) : wrap64 ((n : Int) + 1) = ((n + 1 : Nat) : Int) ∧ (0 : Int) ≤ (n : Int) ∧ (n : Int) ≤ ((n + 1 : Nat) : Int) ∧ ((n + 1 : Nat) : Int) ≤ (hexC.size : Int) := by
  show wrap64 ((n : Int) + 1) = ((n + 1 : Nat) : Int) ∧ (0 : Int) ≤ (n : Int) ∧ (n : Int) ≤ ((n + 1 : Nat) : Int) ∧ ((n + 1 : Nat) : Int) ≤ ((16 : Nat) : Int)
  unfold wrap64
  omega
theorem cap_ok {n : Nat} {out : List Int} (h : out.length ≤ 4000) (hn : n ≤ 10) : (strOfNums out).size + n ≤ 9223372036854775807 := by rw [nums_size]; omega
theorem cap_one {out : List Int} {b : Int} (h : out.length ≤ 4000) : (strOfNums out).size + (strOfNums [b]).size ≤ 9223372036854775807 := by rw [nums_size, nums_size]; simp; omega
theorem refQuote_loop (s : B) (hs : s.size ≤ 300) (d : Nat) : ∀ (k i : Nat) (out : List Int), i + d = s.size → 2 * d + 2 ≤ k → out.length ≤ 1 + 4 * i →
    treillageref12_Quote.l0 k s hexC (strOfNums out) (i : Int) = some (strOfNums (out ++ ints (body (s.data.toList.drop i)) ++ [34])) := by
  induction d with
  | zero =>
    intro k i out hi hk ho
    obtain ⟨k, rfl⟩ : ∃ m, k = m + 1 := ⟨k - 1, by omega⟩
    have e0 := nums_size out
    have hcap : (strOfNums out).size + 1 ≤ 9223372036854775807 := by rw [e0]; omega
    rw [treillageref12_Quote.l0, if_neg (by omega), if_pos hcap, List.drop_eq_nil_of_le (by rw [size_list]; omega)]
    show some (strOfNums out ++ strOfNums [34]) = _
    rw [← nums_app]
    simp [body, ints]
  | succ d ih =>
    intro k i out hi hk ho
    obtain ⟨k, rfl⟩ : ∃ m, k = m + 2 := ⟨k - 2, by omega⟩
    obtain ⟨c, hc, hb⟩ := drop_cons s i (by omega)
    have hcl := UInt8.toNat_lt c
    have hq := qc_len c
    have hw : wrap64 ((i : Int) + 1) = ((i + 1 : Nat) : Int) := by unfold wrap64; omega
    have hwb : wrap64 (c.toNat : Int) = (c.toNat : Int) := by unfold wrap64; omega
    have t1 : c.toNat < 32 → (c.toNat : Int) < 32 := fun h => by omega
    have t2 : ¬ c.toNat < 32 → ¬ (c.toNat : Int) < 32 := fun h => by omega
    have t3 : 126 < c.toNat → (c.toNat : Int) > 126 := fun h => by omega
    have t4 : ¬ 126 < c.toNat → ¬ (c.toNat : Int) > 126 := fun h => by omega
    have t5 : ¬ c.toNat < 32 → ¬ 126 < c.toNat → ¬ (c.toNat < 32 ∨ 126 < c.toNat) := fun h1 h2 h => h.elim h1 h2
    have t6 : i < s.size := by omega
    have t7 : c.toNat = 10 → (c.toNat : Int) = 10 := fun h => by omega
    have t8 : ¬ c.toNat = 10 → ¬ (c.toNat : Int) = 10 := fun h => by omega
    have t9 : ¬ (c.toNat = 34 ∨ c.toNat = 92) → ¬ (c.toNat : Int) = 34 := fun h => by omega
    have t10 : ¬ (c.toNat = 34 ∨ c.toNat = 92) → ((c.toNat : Int) == 92) = false := fun h => by rw [beq_eq_false_iff_ne]; omega
    have ho4 : out.length ≤ 2000 + 1000 := by omega
    replace ho4 : out.length ≤ 3990 := by omega
    have ho4 : out.length ≤ 4000 := by omega
    have next : ∀ y : List Int, y = ints (qc c) → treillageref12_Quote.l0 k s hexC (strOfNums (out ++ y)) ((i + 1 : Nat) : Int) = some (strOfNums (out ++ ints (body (s.data.toList.drop i)) ++ [34])) := by
      intro y hy
      have hyl : y.length = (qc c).length := by rw [hy]; unfold ints; rw [List.length_map]
      rw [ih k (i + 1) (out ++ y) (by omega) (by omega) (by rw [List.length_append]; omega), hc, body_cons, hy]
      simp only [List.append_assoc]
    have p1 : (i : Int) < (s.size : Int) := by omega
    have p2 : (0 : Int) ≤ (i : Int) := by omega
    have p3 : (i : Int) ≤ ((i + 1 : Nat) : Int) := by omega
    have p4 : ((i + 1 : Nat) : Int) ≤ (s.size : Int) := by omega
    rw [treillageref12_Quote.l0, if_pos p1, if_pos p2, hb, hwb]
    by_cases h1 : c.toNat = 34 ∨ c.toNat = 92
    · have hj : (if (c.toNat : Int) = 34 then treillageref12_Quote.j1 (k + 1) s hexC (strOfNums out) (i : Int) (c.toNat : Int) true else treillageref12_Quote.j1 (k + 1) s hexC (strOfNums out) (i : Int) (c.toNat : Int) ((c.toNat : Int) == 92)) = treillageref12_Quote.j1 (k + 1) s hexC (strOfNums out) (i : Int) (c.toNat : Int) true := by
        split
        · rfl
        · rw [show ((c.toNat : Int) == 92) = true from by rw [beq_iff_eq]; omega]
      have hx := one_nums s i c t6 hc
      have q1 : (strOfNums out).size + 1 ≤ 9223372036854775807 := cap_ok ho4 (by decide)
      have ea : strOfNums out ++ (⟨#[92]⟩ : B) = strOfNums (out ++ [92]) := (nums_app out 92).symm
      have q2 : (strOfNums (out ++ [92])).size + (strOfNums [(c.toNat : Int)]).size ≤ 9223372036854775807 := cap_one (by rw [List.length_append]; simp; omega)
      rw [hj, treillageref12_Quote.j1, if_pos rfl, if_pos q1, if_pos p2, hw, if_pos p3, if_pos p4, Int.toNat_natCast, Int.toNat_natCast, hx, ea, if_pos q2, ← nums_app, List.append_assoc]
      exact next _ (qI_1 h1).symm
    · rw [if_neg (t9 h1), t10 h1, treillageref12_Quote.j1, if_neg (by simp)]
      have q1 : (strOfNums out).size + 2 ≤ 9223372036854775807 := cap_ok ho4 (by decide)
      by_cases h2 : c.toNat = 10
      · have ea : strOfNums out ++ (⟨#[92, 110]⟩ : B) = strOfNums (out ++ [92, 110]) := by rw [nums_two, ByteArray.append_assoc]; rfl
        rw [if_pos (t7 h2), if_pos q1, hw, ea]
        exact next _ (qI_2 h1 h2).symm
      · rw [if_neg (t8 h2)]
        have b15 := bits15 c.toNat hcl
        have z1 := div16 c
        have z2 := mod16 c
        obtain ⟨hn1, hn2⟩ := lt16 c
        obtain ⟨u1, u2, u3, u4⟩ := wr16 hn1
        obtain ⟨v1, v2, v3, v4⟩ := wr16 hn2
        have hx1 := hex_nums _ hn1
        have hx2 := hex_nums _ hn2
        have hq3 : ∀ (h3 : c.toNat < 32 ∨ 126 < c.toNat), ints (qc c) = [92, 120] ++ [((hexD (c.toNat / 16)).toNat : Int)] ++ [((hexD (c.toNat % 16)).toNat : Int)] := by
          intro h3
          rw [qI_3 h1 h2 h3, b15, show (c.toNat : Int) / 16 = ((c.toNat / 16 : Nat) : Int) from by omega, hexAt _ hn1, hexAt _ hn2]
          rfl
        have ea : strOfNums out ++ (⟨#[92, 120]⟩ : B) = strOfNums (out ++ [92, 120]) := by rw [nums_two, ByteArray.append_assoc]; rfl
        have q2 : (strOfNums (out ++ [92, 120])).size + (strOfNums [((hexD (c.toNat / 16)).toNat : Int)]).size ≤ 9223372036854775807 := cap_one (by rw [List.length_append]; simp; omega)
        have q3 : (strOfNums (out ++ [92, 120] ++ [((hexD (c.toNat / 16)).toNat : Int)])).size + (strOfNums [((hexD (c.toNat % 16)).toNat : Int)]).size ≤ 9223372036854775807 := cap_one (by rw [List.length_append, List.length_append]; simp; omega)
        have fin : ∀ (h3 : c.toNat < 32 ∨ 126 < c.toNat), treillageref12_Quote.l0 k s hexC (strOfNums (out ++ [92, 120] ++ [((hexD (c.toNat / 16)).toNat : Int)] ++ [((hexD (c.toNat % 16)).toNat : Int)])) ((i + 1 : Nat) : Int) = some (strOfNums (out ++ ints (body (s.data.toList.drop i)) ++ [34])) := by
          intro h3
          have := next _ (hq3 h3).symm
          simpa only [List.append_assoc] using this
        by_cases h3 : c.toNat < 32
        · have h3' := t1 h3
          rw [if_pos h3', if_pos q1, z1, if_pos u2, u1, if_pos u3, if_pos u4, Int.toNat_natCast, Int.toNat_natCast, hx1, ea, if_pos q2, z2, if_pos v2, v1, if_pos v3, if_pos v4, Int.toNat_natCast, Int.toNat_natCast, hx2, ← nums_app, if_pos q3, ← nums_app, hw]
          exact fin (.inl h3)
        · have h3' := t2 h3
          rw [if_neg h3']
          by_cases h4 : 126 < c.toNat
          · have h4' := t3 h4
            rw [if_pos h4', if_pos q1, z1, if_pos u2, u1, if_pos u3, if_pos u4, Int.toNat_natCast, Int.toNat_natCast, hx1, ea, if_pos q2, z2, if_pos v2, v1, if_pos v3, if_pos v4, Int.toNat_natCast, Int.toNat_natCast, hx2, ← nums_app, if_pos q3, ← nums_app, hw]
            exact fin (.inr h4)
          · have h4' := t4 h4
            have hx := one_nums s i c t6 hc
            have q5 : (strOfNums out).size + (strOfNums [(c.toNat : Int)]).size ≤ 9223372036854775807 := cap_one ho4
            rw [if_neg h4', if_pos p2, hw, if_pos p3, if_pos p4, Int.toNat_natCast, Int.toNat_natCast, hx, if_pos q5, ← nums_app]
            exact next _ (qI_4 h1 h2 (t5 h3 h4)).symm
theorem refQuote_any (s : B) (w : World) (hs : s.size ≤ 300) : Calls Tryd.prog 16 #[.string s] w fun e w' => e = .returned (.string (quoteV s)) ∧ Drawn0 w w' :=
  treillageref12_Quote.calls (2 * s.size + 2) s (quoteV s) w (by
    unfold treillageref12_Quote.f quoteV
    have := refQuote_loop s hs s.size (2 * s.size + 2) 0 [34] (by omega) (by omega) (by simp)
    rw [List.drop_zero] at this
    exact this)
end Go.Proofs.YteonbgknmpobpaaDoor.TQ4
