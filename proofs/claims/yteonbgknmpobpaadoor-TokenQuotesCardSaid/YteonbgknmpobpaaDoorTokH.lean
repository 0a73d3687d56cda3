/- What the program's Quote writes. -/
import Derived.Test.YteonbgknmpobpaaDoorTokG
import Derived.Test.YteonbgknmpobpaaDoorPTokenQuotesx2
namespace Go.Proofs.YteonbgknmpobpaaDoor.TQ3
open Go.RowKit Go.Proofs.YteonbgknmpobpaaDoorW.PrintWords Go.Proofs.YteonbgknmpobpaaDoorW.PrintLast Go.Proofs.YteonbgknmpobpaaDoorW.PrintMore
open Go.Proofs.YteonbgknmpobpaaDoor Go.Proofs.YteonbgknmpobpaaDoor.PTokenQuotes
open Go.Proofs.YteonbgknmpobpaaDoor.TJ (size_list drop_cons)
open Go.Proofs.YteonbgknmpobpaaDoor.TQ1 (qc body hexD)
open Go.Proofs.YteonbgknmpobpaaDoor.TQ2 (qc_len body_len)
set_option linter.unusedVariables false

abbrev B := ByteArray
abbrev L8 := List UInt8
def ints (l : L8) : List Int := l.map fun c => (c.toNat : Int)
theorem bits15 : ∀ n : Nat, n < 256 → Go.bits .and .u8 (n : Int) 15 = ((n % 16 : Nat) : Int) := by decide +kernel
def hexC : B := ⟨#[48, 49, 50, 51, 52, 53, 54, 55, 56, 57, 97, 98, 99, 100, 101, 102]⟩
theorem hexAt : ∀ n : Nat, n < 16 → bt hexC (n : Int) = ((hexD n).toNat : Int) := by decide +kernel
theorem qI_1 {c : UInt8} (h : c.toNat = 34 ∨ c.toNat = 92) : ints (qc c) = [92, (c.toNat : Int)] := by unfold qc; rw [if_pos h]; rfl
theorem qI_2 {c : UInt8} (h : ¬ (c.toNat = 34 ∨ c.toNat = 92)) (h2 : c.toNat = 10) : ints (qc c) = [92, 110] := by unfold qc; rw [if_neg h, if_pos h2]; rfl
theorem qI_3 {c : UInt8} (h : ¬ (c.toNat = 34 ∨ c.toNat = 92)) (h2 : ¬ c.toNat = 10) (h3 : c.toNat < 32 ∨ 126 < c.toNat) : ints (qc c) = [92, 120, bt hexC ((c.toNat : Int) / 16), bt hexC (Go.bits .and .u8 (c.toNat : Int) 15)] := by
  have hc := UInt8.toNat_lt c
  unfold qc
  rw [if_neg h, if_neg h2, if_pos h3, bits15 _ (by omega), show (c.toNat : Int) / 16 = ((c.toNat / 16 : Nat) : Int) from by omega, hexAt _ (by omega), hexAt _ (by omega)]
  rfl
theorem qI_4 {c : UInt8} (h : ¬ (c.toNat = 34 ∨ c.toNat = 92)) (h2 : ¬ c.toNat = 10) (h3 : ¬ (c.toNat < 32 ∨ 126 < c.toNat)) : ints (qc c) = [(c.toNat : Int)] := by unfold qc; rw [if_neg h, if_neg h2, if_neg h3]; rfl
theorem body_cons (c : UInt8) (r : L8) : ints (body (c :: r)) = ints (qc c) ++ ints (body r) := by
  unfold body ints
  rw [List.flatMap_cons, List.map_append]
theorem quote_loop (s : B) (hs : s.size ≤ 300) (d : Nat) : ∀ (k i : Nat) (out : List Int), i + d = s.size → 2 * d + 2 ≤ k → out.length ≤ 1 + 4 * i →
    token_Quote.l0 k s out (s.size : Int) (i : Int) = some (strOfNums (out ++ ints (body (s.data.toList.drop i)) ++ [34])) := by
  induction d with
  | zero =>
    intro k i out hi hk ho
    obtain ⟨k, rfl⟩ : ∃ m, k = m + 1 := ⟨k - 1, by omega⟩
    rw [token_Quote.l0, if_neg (by omega), if_pos (by omega), List.drop_eq_nil_of_le (by rw [size_list]; omega)]
    simp [body, ints]
  | succ d ih =>
    intro k i out hi hk ho
    obtain ⟨k, rfl⟩ : ∃ m, k = m + 2 := ⟨k - 2, by omega⟩
    obtain ⟨c, hc, hb⟩ := drop_cons s i (by omega)
    have hcl := UInt8.toNat_lt c
    have hq := qc_len c
    have hw : wrap64 ((i : Int) + 1) = ((i + 1 : Nat) : Int) := by unfold wrap64; omega
    have next : ∀ y : List Int, y = ints (qc c) → token_Quote.l0 k s (out ++ y) (s.size : Int) ((i + 1 : Nat) : Int) = some (strOfNums (out ++ ints (body (s.data.toList.drop i)) ++ [34])) := by
      intro y hy
      have hyl : y.length = (qc c).length := by rw [hy]; unfold ints; rw [List.length_map]
      rw [ih k (i + 1) (out ++ y) (by omega) (by omega) (by rw [List.length_append]; omega), hc, body_cons, hy, List.append_assoc, List.append_assoc, List.append_assoc]
      simp only [List.append_assoc]
    rw [token_Quote.l0, if_pos (by omega), if_pos (by omega), if_pos (by omega), hb]
    by_cases h1 : c.toNat = 34 ∨ c.toNat = 92
    · have hj : (if (c.toNat : Int) = 34 then token_Quote.j1 (k + 1) s out (c.toNat : Int) (s.size : Int) (i : Int) true else token_Quote.j1 (k + 1) s out (c.toNat : Int) (s.size : Int) (i : Int) ((c.toNat : Int) == 92)) = token_Quote.j1 (k + 1) s out (c.toNat : Int) (s.size : Int) (i : Int) true := by
        split
        · rfl
        · rw [show ((c.toNat : Int) == 92) = true from by rw [beq_iff_eq]; omega]
      rw [hj, token_Quote.j1, if_pos rfl]
      simp only [Option.bind_some]
      rw [if_pos (by simp; omega), hw]
      exact next _ (qI_1 h1).symm
    · rw [if_neg (by omega), show ((c.toNat : Int) == 92) = false from by rw [beq_eq_false_iff_ne]; omega, token_Quote.j1, if_neg (by simp)]
      by_cases h2 : c.toNat = 10
      · rw [if_pos (by omega)]
        simp only [Option.bind_some]
        rw [if_pos (by simp; omega), hw]
        exact next _ (qI_2 h1 h2).symm
      · rw [if_neg (by omega)]
        have b15 := bits15 c.toNat (by omega)
        have p1 : (0 : Int) ≤ (c.toNat : Int) / 16 := by omega
        have p2 : (c.toNat : Int) / 16 < 16 := by omega
        have p3 : (0 : Int) ≤ Go.bits .and .u8 (c.toNat : Int) 15 := by rw [b15]; omega
        have p4 : Go.bits .and .u8 (c.toNat : Int) 15 < 16 := by rw [b15]; omega
        by_cases h3 : c.toNat < 32
        · rw [if_pos (by omega), if_pos p1, if_pos p2, if_pos p3, if_pos p4]
          simp only [Option.bind_some]
          rw [if_pos (by simp; omega), hw]
          exact next _ (qI_3 h1 h2 (.inl h3)).symm
        · rw [if_neg (by omega)]
          by_cases h4 : 126 < c.toNat
          · rw [if_pos (by omega), if_pos p1, if_pos p2, if_pos p3, if_pos p4]
            simp only [Option.bind_some]
            rw [if_pos (by simp; omega), hw]
            exact next _ (qI_3 h1 h2 (.inr h4)).symm
          · rw [if_neg (by omega), if_pos (by omega), hw]
            exact next _ (qI_4 h1 h2 (by omega)).symm
def quoteV (s : B) : B := strOfNums (34 :: ints (body s.data.toList) ++ [34])
theorem quote_any (s : B) (w : World) (hs : s.size ≤ 300) : Calls Tryd.prog 15 #[.string s] w fun e w' => e = .returned (.string (quoteV s)) ∧ Below w.heap.size w w' :=
  token_Quote.calls (2 * s.size + 2) s (quoteV s) w (by
    unfold token_Quote.f quoteV
    have := quote_loop s hs s.size (2 * s.size + 2) 0 [34] (by omega) (by omega) (by simp)
    rw [List.drop_zero] at this
    exact this)
end Go.Proofs.YteonbgknmpobpaaDoor.TQ3
