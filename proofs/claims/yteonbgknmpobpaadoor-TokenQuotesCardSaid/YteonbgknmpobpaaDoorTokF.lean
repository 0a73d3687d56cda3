/- Quoted texts: the plain law. -/
import Derived.Test.YteonbgknmpobpaaDoorTokE
namespace Go.Proofs.YteonbgknmpobpaaDoor.TQ1
open Go.RowKit Go.Proofs.YteonbgknmpobpaaDoorW.PrintWords Go.Proofs.YteonbgknmpobpaaDoorW.PrintLast Go.Proofs.YteonbgknmpobpaaDoorW.PrintMore
open Go.Proofs.YteonbgknmpobpaaDoor Go.Proofs.YteonbgknmpobpaaDoor.PTokenLex
open Go.Proofs.YteonbgknmpobpaaDoor.TN (hexN escL escC escH esc_q esc_n esc_120 esc_h)
open Go.Proofs.YteonbgknmpobpaaDoor.TO (textF stepC errV t_34 t_long t_step)
set_option linter.unusedVariables false

abbrev B := ByteArray
abbrev L8 := List UInt8
def hexD (n : Nat) : UInt8 := if n < 10 then UInt8.ofNat (48 + n) else UInt8.ofNat (87 + n)
theorem hexN_D : ∀ n, n < 16 → hexN (hexD n) = (n : Int) := by decide +kernel
/-- How a byte stands in a quoted text. -/
def qc (c : UInt8) : L8 := if c.toNat = 34 ∨ c.toNat = 92 then [92, c] else if c.toNat = 10 then [92, 110] else if c.toNat < 32 ∨ 126 < c.toNat then [92, 120, hexD (c.toNat / 16), hexD (c.toNat % 16)] else [c]
theorem step_92 {r : L8} {b n : Int} (h : escL r = (b, n)) (hn : ¬ n = 0) : stepC 92 r = some (b, n.toNat + 1) := by
  unfold stepC
  rw [if_pos (by decide), h, if_neg hn]
theorem text_qc (f k a : Nat) (c : UInt8) (rest : L8) (out : List Int) : textF f (k + 1) (qc c ++ rest) out a = textF f k rest (out ++ [(c.toNat : Int)]) (a + (qc c).length) := by
  have hc := UInt8.toNat_lt c
  unfold qc
  by_cases h1 : c.toNat = 34 ∨ c.toNat = 92
  · rw [if_pos h1]
    have hs : stepC 92 (c :: rest) = some ((c.toNat : Int), 2) := step_92 (r := c :: rest) (n := 1) (esc_q h1) (by decide)
    exact t_step (c := 92) (r := c :: rest) (by decide) hs
  · rw [if_neg h1]
    by_cases h2 : c.toNat = 10
    · rw [if_pos h2]
      have hs : stepC 92 (110 :: rest) = some (10, 2) := step_92 (r := 110 :: rest) (n := 1) (esc_n (by decide)) (by decide)
      have := t_step (f := f) (k := k) (a := a) (out := out) (c := 92) (r := 110 :: rest) (by decide) hs
      rw [h2]
      exact this
    · rw [if_neg h2]
      by_cases h3 : c.toNat < 32 ∨ 126 < c.toNat
      · rw [if_pos h3]
        have e1 := hexN_D (c.toNat / 16) (by omega)
        have e2 := hexN_D (c.toNat % 16) (by omega)
        have hs : stepC 92 (120 :: hexD (c.toNat / 16) :: hexD (c.toNat % 16) :: rest) = some ((c.toNat : Int), 4) := by
          have he : escL (120 :: hexD (c.toNat / 16) :: hexD (c.toNat % 16) :: rest) = (16 * hexN (hexD (c.toNat / 16)) + hexN (hexD (c.toNat % 16)), 3) := by
            show escC 120 _ = _
            rw [esc_120 (by decide), esc_h (by rw [e1]; omega) (by rw [e2]; omega)]
          rw [e1, e2, show 16 * ((c.toNat / 16 : Nat) : Int) + ((c.toNat % 16 : Nat) : Int) = (c.toNat : Int) from by omega] at he
          exact step_92 he (by decide)
        exact t_step (c := 92) (r := 120 :: hexD (c.toNat / 16) :: hexD (c.toNat % 16) :: rest) (by decide) hs
      · rw [if_neg h3]
        have hs : stepC c rest = some ((c.toNat : Int), 1) := by
          unfold stepC
          rw [if_neg (by omega), if_neg h3]
        exact t_step (c := c) (r := rest) (by omega) hs
def body (l : L8) : L8 := l.flatMap qc
theorem text_body (f : Nat) (rest : L8) : ∀ (l : L8) (k a : Nat) (out : List Int), textF f (k + l.length) (body l ++ rest) out a = textF f k rest (out ++ l.map fun c => (c.toNat : Int)) (a + (body l).length)
  | [], k, a, out => by simp [body]
  | c :: r, k, a, out => by
    have hb : body (c :: r) = qc c ++ body r := by unfold body; rw [List.flatMap_cons]
    rw [hb, List.append_assoc, List.length_cons, ← Nat.add_assoc, text_qc, text_body f rest r k _ _]
    simp [List.append_assoc, Nat.add_assoc]
/-- A quoted text is read as it was. -/
theorem text_quote (f : Nat) (l rest : L8) (k a : Nat) : textF f (k + 1 + l.length) (body l ++ 34 :: rest) [] a = if 256 < l.length then errV f 4 else (3, 0, strOfNums (l.map fun c => (c.toNat : Int)), (f : Int), ((a + (body l).length + 1 : Nat) : Int), 0) := by
  rw [text_body]
  rw [List.nil_append]
  by_cases h : 256 < l.length
  · rw [if_pos h, t_long (by decide) (by rw [List.length_map]; exact h)]
  · rw [if_neg h, t_34 (by decide) (by rw [List.length_map]; exact h)]
end Go.Proofs.YteonbgknmpobpaaDoor.TQ1
