/- What is quoted is one token: the plain law. -/
import Derived.Test.YteonbgknmpobpaaDoorTokF
namespace Go.Proofs.YteonbgknmpobpaaDoor.TQ2
open Go.RowKit Go.Proofs.YteonbgknmpobpaaDoorW.PrintWords Go.Proofs.YteonbgknmpobpaaDoorW.PrintLast Go.Proofs.YteonbgknmpobpaaDoorW.PrintMore
open Go.Proofs.YteonbgknmpobpaaDoor Go.Proofs.YteonbgknmpobpaaDoor.PTokenLex
open Go.Proofs.YteonbgknmpobpaaDoor.TJ (size_list)
open Go.Proofs.YteonbgknmpobpaaDoor.TK (skipL)
open Go.Proofs.YteonbgknmpobpaaDoor.TM (R6 E)
open Go.Proofs.YteonbgknmpobpaaDoor.TO (textF textV errV)
open Go.Proofs.YteonbgknmpobpaaDoor.TP (nextN nextV atV)
open Go.Proofs.YteonbgknmpobpaaDoor.TQ (next_in at_text)
open Go.Proofs.YteonbgknmpobpaaDoor.TU
open Go.Proofs.YteonbgknmpobpaaDoor.TQ1
set_option linter.unusedVariables false

abbrev B := ByteArray
abbrev L8 := List UInt8
def blankF (f : L8) : Prop := ∀ c ∈ f, TK.blank c = true ∧ c ≠ 35
theorem skip_front : ∀ (f r : L8), blankF f → skipL false (f ++ r) = f.length + skipL false r
  | [], r, _ => by simp
  | c :: f, r, h => by
    have hc := h c (by simp)
    rw [List.cons_append, skipL, if_neg hc.2, if_pos hc.1, skip_front f r (fun x hx => h x (by simp [hx])), List.length_cons]
    omega
theorem skip_all : ∀ (f : L8) (b : Bool), blankF f → skipL b f = f.length
  | [], b, _ => by cases b <;> rfl
  | c :: f, false, h => by
    have hc := h c (by simp)
    rw [skipL, if_neg hc.2, if_pos hc.1, skip_all f false (fun x hx => h x (by simp [hx])), List.length_cons]
  | c :: f, true, h => by
    have hf : blankF f := fun x hx => h x (by simp [hx])
    rw [skipL, skip_all f false hf, skip_all f true hf, List.length_cons]
    split <;> rfl
theorem qc_len (c : UInt8) : 1 ≤ (qc c).length ∧ (qc c).length ≤ 4 := by
  unfold qc
  repeat' split
  all_goals simp
theorem body_len : ∀ l : L8, l.length ≤ (body l).length ∧ (body l).length ≤ 4 * l.length
  | [] => by simp [body]
  | c :: r => by
    have h1 := qc_len c
    have h2 := body_len r
    have hb : body (c :: r) = qc c ++ body r := by unfold body; rw [List.flatMap_cons]
    rw [hb, List.length_append, List.length_cons]
    omega
def whole (f l : L8) : L8 := f ++ (34 :: (body l ++ 34 :: (35 :: f)))
theorem whole_len (f l : L8) : (whole f l).length = 2 * f.length + (body l).length + 3 := by
  unfold whole
  simp only [List.length_append, List.length_cons]
  omega
theorem next_first (S : B) (f l : L8) (hS : S.data.toList = whole f l) (hf : blankF f) :
    nextV S ((0 : Nat) : Int) = if 256 < l.length then errV f.length 4 else (3, 0, strOfNums (l.map fun c => (c.toNat : Int)), (f.length : Int), ((f.length + 1 + (body l).length + 1 : Nat) : Int), 0) := by
  have hb := body_len l
  have hsz : S.size = 2 * f.length + (body l).length + 3 := by rw [← size_list, hS, whole_len]
  rw [next_in S 0 (Nat.zero_le _)]
  unfold nextN
  rw [List.drop_zero, hS, Nat.zero_add]
  have hsk : skipL false (whole f l) = f.length := by
    unfold whole
    rw [skip_front f _ hf, skipL, if_neg (by decide), if_neg (by decide)]
    rfl
  have hd : (whole f l).drop f.length = 34 :: (body l ++ 34 :: (35 :: f)) := by unfold whole; rw [List.drop_left]
  have hd1 : (whole f l).drop (f.length + 1) = body l ++ 34 :: (35 :: f) := by rw [← List.drop_drop, hd]; rfl
  rw [hsk, hd, at_text (by decide) (by decide)]
  unfold textV
  rw [hS, hd1]
  obtain ⟨k, hk⟩ : ∃ k, S.size + 1 = k + 1 + l.length := ⟨S.size - l.length, by omega⟩
  rw [hk, text_quote]
theorem next_last (S : B) (f l : L8) (hS : S.data.toList = whole f l) (hf : blankF f) : nextV S ((f.length + 1 + (body l).length + 1 : Nat) : Int) = (0, 0, E, (S.size : Int), (S.size : Int), 0) := by
  have hsz : S.size = 2 * f.length + (body l).length + 3 := by rw [← size_list, hS, whole_len]
  rw [next_in S _ (by omega)]
  unfold nextN
  have hd : S.data.toList.drop (f.length + 1 + (body l).length + 1) = 35 :: f := by
    rw [hS]
    unfold whole
    rw [show f.length + 1 + (body l).length + 1 = f.length + (1 + ((body l).length + 1)) from by omega, ← List.drop_drop, List.drop_left, ← List.drop_drop]
    show List.drop ((body l).length + 1) (body l ++ 34 :: 35 :: f) = _
    rw [← List.drop_drop, List.drop_left]
    rfl
  have hsk : skipL false (35 :: f) = f.length + 1 := by rw [skipL, if_pos rfl, skip_all f true hf]
  rw [hd, hsk, List.drop_eq_nil_of_le (by rw [size_list]; omega)]
  have e : f.length + 1 + (body l).length + 1 + (f.length + 1) = S.size := by omega
  rw [e]
  rfl
theorem lex_long (S : B) (f l : L8) (hS : S.data.toList = whole f l) (hf : blankF f) (h4 : S.size ≤ 4096) (h : 256 < l.length) : lexV S = ([], (f.length : Int), 4) := by
  have hn := next_first S f l hS hf
  rw [if_pos h] at hn
  unfold lexV
  rw [if_neg (by omega)]
  have e : (nextV S (0 : Int)) = errV f.length 4 := hn
  have h4' : ¬ (nextV S (0 : Int)).2.2.2.2.2 = 0 := by
    rw [e]
    exact (show ¬ (4 : Int) = 0 by decide)
  rw [lex_err h4', e]
  rfl
theorem lex_one (S : B) (f l : L8) (hS : S.data.toList = whole f l) (hf : blankF f) (h4 : S.size ≤ 4096) (h : ¬ 256 < l.length) : lexV S = ([⟨3, 0, strOfNums (l.map fun c => (c.toNat : Int)), (f.length : Int)⟩], 0, 0) := by
  have hn := next_first S f l hS hf
  rw [if_neg h] at hn
  have hl := next_last S f l hS hf
  unfold lexV
  rw [if_neg (by omega)]
  have e : (nextV S (0 : Int)) = _ := hn
  have hsz : S.size = 2 * f.length + (body l).length + 3 := by rw [← size_list, hS, whole_len]
  obtain ⟨k, hk⟩ : ∃ k, S.size = k + 1 := ⟨S.size - 1, by omega⟩
  have h3' : ¬ (nextV S (0 : Int)).1 = 0 := by
    rw [e]
    exact (show ¬ (3 : Int) = 0 by decide)
  rw [lex_go (by rw [e]) h3', e, hk, lex_end (by rw [hl]) (by rw [hl])]
  rfl
end Go.Proofs.YteonbgknmpobpaaDoor.TQ2
