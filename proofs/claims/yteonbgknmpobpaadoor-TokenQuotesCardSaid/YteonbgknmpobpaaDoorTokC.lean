/- Several texts of mine in one (merge.py). -/
import Derived.Test.YteonbgknmpobpaaDoorTokB
import Derived.Test.YteonbgknmpobpaaDoorNR
/- The document's Next. -/
namespace Go.Proofs.YteonbgknmpobpaaDoor.TT
open Go.RowKit Go.Proofs.YteonbgknmpobpaaDoorW.PrintWords Go.Proofs.YteonbgknmpobpaaDoorW.PrintLast Go.Proofs.YteonbgknmpobpaaDoorW.PrintMore
open Go.Proofs.YteonbgknmpobpaaDoor Go.Proofs.YteonbgknmpobpaaDoor.PTokenLex
open Go.Proofs.YteonbgknmpobpaaDoor.NW (WordsAt wordV rightV tailB chB smallB bodyB)
open Go.Proofs.YteonbgknmpobpaaDoor.NR (sizeL right_no1 right_no2 right_no3)
set_option linter.unusedVariables false

abbrev B := ByteArray
abbrev L8 := List UInt8
theorem refWord_is (s : B) : treillageref02_Word.f s = some (wordV s.toList) := by
  unfold treillageref02_Word.f wordV
  repeat' split
  all_goals rfl
theorem refRight_loop (s : B) (hs : s.size ≤ 140737488351232) (d : Nat) : ∀ (k i : Nat), i + d = s.size → d < k →
    treillageref02_Right.l0 k s (i : Int) = some (tailB (s.data.toList.drop i)) := by
  induction d with
  | zero =>
    intro k i hi hk
    obtain ⟨k, rfl⟩ : ∃ m, k = m + 1 := ⟨k - 1, by omega⟩
    simp only [treillageref02_Right.l0]
    rw [if_neg (by omega), List.drop_eq_nil_of_le (by rw [sizeL]; omega)]
    rfl
  | succ d ih =>
    intro k i hi hk
    obtain ⟨k, rfl⟩ : ∃ m, k = m + 1 := ⟨k - 1, by omega⟩
    obtain ⟨c, hc, hb⟩ := TJ.drop_cons s i (by omega)
    have hn := ih k (i + 1) (by omega) (by omega)
    simp only [treillageref02_Right.l0]
    rw [if_pos (by omega), if_pos (by omega), hb, hc, TK.wrapK (n := s.size) (by omega) (by omega), hn]
    have ht : tailB (c :: s.data.toList.drop (i + 1)) = (chB false c.toNat && tailB (s.data.toList.drop (i + 1))) := rfl
    rw [ht]
    have hyes : chB false c.toNat = true → some (tailB (s.data.toList.drop (i + 1))) = some (chB false c.toNat && tailB (s.data.toList.drop (i + 1))) := by intro h; rw [h, Bool.true_and]
    have hno : chB false c.toNat = false → some false = some (chB false c.toNat && tailB (s.data.toList.drop (i + 1))) := by intro h; rw [h, Bool.false_and]
    have hch : chB false c.toNat = (decide (97 ≤ c.toNat) && decide (c.toNat ≤ 122) || (decide (c.toNat = 95) || (decide (48 ≤ c.toNat) && decide (c.toNat ≤ 57)))) := by
      unfold chB smallB
      rw [show (c.toNat == 95) = decide (c.toNat = 95) from by rw [Bool.eq_iff_iff]; simp]
      simp
    repeat' split
    all_goals first
      | (refine hyes ?_; rw [hch]; simp; omega)
      | (refine hno ?_; rw [hch]; simp; omega)
theorem wordV_ge' (l : List UInt8) : 0 ≤ wordV l ∧ wordV l ≤ 9 := by
  unfold wordV
  repeat' split
  all_goals omega
theorem refRight_is (s : B) (hs : s.size ≤ 140737488351232) (k : Nat) (hk : s.size + 2 < k) : treillageref02_Right.f k s = some (rightV s.data.toList) := by
  obtain ⟨k, rfl⟩ : ∃ m, k = m + 1 := ⟨k - 1, by omega⟩
  have ht : treillageref02_Right.j0 (k + 1) s true = some false := by simp only [treillageref02_Right.j0, if_true]
  unfold treillageref02_Right.f
  by_cases h0 : s.size = 0
  · rw [if_pos (by omega), ht, right_no1 s h0]
  · rw [if_neg (by omega)]
    by_cases h16 : 16 < s.size
    · rw [if_pos (by omega), ht, right_no2 s h16]
    · rw [if_neg (by omega), refWord_is]
      simp only [Option.bind_some]
      have hw := wordV_ge' s.toList
      by_cases h3 : wordV s.toList = 0
      · rw [if_neg (by omega), if_pos (by omega)]
        obtain ⟨c, hc, hb⟩ := TJ.drop_cons s 0 (by omega)
        rw [List.drop_zero] at hc
        have hb0 : bt s 0 = (c.toNat : Int) := hb
        have hl := refRight_loop s hs (s.size - 1) k 1 (by omega) (by omega)
        have hl' : treillageref02_Right.l0 k s 1 = some (tailB (s.data.toList.drop 1)) := hl
        have hR : rightV s.data.toList = (smallB c.toNat && tailB (s.data.toList.drop 1)) := by
          unfold rightV
          rw [Lib.toList_data] at h3
          rw [sizeL, h3, decide_eq_true (by omega : 1 ≤ s.size), decide_eq_true (by omega : s.size ≤ 16), hc]
          simp [bodyB, chB]
        rw [hb0, hR]
        by_cases h97 : c.toNat < 97
        · rw [if_pos (by omega), ht]; unfold smallB; rw [decide_eq_false (by omega : ¬ 97 ≤ c.toNat)]; rfl
        · rw [if_neg (by omega)]
          simp only [treillageref02_Right.j0]
          by_cases h122 : c.toNat > 122
          · rw [if_pos (by simp; omega)]; unfold smallB; rw [decide_eq_false (by omega : ¬ c.toNat ≤ 122), Bool.and_false]; rfl
          · rw [if_neg (by simp; omega), hl']; unfold smallB; rw [decide_eq_true (by omega : 97 ≤ c.toNat), decide_eq_true (by omega : c.toNat ≤ 122)]; rfl
      · rw [if_pos (by omega), ht, right_no3 s h3]

open Go.Proofs.YteonbgknmpobpaaDoor.TJ (dig readV ref_is size_list)
open Go.Proofs.YteonbgknmpobpaaDoor.TK (skipL skipL_le refSkip_is wrapK)
open Go.Proofs.YteonbgknmpobpaaDoor.TL (smallC letC rowN rowN_le refDigit_is refLetter_is row_yes row_no row_end)
open Go.Proofs.YteonbgknmpobpaaDoor.TM (R6 E numV numOf cutB num_0 num_25 num_x)
open Go.Proofs.YteonbgknmpobpaaDoor.TO (textV errV)
open Go.Proofs.YteonbgknmpobpaaDoor.TP (sgn sgnAt sfind signR nameR atV nextN nextV)
open Go.Proofs.YteonbgknmpobpaaDoor.TQ (at_num at_text at_name at_sign next_out next_in name_yes name_no sfind_no sfind_yes)
open Go.Proofs.YteonbgknmpobpaaDoor.TR (wrapA)
open Go.Proofs.YteonbgknmpobpaaDoor.TS (refText_is refSign_is pick)

theorem j2_is (s : B) (hs : s.size ≤ 140737488351232) (a n : Nat) (hn : n = rowN dig (s.data.toList.drop a)) (h : a + n ≤ s.size) (k : Nat) (hk : 2 * s.size + 20 ≤ k) :
    treillageref12_Next.j2 k s (a : Int) ((a + n : Nat) : Int) = some (numV s a) := by
  obtain ⟨k, rfl⟩ : ∃ m, k = m + 1 := ⟨k - 1, by omega⟩
  have hz : (s.extract a (a + n)).size ≤ s.size := by rw [ByteArray.size_extract]; omega
  rw [treillageref12_Next.j2, if_pos (by omega), if_pos (by omega), if_pos (by omega), Int.toNat_natCast, Int.toNat_natCast, ref_is _ (by omega) k (by omega)]
  simp only [Option.bind_some]
  unfold numV cutB
  rw [← hn]
  generalize readV (s.extract a (a + n)).data.toList = rd
  by_cases h0 : rd.2 = 0
  · rw [if_pos h0, num_0 h0]
  · rw [if_neg h0]
    by_cases h25 : rd.2 = 25
    · rw [if_pos h25, num_25 h25]
    · rw [if_neg h25, num_x h0 h25]
theorem l0_is (s : B) (hs : s.size ≤ 140737488351232) (a : Nat) (d : Nat) : ∀ (k e : Nat), e + d = s.size → a ≤ e → d + 2 * s.size + 30 ≤ k → a + rowN dig (s.data.toList.drop a) = e + rowN dig (s.data.toList.drop e) →
    treillageref12_Next.l0 k s (a : Int) (e : Int) = some (numV s a) := by
  induction d with
  | zero =>
    intro k e he hae hk hr
    obtain ⟨k, rfl⟩ : ∃ m, k = m + 1 := ⟨k - 1, by omega⟩
    rw [row_end (i := e) (by omega)] at hr
    rw [treillageref12_Next.l0, if_neg (by omega), ← hr]
    exact j2_is s hs a _ rfl (by omega) k (by omega)
  | succ d ih =>
    intro k e he hae hk hr
    obtain ⟨k, rfl⟩ : ∃ m, k = m + 1 := ⟨k - 1, by omega⟩
    obtain ⟨c, hc, hb⟩ := TJ.drop_cons s e (by omega)
    rw [treillageref12_Next.l0, if_pos (by omega), if_pos (by omega), hb, refDigit_is]
    simp only [Option.bind_some]
    cases hd : dig c
    · rw [if_neg (by simp)]
      rw [row_no hc hd] at hr
      rw [← hr]
      exact j2_is s hs a _ rfl (by omega) k (by omega)
    · rw [if_pos rfl, wrapK (n := s.size) (by omega) (by omega)]
      exact ih k (e + 1) (by omega) (by omega) (by omega) (by rw [hr, row_yes hc hd])
theorem small_not_sign {c : UInt8} {r : L8} (h : smallC c = true) : sfind (c :: r) 15 0 = none := by
  unfold smallC at h
  rw [Bool.and_eq_true, decide_eq_true_iff, decide_eq_true_iff] at h
  have hn : ∀ (x : UInt8) (y : L8), (x.toNat < 97 ∨ 122 < x.toNat) → (x :: y).isPrefixOf (c :: r) = false := by
    intro x y hx
    rw [List.isPrefixOf_cons_cons, show (x == c) = false from beq_eq_false_iff_ne.2 (fun e => by rw [e] at hx; omega), Bool.false_and]
  have g0 : sgnAt (c :: r) 0 = false := hn _ _ (by decide)
  have g1 : sgnAt (c :: r) 1 = false := hn _ _ (by decide)
  have g2 : sgnAt (c :: r) 2 = false := hn _ _ (by decide)
  have g3 : sgnAt (c :: r) 3 = false := hn _ _ (by decide)
  have g4 : sgnAt (c :: r) 4 = false := hn _ _ (by decide)
  have g5 : sgnAt (c :: r) 5 = false := hn _ _ (by decide)
  have g6 : sgnAt (c :: r) 6 = false := hn _ _ (by decide)
  have g7 : sgnAt (c :: r) 7 = false := hn _ _ (by decide)
  have g8 : sgnAt (c :: r) 8 = false := hn _ _ (by decide)
  have g9 : sgnAt (c :: r) 9 = false := hn _ _ (by decide)
  have g10 : sgnAt (c :: r) 10 = false := hn _ _ (by decide)
  have g11 : sgnAt (c :: r) 11 = false := hn _ _ (by decide)
  have g12 : sgnAt (c :: r) 12 = false := hn _ _ (by decide)
  have g13 : sgnAt (c :: r) 13 = false := hn _ _ (by decide)
  have g14 : sgnAt (c :: r) 14 = false := hn _ _ (by decide)
  rw [sfind_no g0, sfind_no g1, sfind_no g2, sfind_no g3, sfind_no g4, sfind_no g5, sfind_no g6, sfind_no g7, sfind_no g8, sfind_no g9, sfind_no g10, sfind_no g11, sfind_no g12, sfind_no g13, sfind_no g14]
  rfl

theorem toList_nil (x : B) : x.toList = [] ↔ x.data.toList = [] := by rw [Lib.toList_data]
theorem sgn_ne (k : Nat) (hk : k < 15) : (sgn k).data.toList ≠ [] := by
  rcases (by omega : k = 0 ∨ k = 1 ∨ k = 2 ∨ k = 3 ∨ k = 4 ∨ k = 5 ∨ k = 6 ∨ k = 7 ∨ k = 8 ∨ k = 9 ∨ k = 10 ∨ k = 11 ∨ k = 12 ∨ k = 13 ∨ k = 14) with rfl | rfl | rfl | rfl | rfl | rfl | rfl | rfl | rfl | rfl | rfl | rfl | rfl | rfl | rfl <;> decide
theorem sfind_lt {l : L8} : ∀ (d k j : Nat), sfind l d k = some j → j < k + d
  | 0, k, j, h => by cases h
  | d + 1, k, j, h => by
    rw [sfind] at h
    split at h
    · injection h with h; omega
    · have := sfind_lt d (k + 1) j h; omega
/-- Behind the row of letters: a name, or none; no letter was there: a sign, or none. -/
theorem j4_small (s : B) (hs : s.size ≤ 140737488351232) (a n : Nat) (c : UInt8) (ha : a < s.size) (hc : s.data.toList.drop a = c :: s.data.toList.drop (a + 1)) (hb : bt s (a : Int) = (c.toNat : Int)) (hsm : smallC c = true)
    (h : a + n ≤ s.size) (k : Nat) (hk : s.size + 40 ≤ k) : treillageref12_Next.j4 k s (a : Int) ((a + n : Nat) : Int) = some (nameR s a n) := by
  obtain ⟨k, rfl⟩ : ∃ m, k = m + 2 := ⟨k - 2, by omega⟩
  have hz : (s.extract a (a + n)).size ≤ s.size := by rw [ByteArray.size_extract]; omega
  have p1 : (0 : Int) ≤ (a : Int) := by omega
  have p2 : (a : Int) ≤ ((a + n : Nat) : Int) := by omega
  have p3 : ((a + n : Nat) : Int) ≤ (s.size : Int) := by omega
  rw [treillageref12_Next.j4, if_pos p1, if_pos p2, if_pos p3, Int.toNat_natCast, Int.toNat_natCast, refRight_is _ (by omega) (k + 1) (by omega)]
  simp only [Option.bind_some]
  have no : ∀ x : B, treillageref12_Next.j5 (k + 1) s (a : Int) ((a + n : Nat) : Int) x false = some (errV a 20) := by
    intro x
    rw [treillageref12_Next.j5, if_neg (by simp), refSign_is s hs a c ha hc hb k (by omega), hc, small_not_sign hsm]
    simp only [Option.bind_some]
    rw [if_pos ((toList_nil _).2 rfl)]
    rfl
  by_cases hr : rightV (s.extract a (a + n)).data.toList = true
  · rw [if_pos hr, treillageref12_Next.j5, if_pos rfl, name_yes (.inl hr)]
  · rw [if_neg hr, refWord_is]
    simp only [Option.bind_some]
    by_cases hw : 0 < wordV (s.extract a (a + n)).data.toList
    · rw [Lib.toList_data, show decide (wordV (s.extract a (a + n)).data.toList > 0) = true from decide_eq_true hw, treillageref12_Next.j5, if_pos rfl, name_yes (.inr hw)]
    · rw [Lib.toList_data, show decide (wordV (s.extract a (a + n)).data.toList > 0) = false from decide_eq_false hw, no, name_no (fun h => h.elim hr hw)]
theorem j4_sign (s : B) (hs : s.size ≤ 140737488351232) (a : Nat) (c : UInt8) (ha : a < s.size) (hc : s.data.toList.drop a = c :: s.data.toList.drop (a + 1)) (hb : bt s (a : Int) = (c.toNat : Int))
    (k : Nat) (hk : s.size + 40 ≤ k) : treillageref12_Next.j4 k s (a : Int) (a : Int) = some (signR (s.data.toList.drop a) a) := by
  obtain ⟨k, rfl⟩ : ∃ m, k = m + 2 := ⟨k - 2, by omega⟩
  have p1 : (0 : Int) ≤ (a : Int) := by omega
  have p2 : (a : Int) ≤ (a : Int) := by omega
  have p3 : (a : Int) ≤ (s.size : Int) := by omega
  have hx : s.extract a a = E := by
    apply ByteArray.ext
    apply Array.ext'
    rw [Lib.extract_data]
    simp
  rw [treillageref12_Next.j4, if_pos p1, if_pos p2, if_pos p3, Int.toNat_natCast, hx, refRight_is E (by decide) (k + 1) (by show (0 : Nat) + 2 < k + 1; omega)]
  simp only [Option.bind_some]
  rw [if_neg (by decide), refWord_is]
  simp only [Option.bind_some]
  rw [show decide (wordV E.toList > 0) = false from by rw [Lib.toList_data]; decide, treillageref12_Next.j5, if_neg (by simp), refSign_is s hs a c ha hc hb k (by omega)]
  simp only [Option.bind_some]
  unfold signR
  cases hf : sfind (s.data.toList.drop a) 15 0 with
  | none =>
    rw [if_pos ((toList_nil _).2 rfl)]
    rfl
  | some j =>
    have hj := sfind_lt _ _ _ hf
    have hsz := TQ.sgn_size j (by omega)
    rw [show pick (some j) = sgn j from rfl, if_neg (fun e => sgn_ne j (by omega) ((toList_nil _).1 e)), if_pos ((toList_nil _).2 rfl)]
    have ew : wrap64 ((a : Int) + ((sgn j).size : Int)) = ((a + (sgn j).size : Nat) : Int) := by
      generalize (sgn j).size = z at hsz
      unfold wrap64; omega
    show some ((4 : Int), (0 : Int), sgn j, (a : Int), wrap64 ((a : Int) + ((sgn j).size : Int)), (0 : Int)) = _
    rw [ew]
theorem l1_small (s : B) (hs : s.size ≤ 140737488351232) (a : Nat) (c0 : UInt8) (ha : a < s.size) (hc0 : s.data.toList.drop a = c0 :: s.data.toList.drop (a + 1)) (hb0 : bt s (a : Int) = (c0.toNat : Int)) (hsm : smallC c0 = true) (d : Nat) : ∀ (k e : Nat), e + d = s.size → a ≤ e → d + s.size + 50 ≤ k → a + rowN letC (s.data.toList.drop a) = e + rowN letC (s.data.toList.drop e) →
    treillageref12_Next.l1 k s (a : Int) (e : Int) = some (nameR s a (rowN letC (s.data.toList.drop a))) := by
  have h97 : 97 ≤ c0.toNat := by
    unfold smallC at hsm
    rw [Bool.and_eq_true, decide_eq_true_iff, decide_eq_true_iff] at hsm
    exact hsm.1
  induction d with
  | zero =>
    intro k e he hae hk hr
    obtain ⟨k, rfl⟩ : ∃ m, k = m + 1 := ⟨k - 1, by omega⟩
    rw [row_end (i := e) (by omega)] at hr
    rw [treillageref12_Next.l1, if_neg (by omega), ← hr]
    exact j4_small s hs a _ c0 ha hc0 hb0 hsm (by omega) k (by omega)
  | succ d ih =>
    intro k e he hae hk hr
    obtain ⟨k, rfl⟩ : ∃ m, k = m + 1 := ⟨k - 1, by omega⟩
    obtain ⟨c, hc, hb⟩ := TJ.drop_cons s e (by omega)
    rw [treillageref12_Next.l1, if_pos (by omega), if_pos (by omega), hb, refLetter_is]
    simp only [Option.bind_some]
    cases hd : letC c
    · rw [if_neg (by simp)]
      rw [row_no hc hd] at hr
      rw [← hr]
      exact j4_small s hs a _ c0 ha hc0 hb0 hsm (by omega) k (by omega)
    · rw [if_pos rfl, if_pos (by omega), if_pos (by omega), hb0, if_pos (by omega), wrapK (n := s.size) (by omega) (by omega)]
      exact ih k (e + 1) (by omega) (by omega) (by omega) (by rw [hr, row_yes hc hd])
theorem l1_sign (s : B) (hs : s.size ≤ 140737488351232) (a : Nat) (c : UInt8) (ha : a < s.size) (hc : s.data.toList.drop a = c :: s.data.toList.drop (a + 1)) (hb : bt s (a : Int) = (c.toNat : Int)) (hsm : smallC c = false) (hd : dig c = false) (k : Nat) (hk : s.size + 50 ≤ k) :
    treillageref12_Next.l1 k s (a : Int) (a : Int) = some (signR (s.data.toList.drop a) a) := by
  obtain ⟨k, rfl⟩ : ∃ m, k = m + 1 := ⟨k - 1, by omega⟩
  have hj := j4_sign s hs a c ha hc hb k (by omega)
  have p1 : (a : Int) < (s.size : Int) := by omega
  have p2 : (0 : Int) ≤ (a : Int) := by omega
  rw [treillageref12_Next.l1, if_pos p1, if_pos p2, hb, refLetter_is]
  simp only [Option.bind_some]
  cases hl : letC c
  · rw [if_neg (by simp), hj]
  · have h97 : ¬ (c.toNat : Int) ≥ 97 := by
      unfold letC at hl
      rw [hsm, hd, Bool.false_or, Bool.false_or, beq_iff_eq] at hl
      omega
    rw [if_pos rfl, if_pos p2, if_pos p1, if_neg h97, hj]
theorem refNext_is (s : B) (hs : s.size ≤ 140737488351232) (at_ : Int) (k : Nat) (hk : 4 * s.size + 100 ≤ k) : treillageref12_Next.f k s at_ = some (nextV s at_) := by
  obtain ⟨k, rfl⟩ : ∃ m, k = m + 1 := ⟨k - 1, by omega⟩
  have out : treillageref12_Next.j0 (k + 1) s at_ true = some (0, 0, E, 0, 0, 1) := by rw [treillageref12_Next.j0, if_pos rfl]
  unfold treillageref12_Next.f
  by_cases h0 : at_ < 0
  · rw [if_pos h0, out, next_out s at_ (.inl h0)]
  · rw [if_neg h0]
    by_cases h1 : (s.size : Int) < at_
    · rw [show decide (at_ > (s.size : Int)) = true from decide_eq_true h1, out, next_out s at_ (.inr h1)]
    · rw [show decide (at_ > (s.size : Int)) = false from decide_eq_false h1]
      obtain ⟨i, rfl⟩ : ∃ i : Nat, at_ = i := ⟨at_.toNat, by omega⟩
      have hi : i ≤ s.size := by omega
      rw [next_in s i hi, treillageref12_Next.j0, if_neg (by simp), refSkip_is s hs i hi k (by omega)]
      simp only [Option.bind_some]
      unfold nextN
      have hal : i + skipL false (s.data.toList.drop i) ≤ s.size := by
        have := skipL_le (s.data.toList.drop i) false
        rw [List.length_drop, size_list] at this
        omega
      generalize i + skipL false (s.data.toList.drop i) = a at hal
      by_cases he : a = s.size
      · rw [if_pos (by omega), List.drop_eq_nil_of_le (by rw [size_list]; omega)]
        rfl
      · have ha : a < s.size := by omega
        obtain ⟨c, hc, hb⟩ := TJ.drop_cons s a ha
        rw [if_neg (by omega), if_pos (by omega), if_pos (by omega), hb]
        by_cases h34 : c.toNat = 34
        · have hd : dig c = false := by unfold dig; rw [h34]; rfl
          rw [if_pos (by omega), refText_is s hs a ha k (by omega)]
          simp only [Option.bind_some]
          rw [hc, at_text hd h34]
        · rw [if_neg (by omega), refDigit_is]
          simp only [Option.bind_some]
          cases hd : dig c
          · rw [if_neg (by simp)]
            cases hsm : smallC c
            · rw [l1_sign s hs a c ha hc hb hsm hd k (by omega), hc, at_sign hd h34 hsm]
            · rw [l1_small s hs a c ha hc hb hsm (s.size - a) k a (by omega) (by omega) (by omega) rfl, hc, at_name hd h34 hsm]
          · rw [if_pos rfl, l0_is s hs a (s.size - a) k a (by omega) (by omega) (by omega) rfl, hc, at_num hd]
end Go.Proofs.YteonbgknmpobpaaDoor.TT
/- All tokens of a text: the plain law. -/
namespace Go.Proofs.YteonbgknmpobpaaDoor.TU
open Go.RowKit Go.Proofs.YteonbgknmpobpaaDoorW.PrintWords Go.Proofs.YteonbgknmpobpaaDoorW.PrintLast Go.Proofs.YteonbgknmpobpaaDoorW.PrintMore
open Go.Proofs.YteonbgknmpobpaaDoor Go.Proofs.YteonbgknmpobpaaDoor.PTokenLex
open Go.Proofs.YteonbgknmpobpaaDoor.TJ (dig readV size_list)
open Go.Proofs.YteonbgknmpobpaaDoor.TK (skipL skipL_le)
open Go.Proofs.YteonbgknmpobpaaDoor.TL (smallC letC rowN rowN_le)
open Go.Proofs.YteonbgknmpobpaaDoor.TM (R6 E numV numOf cutB)
open Go.Proofs.YteonbgknmpobpaaDoor.TO (textV textF errV stepC t_34 t_long t_no t_step t_end)
open Go.Proofs.YteonbgknmpobpaaDoor.TP (sgn sgnAt sfind signR nameR atV nextN nextV)
open Go.Proofs.YteonbgknmpobpaaDoor.TQ (at_num at_text at_name at_sign next_out next_in sgn_size)
open Go.Proofs.YteonbgknmpobpaaDoor.TS (step_le prefix_take)
open Go.Proofs.YteonbgknmpobpaaDoor.TT (refNext_is sfind_lt sgn_ne)
set_option linter.unusedVariables false

abbrev B := ByteArray
abbrev L8 := List UInt8
/-- A token that is one goes on: its end lies behind the place, and in the text. -/
def Ok (r : R6) (a n : Nat) : Prop := r.2.2.2.2.2 = 0 → r.1 ≠ 0 → ∃ j : Nat, r.2.2.2.2.1 = (j : Int) ∧ a < j ∧ j ≤ n
theorem ok_err (f : Nat) (e : Int) (he : e ≠ 0) (a n : Nat) : Ok (errV f e) a n := fun h => absurd h he
theorem text_ok (f : Nat) : ∀ (k : Nat) (l : L8) (out : List Int) (a n : Nat), a + l.length ≤ n → Ok (textF f k l out a) a n
  | 0, l, out, a, n, h => ok_err f 20 (by decide) a n
  | k + 1, [], out, a, n, h => ok_err f 20 (by decide) a n
  | k + 1, c :: r, out, a, n, h => by
    rw [List.length_cons] at h
    by_cases h34 : c.toNat = 34
    · by_cases hl : 256 < out.length
      · rw [t_long h34 hl]; exact ok_err f 4 (by decide) a n
      · rw [t_34 h34 hl]
        exact fun _ _ => ⟨a + 1, rfl, by omega, by omega⟩
    · cases hst : stepC c r with
      | none => rw [t_no h34 hst]; exact ok_err f 20 (by decide) a n
      | some bn =>
        obtain ⟨b, m⟩ := bn
        obtain ⟨m1, m2⟩ := step_le hst
        rw [t_step h34 hst]
        have ih := text_ok f k ((c :: r).drop m) (out ++ [b]) (a + m) n (by rw [List.length_drop, List.length_cons]; omega)
        intro h1 h2
        obtain ⟨j, e, p, q⟩ := ih h1 h2
        exact ⟨j, e, by omega, q⟩
theorem row_pos {p : UInt8 → Bool} {c : UInt8} {r : L8} (h : p c = true) : 0 < rowN p (c :: r) := by rw [rowN, if_pos h]; omega
theorem at_ok (s : B) (a : Nat) (ha : a ≤ s.size) : Ok (atV s a (s.data.toList.drop a)) a s.size := by
  by_cases hlt : a < s.size
  · obtain ⟨c, hc, _⟩ := TK.at_byte s a hlt
    rw [hc]
    cases hd : dig c
    · by_cases h34 : c.toNat = 34
      · rw [at_text hd h34]
        have := text_ok a (s.size + 1) (s.data.toList.drop (a + 1)) [] (a + 1) s.size (by rw [List.length_drop, size_list]; omega)
        intro h1 h2
        obtain ⟨j, e, p, q⟩ := this h1 h2
        exact ⟨j, e, by omega, q⟩
      · cases hsm : smallC c
        · rw [at_sign hd h34 hsm]
          unfold signR
          cases hf : sfind (c :: s.data.toList.drop (a + 1)) 15 0 with
          | none => exact ok_err a 20 (by decide) _ _
          | some k =>
            have hk := sfind_lt _ _ _ hf
            have hp := sfind_at _ _ _ _ hf
            unfold sgnAt at hp
            rw [prefix_take, decide_eq_true_iff, ← hc] at hp
            have hl := congrArg List.length hp
            rw [List.length_take, List.length_drop, size_list] at hl
            have hn := List.length_pos_iff.2 (sgn_ne k (by omega))
            rw [size_list] at hl hn
            exact fun _ _ => ⟨a + (sgn k).size, rfl, by omega, by omega⟩
        · rw [at_name hd h34 hsm]
          unfold nameR
          have hp : 0 < rowN letC (c :: s.data.toList.drop (a + 1)) := row_pos (by unfold letC; rw [hsm]; rfl)
          have hle := rowN_le letC (c :: s.data.toList.drop (a + 1))
          rw [← hc, List.length_drop, size_list] at hle
          rw [hc] at hle
          split
          · exact fun _ _ => ⟨_, rfl, by omega, by omega⟩
          · exact ok_err a 20 (by decide) _ _
    · rw [at_num hd]
      unfold numV numOf
      have hp : 0 < rowN dig (c :: s.data.toList.drop (a + 1)) := row_pos hd
      have hle := rowN_le dig (s.data.toList.drop a)
      rw [List.length_drop, size_list] at hle
      rw [← hc] at hp
      split
      · exact fun _ _ => ⟨_, rfl, by omega, by omega⟩
      · split
        · exact ok_err a 25 (by decide) _ _
        · exact ok_err a 20 (by decide) _ _
  · rw [List.drop_eq_nil_of_le (by rw [size_list]; omega)]
    exact fun _ h => absurd rfl h
where
  sfind_at : ∀ (l : L8) (d k j : Nat), sfind l d k = some j → sgnAt l j = true
    | l, 0, k, j, h => by cases h
    | l, d + 1, k, j, h => by
      rw [sfind] at h
      split at h
      · rename_i hh; injection h with h; rw [← h]; exact hh
      · exact sfind_at l d (k + 1) j h
theorem next_ok (s : B) (i : Nat) (hi : i ≤ s.size) : Ok (nextV s (i : Int)) i s.size := by
  rw [next_in s i hi]
  unfold nextN
  have hal : i + skipL false (s.data.toList.drop i) ≤ s.size := by
    have := skipL_le (s.data.toList.drop i) false
    rw [List.length_drop, size_list] at this
    omega
  intro h1 h2
  obtain ⟨j, e, p, q⟩ := at_ok s _ hal h1 h2
  exact ⟨j, e, by omega, q⟩

def tokS (r : R6) : S28 := ⟨r.1, r.2.1, r.2.2.1, r.2.2.2.1⟩
def lexF (s : B) : Nat → List S28 → Int → List S28 × Int × Int
  | 0, _, _ => ([], 0, 0)
  | k + 1, l, i => if (nextV s i).2.2.2.2.2 = 0 then (if (nextV s i).1 = 0 then (l, 0, 0) else lexF s k (l ++ [tokS (nextV s i)]) (nextV s i).2.2.2.2.1) else ([], (nextV s i).2.2.2.2.1, (nextV s i).2.2.2.2.2)
def lexV (s : B) : List S28 × Int × Int := if 4096 < s.size then ([], 0, 4) else lexF s (s.size + 1) [] 0
theorem lex_err {s : B} {k : Nat} {l : List S28} {i : Int} (h : ¬ (nextV s i).2.2.2.2.2 = 0) : lexF s (k + 1) l i = ([], (nextV s i).2.2.2.2.1, (nextV s i).2.2.2.2.2) := by rw [lexF, if_neg h]
theorem lex_end {s : B} {k : Nat} {l : List S28} {i : Int} (h : (nextV s i).2.2.2.2.2 = 0) (h2 : (nextV s i).1 = 0) : lexF s (k + 1) l i = (l, 0, 0) := by rw [lexF, if_pos h, if_pos h2]
theorem lex_go {s : B} {k : Nat} {l : List S28} {i : Int} (h : (nextV s i).2.2.2.2.2 = 0) (h2 : ¬ (nextV s i).1 = 0) : lexF s (k + 1) l i = lexF s k (l ++ [tokS (nextV s i)]) (nextV s i).2.2.2.2.1 := by rw [lexF, if_pos h, if_neg h2]

theorem refLex_loop (s : B) (hs : s.size ≤ 4096) (d : Nat) : ∀ (k i c g : Nat) (l : List S28), i + d = s.size → c ≤ i → 4 * s.size + 200 + d ≤ k → d < g → l.length ≤ c →
    treillageref12_Lex.l0 k s l (i : Int) (c : Int) = some (lexF s g l (i : Int)) := by
  induction d using Nat.strongRecOn with
  | ind d ih =>
    intro k i c g l hi hc hk hg hl
    obtain ⟨k, rfl⟩ : ∃ m, k = m + 1 := ⟨k - 1, by omega⟩
    obtain ⟨g, rfl⟩ : ∃ m, g = m + 1 := ⟨g - 1, by omega⟩
    rw [treillageref12_Lex.l0, if_pos (by omega), refNext_is s (by omega) _ k (by omega)]
    simp only [Option.bind_some]
    have hok := next_ok s i (by omega)
    by_cases h0 : (nextV s (i : Int)).2.2.2.2.2 = 0
    · rw [if_pos h0]
      by_cases h1 : (nextV s (i : Int)).1 = 0
      · rw [if_pos h1, lex_end h0 h1]
      · obtain ⟨j, e, p, q⟩ := hok h0 h1
        rw [if_neg h1, if_pos (by omega), lex_go h0 h1, e, TK.wrapK (n := 5000) (by omega) (by omega)]
        exact ih (s.size - j) (by omega) k j (c + 1) g _ (by omega) (by omega) (by omega) (by omega) (by rw [List.length_append]; simp; omega)
    · rw [if_neg h0, lex_err h0]
theorem refLex_is (s : B) (hs : s.size ≤ 4096) : treillageref12_Lex.f (5 * s.size + 300) s = some (lexV s) := by
  unfold treillageref12_Lex.f lexV
  rw [if_neg (by omega), if_neg (by omega)]
  exact refLex_loop s hs s.size _ 0 0 _ [] (by omega) (by omega) (by omega) (by omega) (by simp)
end Go.Proofs.YteonbgknmpobpaaDoor.TU
/- The program's Lex. -/
namespace Go.Proofs.YteonbgknmpobpaaDoor.TV
open Go.RowKit Go.Proofs.YteonbgknmpobpaaDoorW.PrintWords Go.Proofs.YteonbgknmpobpaaDoorW.PrintLast Go.Proofs.YteonbgknmpobpaaDoorW.PrintMore
open Go.Proofs.YteonbgknmpobpaaDoor Go.Proofs.YteonbgknmpobpaaDoor.PTokenLex
open Go.Proofs.YteonbgknmpobpaaDoor.TM (R6 E tokV zeroT tok_put put_below cells4 blk_dr)
open Go.Proofs.YteonbgknmpobpaaDoor.TP (GT nextV)
open Go.Proofs.YteonbgknmpobpaaDoor.TQ (Post out_any in_any next_out next_in tok_call below_on)
open Go.Proofs.YteonbgknmpobpaaDoor.TU
set_option linter.unusedVariables false

theorem next_any (s : B) (i : Int) (w : World) (hG : GT w) (hs : s.size ≤ 140737488351232) : Calls Tryd.prog 10 #[.string s, .int .i64 i] w fun e w' => e = .returned (tokV (nextV s i)) ∧ Below w.heap.size w w' := by
  by_cases h : i < 0 ∨ (s.size : Int) < i
  · rw [next_out s i h]; exact out_any s i w h
  · obtain ⟨n, rfl⟩ : ∃ n : Nat, i = n := ⟨i.toNat, by omega⟩
    rw [next_in s n (by omega)]
    exact in_any s n w hG hs (by omega)
theorem info24 : (Tryd.prog.info? 24).map (fun i => (i.zero, i.size, i.bytes)) = some (some (.agg #[(.int .i64 0), (.int .i64 0), (.string ⟨#[]⟩), (.int .i64 0)]), 4, 40) := by kernel_rfl
def LexPost (w : World) (r : List S28 × Int × Int) (e : Ending) (w' : World) : Prop := ∃ v : Value, e = .returned (.tuple #[v, .int .i64 r.2.1, .int .i64 r.2.2]) ∧ Kd.R k28 24 w' w.heap.size (fun _ => True) v r.1 ∧ Below w.heap.size w w'
/-- The four stores of a token into its own block leave the row of tokens. -/
theorem far4 {W : World} {base g : Nat} {v : Value} {l : List S28} {k n p : Int} {t : B} (h : Kd.R k28 24 W base (fun k => k ≠ g) v l) :
    Kd.R k28 24 ((((W.setCell ⟨g, 0, none⟩ (.int .i64 k)).setCell ⟨g, 1, none⟩ (.int .i64 n)).setCell ⟨g, 2, none⟩ (.string t)).setCell ⟨g, 3, none⟩ (.int .i64 p)) base (fun k => k ≠ g) v l :=
  Kd.R_far (p := ⟨g, 3, none⟩) (Kd.R_far (p := ⟨g, 2, none⟩) (Kd.R_far (p := ⟨g, 1, none⟩) (Kd.R_far (p := ⟨g, 0, none⟩) h (fun _ hk => hk) _) (fun _ hk => hk) _) (fun _ hk => hk) _) (fun _ hk => hk) _
set_option maxHeartbeats 8000000 in
set_option maxRecDepth 100000 in
theorem lex_any (s : B) (w : World) (hG : GT w) (hs : s.size ≤ 140737488351232) : Calls Tryd.prog 13 #[.string s] w (LexPost w (lexV s)) := by
  by_cases h4 : 4096 < s.size
  · have hd : decide (4096 < (s.size : Int)) = true := decide_eq_true (by omega)
    have hv : lexV s = ([], 0, 4) := by unfold lexV; rw [if_pos h4]
    rw [hv]
    clear h4 hv hG
    go_enter Tryd.func13, Tryd.ntmps13
    go_wp2
    go_ret3
    exact ⟨_, rfl, Kd.R_nil _ _ _ _ _, Below.refl _ _⟩
  · have hd : decide (4096 < (s.size : Int)) = false := decide_eq_false (by omega)
    have hv : lexV s = lexF s (s.size + 1) [] 0 := by unfold lexV; rw [if_neg h4]
    rw [hv]
    obtain ⟨T, hT⟩ : ∃ T, T = lexF s (s.size + 1) [] 0 := ⟨_, rfl⟩
    rw [← hT]
    have HT := Lib.hid hT
    have CN := Lib.hid fun wx (h : Below w.heap.size w wx) i => next_any s i wx (hG.below h) hs
    have HOK := Lib.hid (next_ok s)
    have hs4 : s.size ≤ 4096 := by omega
    clear h4 hv hG hT
    go_enter Tryd.func13, Tryd.ntmps13
    go_wp2
    go_loopg [2, 3] (s.size + 1) (fun g v2 v3 wx => ∃ (i : Nat) (l : List S28), i ≤ s.size ∧ l.length ≤ i ∧ s.size < g + i ∧ v3 = .int .i64 i ∧ Aside0 (T = lexF s g l (i : Int)) ∧ Aside0 (Kd.R k28 24 wx w.heap.size (fun _ => True) v2 l) ∧ Aside0 (Below w.heap.size w wx))
    case atStart => exact ⟨0, [], by omega, by simp, by omega, rfl, ⟨HT.out⟩, ⟨Kd.R_nil _ _ _ _ _⟩, ⟨Below.refl _ _⟩⟩
    case round =>
      obtain ⟨i, l, hi, hl, hgi, rfl, HA, HO, HB⟩ := hrel
      obtain ⟨g1, rfl⟩ : ∃ m, gk = m + 1 := ⟨gk - 1, by omega⟩
      have hok := HOK.out i hi
      have HE := Lib.hid (lex_err (s := s) (k := g1) (l := l) (i := (i : Int)))
      have HN := Lib.hid (lex_end (s := s) (k := g1) (l := l) (i := (i : Int)))
      have HGo := Lib.hid (lex_go (s := s) (k := g1) (l := l) (i := (i : Int)))
      obtain ⟨⟨k, n, t, p, nx, er⟩, hr⟩ : ∃ r, nextV s (i : Int) = r := ⟨_, rfl⟩
      have C1 := Lib.hid (tok_call (CN.out wr HB.out (i : Int)) k n t p nx er hr)
      rw [hr] at hok HE HN HGo
      clear hr
      by_cases h0 : er = 0
      · subst h0
        by_cases h1 : k = 0
        · subst h1
          have HV := Lib.hid (HA.out.trans (HN.out rfl rfl))
          clear HE HN HGo hok HA
          go_wp2_with fail
          refine C1.out.mono ?_
          rintro e w2 ⟨rfl, hB⟩
          have HO2 := Lib.hid (Kd.R_below HO.out hB)
          have HB2 := Lib.hid (below_on HB.out hB)
          clear hB
          go_wp2_with ((with_reducible refine gate_dst (N := 5) rfl ?_); refine box_event ?hg (N := 5) ?hd (cs := zeroT) (t := 24) ?hr ?_; (case hd => rfl); (case hg => rfl); (case hr => first | (go_simp; done) | (go_simp; rfl)); intro gb hg w3 hbox hb; have BK := Lib.hid hbox; have GE := Lib.hid (Nat.le_trans (below_size HB2.out) (Nat.le_of_eq hg.symm)); have HB3 := Lib.hid (below_on HB2.out hb); have HO3 := Lib.hid (Kd.R_mono (Kd.R_below (Kd.R_elderB HO2.out gb (Nat.le_of_eq hg.symm)) hb) (fun _ hk => hk.2)); obtain ⟨c0, c1, c2, c3, f0, f1, f2, f3⟩ := cells4 hbox; clear hg hbox hb)
          go_ret3
          exact ⟨_, by rw [HV.out]; rfl, by rw [HV.out]; exact Kd.R_mono (far4 HO3.out) (fun _ _ => trivial), put_below HB3.out GE.out⟩
        · obtain ⟨j, hj, hj1, hj2⟩ := hok rfl h1
          have hj' : nx = (j : Int) := hj
          subst hj'
          have HV := Aside0.mk (HA.out.trans (HGo.out rfl h1))
          have m1 : (k == 0) = false := beq_eq_false_iff_ne.2 h1
          clear HE HN HGo hok HA h1 hj
          go_wp2_with fail
          refine C1.out.mono ?_
          rintro e w2 ⟨rfl, hB⟩
          have HO2 := Lib.hid (Kd.R_below HO.out hB)
          have HB2 := Lib.hid (below_on HB.out hB)
          clear hB
          go_wp2_with (first | ((with_reducible refine gate_dst (N := 5) rfl ?_); refine box_event ?hg (N := 5) ?hd (cs := zeroT) (t := 24) ?hr ?_; (case hd => rfl); (case hg => rfl); (case hr => first | (go_simp; done) | (go_simp; rfl)); intro gb hg w3 hbox hb; have BK := Lib.hid hbox; have GE := Lib.hid (Nat.le_trans (below_size HB2.out) (Nat.le_of_eq hg.symm)); have HB3 := Lib.hid (below_on HB2.out hb); have HO3 := Lib.hid (Kd.R_mono (Kd.R_below (Kd.R_elderB HO2.out gb (Nat.le_of_eq hg.symm)) hb) (fun _ hk => hk.2)); obtain ⟨c0, c1, c2, c3, f0, f1, f2, f3⟩ := cells4 hbox; clear hg hbox hb) | ((with_reducible refine gate_builtin (b := .append) (xs := #[.tmp 28, .tmp 30]) rfl ?_); at_builtin; refine Kd.R_append k28 (w0 := w) w.heap.size rfl (.tmp 28) (.tmp 30) 33 24 (.agg #[(.int .i64 0), (.int .i64 0), (.string ⟨#[]⟩), (.int .i64 0)]) 40 rfl Tryd.underlying33 info24 rfl (by decide) (by omega) u2 l (⟨k, n, t, p⟩ : S28) [.int .i64 k, .int .i64 n, .string t, .int .i64 p] (fun k_ => k_ ≠ gb) (fun _ => False) rfl (by first | (go_simp; done) | (go_simp; rfl)) ?aP (fun _ hk => hk.elim) ?aF ?aO ?aB ?aS ?aL ?_; (case aP => exact k28_mkM _ _ _ (⟨k, n, t, p⟩ : S28)); (case aB => exact put_below HB3.out GE.out); (case aF => exact (fun k_ hk => Kd.freshB (tok_put BK.out) k_ hk)); (case aO => exact far4 HO3.out); (case aS => exact below_size (put_below HB3.out GE.out)); (case aL => omega); intro v71 w51 ho hb hg hat; have HB4 := Aside0.mk hb; have HO4 := Aside0.mk (Kd.R_mono ho (fun _ _ => trivial)); clear ho hb hg hat))
          go_roundg g1
          case measure => omega
          case rel => exact ⟨j, l ++ [(⟨k, n, t, p⟩ : S28)], by omega, by simp; omega, by omega, rfl, HV, HO4, HB4⟩
      · have HV := Lib.hid (HA.out.trans (HE.out h0))
        have m0 : (er != 0) = true := bne_iff_ne.2 h0
        clear HE HN HGo hok HA h0
        go_wp2_with fail
        refine C1.out.mono ?_
        rintro e w2 ⟨rfl, hB⟩
        have HO2 := Lib.hid (Kd.R_below HO.out hB)
        have HB2 := Lib.hid (below_on HB.out hB)
        clear hB
        go_wp2_with ((with_reducible refine gate_dst (N := 5) rfl ?_); refine box_event ?hg (N := 5) ?hd (cs := zeroT) (t := 24) ?hr ?_; (case hd => rfl); (case hg => rfl); (case hr => first | (go_simp; done) | (go_simp; rfl)); intro gb hg w3 hbox hb; have BK := Lib.hid hbox; have GE := Lib.hid (Nat.le_trans (below_size HB2.out) (Nat.le_of_eq hg.symm)); have HB3 := Lib.hid (below_on HB2.out hb); have HO3 := Lib.hid (Kd.R_mono (Kd.R_below (Kd.R_elderB HO2.out gb (Nat.le_of_eq hg.symm)) hb) (fun _ hk => hk.2)); obtain ⟨c0, c1, c2, c3, f0, f1, f2, f3⟩ := cells4 hbox; clear hg hbox hb)
        go_ret3
        exact ⟨_, by rw [HV.out]; rfl, by rw [HV.out]; exact Kd.R_nil _ _ _ _ _, put_below HB3.out GE.out⟩
end Go.Proofs.YteonbgknmpobpaaDoor.TV
/- The example of the laws of tokens. -/
namespace Go.Proofs.YteonbgknmpobpaaDoor.TW
open Go.RowKit Go.Proofs.YteonbgknmpobpaaDoorW.PrintWords Go.Proofs.YteonbgknmpobpaaDoorW.PrintLast Go.Proofs.YteonbgknmpobpaaDoorW.PrintMore
open Go.Proofs.YteonbgknmpobpaaDoor Go.Proofs.YteonbgknmpobpaaDoor.PTokenLex
open Go.Proofs.YteonbgknmpobpaaDoor.TP (GT)
open Go.Proofs.YteonbgknmpobpaaDoor.TQ (below_on)
open Go.Proofs.YteonbgknmpobpaaDoor.TU Go.Proofs.YteonbgknmpobpaaDoor.TV
set_option linter.unusedVariables false

def exS : B := ⟨#[97, 58, 32, 62, 61, 51, 59, 32, 35, 32, 120]⟩
def exL : List S28 := [⟨2, 0, ⟨#[97]⟩, 0⟩, ⟨4, 0, ⟨#[58]⟩, 1⟩, ⟨4, 0, ⟨#[62, 61]⟩, 3⟩, ⟨1, 3, ⟨#[]⟩, 5⟩, ⟨4, 0, ⟨#[59]⟩, 6⟩]
theorem ex_is : lexV exS = (exL, 0, 0) := by kernel_rfl
set_option maxHeartbeats 2000000 in
set_option maxRecDepth 100000 in
theorem awake_any (w : World) (hG : GT w) : Calls Tryd.prog 9 #[] w fun e w' => e = .returned (.bool true) ∧ Below w.heap.size w w' := by
  have C1 := lex_any exS w hG (by decide)
  unfold LexPost at C1
  rw [ex_is] at C1
  have C1 := Lib.hid C1
  clear hG
  go_enter Tryd.func9, Tryd.ntmps9
  go_wp2_with fail
  refine C1.out.mono ?_
  rintro e w1 ⟨v, rfl, hR, hB⟩
  obtain ⟨A, c, rfl⟩ := Kd.R_slice hR
  obtain ⟨_, hc, hC⟩ := Kd.R_reads' hR
  obtain ⟨ad, rfl, a0, a1, a2, a3⟩ := at_T28 hC 0 (by decide) (by decide)
  obtain ⟨ad', e1, b0, b1, b2, b3⟩ := at_T28 hC 2 (by decide) (by decide)
  obtain rfl : ad = ad' := by injection e1
  obtain ⟨ad', e1, d0, d1, d2, d3⟩ := at_T28 hC 3 (by decide) (by decide)
  obtain rfl : ad = ad' := by injection e1
  have HB := Lib.hid hB
  have a0' : w1.cell? ad = some (.int .i64 2) := a0
  have a1' : w1.cell? ⟨ad.block, ad.off + 1, none⟩ = some (.int .i64 0) := a1
  have a2' : w1.cell? ⟨ad.block, ad.off + 2, none⟩ = some (.string ⟨#[97]⟩) := a2
  have a3' : w1.cell? ⟨ad.block, ad.off + 3, none⟩ = some (.int .i64 0) := a3
  have b0' : w1.cell? ⟨ad.block, ad.off + 8, none⟩ = some (.int .i64 4) := b0
  have b1' : w1.cell? ⟨ad.block, ad.off + 9, none⟩ = some (.int .i64 0) := b1
  have b1'' : w1.cell? ⟨ad.block, ad.off + 8 + 1, none⟩ = some (.int .i64 0) := b1
  have b2' : w1.cell? ⟨ad.block, ad.off + 10, none⟩ = some (.string ⟨#[62, 61]⟩) := b2
  have b2'' : w1.cell? ⟨ad.block, ad.off + 8 + 2, none⟩ = some (.string ⟨#[62, 61]⟩) := b2
  have b3' : w1.cell? ⟨ad.block, ad.off + 11, none⟩ = some (.int .i64 3) := b3
  have b3'' : w1.cell? ⟨ad.block, ad.off + 8 + 3, none⟩ = some (.int .i64 3) := b3
  have d0' : w1.cell? ⟨ad.block, ad.off + 12, none⟩ = some (.int .i64 1) := d0
  have d1' : w1.cell? ⟨ad.block, ad.off + 13, none⟩ = some (.int .i64 3) := d1
  have d1'' : w1.cell? ⟨ad.block, ad.off + 12 + 1, none⟩ = some (.int .i64 3) := d1
  have d2' : w1.cell? ⟨ad.block, ad.off + 14, none⟩ = some (.string ⟨#[]⟩) := d2
  have d2'' : w1.cell? ⟨ad.block, ad.off + 12 + 2, none⟩ = some (.string ⟨#[]⟩) := d2
  have d3' : w1.cell? ⟨ad.block, ad.off + 15, none⟩ = some (.int .i64 5) := d3
  have d3'' : w1.cell? ⟨ad.block, ad.off + 12 + 3, none⟩ = some (.int .i64 5) := d3
  clear hR hC hB a0 a1 a2 a3 b0 b1 b2 b3 d0 d1 d2 d3
  go_wp2_with fail
  go_ret
  exact ⟨rfl, HB.out⟩
end Go.Proofs.YteonbgknmpobpaaDoor.TW
