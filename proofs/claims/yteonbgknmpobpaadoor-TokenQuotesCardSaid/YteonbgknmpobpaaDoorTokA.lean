/- Several texts of mine in one (merge.py). -/
import Derived.Test.YteonbgknmpobpaaDoorTokR
import Derived.Test.YteonbgknmpobpaaDoorPTokenLexx2
import Derived.Test.YteonbgknmpobpaaDoorPTokenLexx3
import Derived.Lib.Strings
import Derived.Deep.LoopGhost
import Derived.OpenShut
import Derived.Lib.Hide
import Derived.Test.YteonbgknmpobpaaDoorShelf
import Derived.Deep.QuietTactic
import Derived.BigQuiet
/- Which number a text is: the program's reader and the document's come to the same plain function of the text's bytes. -/
namespace Go.Proofs.YteonbgknmpobpaaDoor.TJ
open Go.RowKit Go.Proofs.YteonbgknmpobpaaDoorW.PrintWords Go.Proofs.YteonbgknmpobpaaDoorW.PrintLast Go.Proofs.YteonbgknmpobpaaDoorW.PrintMore
open Go.Proofs.YteonbgknmpobpaaDoor.PTokenLex
set_option linter.unusedVariables false

def dig (c : UInt8) : Bool := decide (48 ≤ c.toNat) && decide (c.toNat ≤ 57)
def val (n : Int) (l : List UInt8) : Int := l.foldl (fun n c => n * 10 + ((c.toNat : Int) - 48)) n
def plainB : List UInt8 → Bool
  | [] => false
  | c :: r => !(decide (c.toNat = 48) && decide (0 < r.length)) && (c :: r).all dig
/-- Digits, read: too great, or the number. -/
def readD (neg : Bool) (ds : List UInt8) : Int × Int :=
  if !plainB ds || (neg && ds == [48]) then (0, 2) else if val 0 ds > 9007199254740992 then (0, 25) else (if neg then -(val 0 ds) else val 0 ds, 0)
/-- What a text tells as a number. -/
def readV (l : List UInt8) : Int × Int := if l.head? = some 45 then readD true l.tail else readD false l

theorem wrap_in {x : Int} (h : -9223372036854775808 ≤ x ∧ x ≤ 9223372036854775807) : wrap64 x = x := by unfold wrap64; omega
theorem wrap_succ {i n : Nat} (h : i < n) (hn : n ≤ 140737488351232) : wrap64 ((i : Int) + 1) = ((i + 1 : Nat) : Int) := by unfold wrap64; omega
theorem size_list (s : ByteArray) : s.data.toList.length = s.size := by rw [Array.length_toList]; rfl
theorem bt_get (s : ByteArray) (i : Nat) (h : i < s.data.toList.length) : bt s (i : Int) = ((s.data.toList[i]'h).toNat : Int) := by
  have h' : i < s.size := by rw [← size_list]; exact h
  have := bt_at s (i : Int) (by simpa using h')
  rw [← this]
  simp only [Int.toNat_natCast]
  rfl
theorem drop_cons (s : ByteArray) (i : Nat) (h : i < s.size) : ∃ c, s.data.toList.drop i = c :: s.data.toList.drop (i + 1) ∧ bt s (i : Int) = (c.toNat : Int) := by
  have h' : i < s.data.toList.length := by rw [size_list]; exact h
  exact ⟨s.data.toList[i], List.drop_eq_getElem_cons h', bt_get s i h'⟩
theorem dig_le {c : UInt8} (h : dig c = true) : 48 ≤ c.toNat ∧ c.toNat ≤ 57 := by simpa [dig] using h

theorem plain_loop (s : ByteArray) (hs : s.size ≤ 140737488351232) (d : Nat) : ∀ (k i : Nat), i + d = s.size → d < k →
    num_plain.l0 k s (s.size : Int) (i : Int) = some ((s.data.toList.drop i).all dig) := by
  induction d with
  | zero =>
    intro k i hi hk
    obtain ⟨k, rfl⟩ : ∃ m, k = m + 1 := ⟨k - 1, by omega⟩
    simp only [num_plain.l0]
    rw [if_neg (by omega), List.drop_eq_nil_of_le (by rw [size_list]; omega)]
    rfl
  | succ d ih =>
    intro k i hi hk
    obtain ⟨k, rfl⟩ : ∃ m, k = m + 1 := ⟨k - 1, by omega⟩
    obtain ⟨c, hc, hb⟩ := drop_cons s i (by omega)
    simp only [num_plain.l0]
    rw [if_pos (by omega), if_pos (by omega), if_pos (by omega), hb, hc, List.all_cons]
    by_cases h1 : c.toNat < 48
    · rw [if_pos (by omega)]; simp [dig]; omega
    · rw [if_neg (by omega)]
      by_cases h2 : c.toNat > 57
      · rw [if_pos (by omega)]; simp [dig]; omega
      · rw [if_neg (by omega), wrap_succ (n := s.size) (by omega) hs, ih k (i + 1) (by omega) (by omega)]
        have : dig c = true := by simp [dig]; omega
        rw [this, Bool.true_and]
theorem nil_iff (s : ByteArray) : s.toList = [] ↔ s.size = 0 := by
  rw [Lib.toList_data, ← size_list, List.length_eq_zero_iff]
theorem plain_is (s : ByteArray) (hs : s.size ≤ 140737488351232) (k : Nat) (hk : s.size + 3 < k) : num_plain.f k s = some (plainB s.data.toList) := by
  unfold num_plain.f
  by_cases h0 : s.size = 0
  · rw [if_pos ((nil_iff s).2 h0)]
    obtain ⟨k, rfl⟩ : ∃ m, k = m + 1 := ⟨k - 1, by omega⟩
    simp only [num_plain.j0, if_true]
    rw [List.eq_nil_of_length_eq_zero (l := s.data.toList) (by rw [size_list]; exact h0)]
    rfl
  · rw [if_neg (by rw [nil_iff]; exact h0), if_pos (by omega)]
    obtain ⟨c, hc, hb⟩ := drop_cons s 0 (by omega)
    rw [List.drop_zero] at hc
    have hl := plain_loop s hs s.size (k - 1) 0 (by omega) (by omega)
    rw [List.drop_zero] at hl
    have hlen : (s.data.toList.drop (0 + 1)).length = s.size - 1 := by rw [List.length_drop, size_list]
    have hb0 : bt s 0 = (c.toNat : Int) := hb
    obtain ⟨k, rfl⟩ : ∃ m, k = m + 1 := ⟨k - 1, by omega⟩
    rw [Nat.add_sub_cancel] at hl
    have hl' : num_plain.l0 k s (s.size : Int) 0 = some (s.data.toList.all dig) := hl
    have hp : plainB s.data.toList = (!(decide (c.toNat = 48) && decide (1 < s.size)) && s.data.toList.all dig) := by
      rw [hc, plainB, hlen]
      congr 3
      rw [decide_eq_decide]; omega
    rw [hp, hb0]
    by_cases h1 : c.toNat = 48
    · rw [if_pos (by omega)]
      simp only [num_plain.j0]
      by_cases h2 : 1 < s.size
      · rw [if_pos (decide_eq_true (by omega))]; simp [h1, h2]
      · rw [if_neg (by simp; omega), hl']; simp [h1, h2]
    · rw [if_neg (by omega)]
      simp only [num_plain.j0, Bool.false_eq_true, if_false]
      rw [hl']; simp [h1]

theorem val_cons (n : Int) (c : UInt8) (r : List UInt8) : val n (c :: r) = val (n * 10 + ((c.toNat : Int) - 48)) r := rfl
theorem val_ge (l : List UInt8) : ∀ (n : Int), 0 ≤ n → l.all dig = true → n ≤ val n l := by
  induction l with
  | nil => intro n hn _; exact Int.le_refl _
  | cons c r ih =>
    intro n hn h
    rw [List.all_cons, Bool.and_eq_true] at h
    have := dig_le h.1
    rw [val_cons]
    exact Int.le_trans (by omega) (ih _ (by omega) h.2)

theorem read_loop (s : ByteArray) (hs : s.size ≤ 140737488351232) (neg : Bool) (d : Nat) : ∀ (k i : Nat) (n : Int), i + d = s.size → d < k → (s.data.toList.drop i).all dig = true → 0 ≤ n → n ≤ 9007199254740992 →
    num_Read.l0 k s neg n (s.size : Int) (i : Int) = some (if val n (s.data.toList.drop i) > 9007199254740992 then (0, 25) else (if neg then -(val n (s.data.toList.drop i)) else val n (s.data.toList.drop i), 0)) := by
  induction d with
  | zero =>
    intro k i n hi hk _ h0 h1
    obtain ⟨k, rfl⟩ : ∃ m, k = m + 1 := ⟨k - 1, by omega⟩
    simp only [num_Read.l0]
    rw [if_neg (by omega), List.drop_eq_nil_of_le (by rw [size_list]; omega)]
    have : val n [] = n := rfl
    rw [this, if_neg (show ¬ n > 9007199254740992 by omega)]
    cases neg
    · simp
    · rw [if_pos rfl, if_pos rfl, wrap_in (by omega)]
  | succ d ih =>
    intro k i n hi hk ha h0 h1
    obtain ⟨k, rfl⟩ : ∃ m, k = m + 1 := ⟨k - 1, by omega⟩
    obtain ⟨c, hc, hb⟩ := drop_cons s i (by omega)
    rw [hc, List.all_cons, Bool.and_eq_true] at ha
    have hd := dig_le ha.1
    simp only [num_Read.l0]
    rw [if_pos (by omega), if_pos (by omega), if_pos (by omega), hb, hc, val_cons]
    have e : wrap64 (wrap64 (n * 10) + ((c.toNat : Int) - 48) % 256) = n * 10 + ((c.toNat : Int) - 48) := by
      rw [wrap_in (x := n * 10) (by omega), show ((c.toNat : Int) - 48) % 256 = (c.toNat : Int) - 48 by omega, wrap_in (by omega)]
    rw [e]
    by_cases h2 : n * 10 + ((c.toNat : Int) - 48) > 9007199254740992
    · rw [if_pos h2, if_pos (by have := val_ge _ (n * 10 + ((c.toNat : Int) - 48)) (by omega) ha.2; omega)]
    · rw [if_neg h2, wrap_succ (n := s.size) (by omega) hs, ih k (i + 1) _ (by omega) (by omega) ha.2 (by omega) (by omega)]

theorem beq_list (s : ByteArray) : (s.toList == ([48] : List UInt8)) = (s.data.toList == [48]) := by rw [Lib.toList_data]
theorem plain_all {l : List UInt8} (h : plainB l = true) : l.all dig = true := by
  cases l with
  | nil => simp [plainB] at h
  | cons c r => rw [plainB, Bool.and_eq_true] at h; exact h.2
theorem read_j1 (s : ByteArray) (hs : s.size ≤ 140737488351232) (neg : Bool) (k : Nat) (hk : s.size + 6 < k) : num_Read.j1 k s neg = some (readD neg s.data.toList) := by
  obtain ⟨k, rfl⟩ : ∃ m, k = m + 1 := ⟨k - 1, by omega⟩
  simp only [num_Read.j1]
  rw [plain_is s hs k (by omega)]
  simp only [Option.bind_some]
  obtain ⟨k, rfl⟩ : ∃ m, k = m + 1 := ⟨k - 1, by omega⟩
  unfold readD
  by_cases hp : plainB s.data.toList = true
  · rw [if_pos hp, hp, Bool.not_true, Bool.false_or]
    have hl := read_loop s hs neg s.size k 0 0 (by omega) (by omega) (by rw [List.drop_zero]; exact plain_all hp) (by omega) (by omega)
    rw [List.drop_zero] at hl
    have hl' : num_Read.l0 k s neg 0 (s.size : Int) 0 = _ := hl
    cases neg
    · simp only [Bool.false_eq_true, if_false, num_Read.j2, Bool.false_and]
      rw [hl']; simp
    · simp only [if_true, Bool.true_and, num_Read.j2, beq_list]
      by_cases h4 : (s.data.toList == [48]) = true
      · rw [if_pos h4, if_pos h4]
      · rw [if_neg h4, if_neg h4, hl']; simp
  · rw [if_neg hp]
    simp only [num_Read.j2, if_true]
    rw [Bool.not_eq_true] at hp
    simp [hp]
theorem read_is (s : ByteArray) (hs : s.size ≤ 140737488351232) (k : Nat) (hk : s.size + 8 < k) : num_Read.f k s = some (readV s.data.toList) := by
  unfold num_Read.f readV
  obtain ⟨k, rfl⟩ : ∃ m, k = m + 1 := ⟨k - 1, by omega⟩
  by_cases h0 : s.size = 0
  · rw [if_pos ((nil_iff s).2 h0)]
    simp only [num_Read.j0, Bool.false_eq_true, if_false]
    rw [read_j1 s hs false k (by omega), List.eq_nil_of_length_eq_zero (l := s.data.toList) (by rw [size_list]; exact h0)]
    rfl
  · rw [if_neg (by rw [nil_iff]; exact h0), if_pos (by omega)]
    obtain ⟨c, hc, hb⟩ := drop_cons s 0 (by omega)
    rw [List.drop_zero] at hc
    have hb0 : bt s 0 = (c.toNat : Int) := hb
    simp only [num_Read.j0]
    rw [hb0]
    have hx : (s.extract 1 s.size).data.toList = s.data.toList.tail := by
      rw [Lib.extract_data, List.take_of_length_le (by rw [List.length_drop, size_list]; omega), List.drop_one]
    have hxs : (s.extract 1 s.size).size = s.size - 1 := by rw [← size_list, hx, List.length_tail, size_list]
    by_cases h1 : c = 45
    · subst h1
      rw [if_pos (by decide), if_pos (by omega), read_j1 _ (by omega) true k (by omega), hx, if_pos (by rw [hc]; rfl)]
    · have h2 : ¬ c.toNat = 45 := fun h => h1 (UInt8.toNat_inj.1 (by rw [h]; rfl))
      rw [if_neg (by rw [beq_iff_eq]; omega), read_j1 s hs false k (by omega), if_neg (by rw [hc]; simpa using h1)]

/-! ### The document's reader -/
theorem pow_mono {a b : Nat} (h : a ≤ b) : (10 : Int) ^ a ≤ 10 ^ b := by
  have := Nat.pow_le_pow_right (n := 10) (by decide) h
  exact_mod_cast this
theorem val_app (l m : List UInt8) (n : Int) : val n (l ++ m) = val (val n l) m := by unfold val; rw [List.foldl_append]
theorem val_lt (l : List UInt8) : ∀ (n : Int), 0 ≤ n → l.all dig = true → val n l < (n + 1) * 10 ^ l.length := by
  induction l with
  | nil => intro n hn _; show n < (n + 1) * 1; omega
  | cons c r ih =>
    intro n hn h
    rw [List.all_cons, Bool.and_eq_true] at h
    have hd := dig_le h.1
    rw [val_cons, List.length_cons, Int.pow_succ]
    have := ih (n * 10 + ((c.toNat : Int) - 48)) (by omega) h.2
    refine Int.lt_of_lt_of_le this ?_
    have hp : (0 : Int) ≤ 10 ^ r.length := Int.le_of_lt (Int.pow_pos (by decide))
    have : (n * 10 + ((c.toNat : Int) - 48) + 1) ≤ (n + 1) * 10 := by omega
    calc (n * 10 + ((c.toNat : Int) - 48) + 1) * 10 ^ r.length ≤ ((n + 1) * 10) * 10 ^ r.length := Int.mul_le_mul_of_nonneg_right this hp
      _ = (n + 1) * (10 ^ r.length * 10) := by rw [Int.mul_assoc, Int.mul_comm 10]
theorem val_low (l : List UInt8) : ∀ (n : Int), 0 ≤ n → l.all dig = true → n * 10 ^ l.length ≤ val n l := by
  induction l with
  | nil => intro n hn _; show n * 1 ≤ n; omega
  | cons c r ih =>
    intro n hn h
    rw [List.all_cons, Bool.and_eq_true] at h
    have hd := dig_le h.1
    rw [val_cons, List.length_cons, Int.pow_succ]
    have := ih (n * 10 + ((c.toNat : Int) - 48)) (by omega) h.2
    refine Int.le_trans ?_ this
    have hp : (0 : Int) ≤ 10 ^ r.length := Int.le_of_lt (Int.pow_pos (by decide))
    calc n * (10 ^ r.length * 10) = (n * 10) * 10 ^ r.length := by rw [Int.mul_assoc, Int.mul_comm 10]
      _ ≤ (n * 10 + ((c.toNat : Int) - 48)) * 10 ^ r.length := Int.mul_le_mul_of_nonneg_right (by omega) hp

theorem ref_l1 (s : ByteArray) (hs : s.size ≤ 140737488351232) (x4 : Int) (d : Nat) : ∀ (k i : Nat) (n : Int), i + d = s.size → d < k → (s.data.toList.drop i).all dig = true → 0 ≤ n → (n + 1) * 10 ^ d ≤ 10 ^ 16 →
    treillageref01_Read.l1 k s x4 n (i : Int) = some (if val n (s.data.toList.drop i) > 9007199254740992 then (0, 25) else (if x4 = 1 then -(val n (s.data.toList.drop i)) else val n (s.data.toList.drop i), 0)) := by
  induction d with
  | zero =>
    intro k i n hi hk _ h0 h1
    obtain ⟨k, rfl⟩ : ∃ m, k = m + 1 := ⟨k - 1, by omega⟩
    simp only [treillageref01_Read.l1]
    rw [if_neg (by omega), List.drop_eq_nil_of_le (by rw [size_list]; omega)]
    have e : val n [] = n := rfl
    rw [e]
    by_cases h2 : n > 9007199254740992
    · rw [if_pos h2, if_pos h2]
    · rw [if_neg h2, if_neg h2]
      by_cases h3 : x4 = 1
      · rw [if_pos h3, if_pos h3, wrap_in (by omega)]
      · rw [if_neg h3, if_neg h3]
  | succ d ih =>
    intro k i n hi hk ha h0 h1
    obtain ⟨k, rfl⟩ : ∃ m, k = m + 1 := ⟨k - 1, by omega⟩
    obtain ⟨c, hc, hb⟩ := drop_cons s i (by omega)
    rw [hc, List.all_cons, Bool.and_eq_true] at ha
    have hd := dig_le ha.1
    have hp : (1 : Int) ≤ 10 ^ d := Int.pow_pos (by decide)
    rw [Int.pow_succ] at h1
    have hn : (n + 1) * 10 ≤ 10 ^ 16 := by
      refine Int.le_trans ?_ h1
      calc (n + 1) * 10 = (n + 1) * (1 * 10) := by omega
        _ ≤ (n + 1) * (10 ^ d * 10) := Int.mul_le_mul_of_nonneg_left (Int.mul_le_mul_of_nonneg_right hp (by decide)) (by omega)
    have hn' : (n + 1) * 10 ≤ 10000000000000000 := hn
    simp only [treillageref01_Read.l1]
    rw [if_pos (by omega), if_pos (by omega), hb, hc, val_cons]
    have e : wrap64 (wrap64 (wrap64 (10 * n) + wrap64 (c.toNat : Int)) - 48) = n * 10 + ((c.toNat : Int) - 48) := by
      rw [wrap_in (x := 10 * n) (by omega), wrap_in (x := (c.toNat : Int)) (by omega), wrap_in (x := 10 * n + (c.toNat : Int)) (by omega), wrap_in (by omega)]
      omega
    rw [e, wrap_succ (n := s.size) (by omega) hs]
    refine ih k (i + 1) _ (by omega) (by omega) ha.2 (by omega) ?_
    refine Int.le_trans ?_ h1
    rw [Int.mul_comm (10 ^ d) 10, ← Int.mul_assoc]
    exact Int.mul_le_mul_of_nonneg_right (by omega) (by omega)

theorem ref_l0 (s : ByteArray) (hs : s.size ≤ 140737488351232) (f : Nat) (hf : f ≤ 1) (d : Nat) : ∀ (k i : Nat), i + d = s.size → d + s.size + 3 < k →
    (s.data.toList.drop f).take (i - f) = (s.data.toList.drop f).take (i - f) → ((s.data.toList.drop f).take (i - f)).all dig = true → f ≤ i →
    treillageref01_Read.l0 k s (f : Int) (i : Int) = some (if (s.data.toList.drop i).all dig = true then (if s.size - f > 16 then (0, 25) else if val 0 (s.data.toList.drop f) > 9007199254740992 then (0, 25) else (if f = 1 then -(val 0 (s.data.toList.drop f)) else val 0 (s.data.toList.drop f), 0)) else (0, 2)) := by
  induction d with
  | zero =>
    intro k i hi hk _ ha hfi
    obtain ⟨k, rfl⟩ : ∃ m, k = m + 1 := ⟨k - 1, by omega⟩
    simp only [treillageref01_Read.l0]
    rw [if_neg (by omega), List.drop_eq_nil_of_le (i := i) (by rw [size_list]; omega), List.all_nil, if_pos rfl]
    rw [List.take_of_length_le (by rw [List.length_drop, size_list]; omega)] at ha
    rw [wrap_in (by omega)]
    by_cases h1 : s.size - f > 16
    · rw [if_pos (by omega), if_pos h1]
    · rw [if_neg (by omega), if_neg h1]
      rw [ref_l1 s hs (f : Int) (s.size - f) k f 0 (by omega) (by omega) ha (by omega) (by
        have h2 : s.size - f ≤ 16 := by omega
        have : (10 : Int) ^ (s.size - f) ≤ 10 ^ 16 := pow_mono h2
        rw [Int.zero_add, Int.one_mul]; exact this)]
      have : ((f : Int) = 1) = (f = 1) := by rw [eq_iff_iff]; omega
      simp only [this]
  | succ d ih =>
    intro k i hi hk _ ha hfi
    obtain ⟨k, rfl⟩ : ∃ m, k = m + 1 := ⟨k - 1, by omega⟩
    obtain ⟨c, hc, hb⟩ := drop_cons s i (by omega)
    simp only [treillageref01_Read.l0]
    rw [if_pos (by omega), if_pos (by omega), hb]
    by_cases h1 : c.toNat < 48
    · rw [if_pos (by omega), if_neg (by rw [hc, List.all_cons]; simp [dig]; omega)]
    · rw [if_neg (by omega)]
      by_cases h2 : c.toNat > 57
      · rw [if_pos (by omega), if_neg (by rw [hc, List.all_cons]; simp [dig]; omega)]
      · have hdc : dig c = true := by simp [dig]; omega
        rw [if_neg (by omega), wrap_succ (n := s.size) (by omega) hs, ih k (i + 1) (by omega) (by omega) rfl ?_ (by omega), hc, List.all_cons, hdc, Bool.true_and]
        have e : i + 1 - f = (i - f) + 1 := by omega
        have e2 : s.data.toList.drop i = (s.data.toList.drop f).drop (i - f) := by rw [List.drop_drop]; congr 1; omega
        rw [e, List.take_add_one, List.all_append, ha, Bool.true_and]
        rw [e2] at hc
        have : (s.data.toList.drop f)[i - f]? = some c := by
          have h := List.getElem?_drop (xs := s.data.toList.drop f) (i := i - f) (j := 0)
          rw [hc] at h
          simpa using h.symm
        rw [this]
        simp [hdc]

/-- A plain text of more than 16 digits is too great. -/
theorem plain_big {l : List UInt8} (h : plainB l = true) (hl : 16 < l.length) : val 0 l > 9007199254740992 := by
  cases l with
  | nil => simp at hl
  | cons c r =>
    rw [plainB, Bool.and_eq_true, List.all_cons, Bool.and_eq_true] at h
    have hd := dig_le h.2.1
    rw [List.length_cons] at hl
    have h48 : c.toNat ≠ 48 := by
      intro e
      have h' := h.1
      rw [decide_eq_true e, decide_eq_true (by omega : 0 < r.length)] at h'
      exact absurd h' (by decide)
    rw [val_cons]
    have h1 := val_low r (0 * 10 + ((c.toNat : Int) - 48)) (by omega) h.2.2
    have h2 : (10 : Int) ^ 16 ≤ 10 ^ r.length := pow_mono (by omega)
    have h3 : (10 : Int) ^ r.length ≤ (0 * 10 + ((c.toNat : Int) - 48)) * 10 ^ r.length := by
      have hp : (0 : Int) ≤ 10 ^ r.length := Int.le_of_lt (Int.pow_pos (by decide))
      calc (10 : Int) ^ r.length = 1 * 10 ^ r.length := by omega
        _ ≤ _ := Int.mul_le_mul_of_nonneg_right (by omega) hp
    have h4 : (10 : Int) ^ 16 = 10000000000000000 := by decide
    omega

/-- The document's reader from the digits on. -/
theorem ref_j1 (s : ByteArray) (hs : s.size ≤ 140737488351232) (f : Nat) (hf : f ≤ 1) (hfs : f ≤ s.size) (k : Nat) (hk : s.size + s.size + 8 < k) : treillageref01_Read.j1 k s (f : Int) = some (readD (f == 1) (s.data.toList.drop f)) := by
  obtain ⟨k, rfl⟩ : ∃ m, k = m + 1 := ⟨k - 1, by omega⟩
  have hlen : (s.data.toList.drop f).length = s.size - f := by rw [List.length_drop, size_list]
  have hj : ∀ b : Bool, b = false → treillageref01_Read.j2 k s (f : Int) b = some (if (s.data.toList.drop f).all dig = true then (if s.size - f > 16 then (0, 25) else if val 0 (s.data.toList.drop f) > 9007199254740992 then (0, 25) else (if f = 1 then -(val 0 (s.data.toList.drop f)) else val 0 (s.data.toList.drop f), 0)) else (0, 2)) := by
    intro b hb
    subst hb
    obtain ⟨k, rfl⟩ : ∃ m, k = m + 1 := ⟨k - 1, by omega⟩
    simp only [treillageref01_Read.j2, Bool.false_eq_true, if_false]
    exact ref_l0 s hs f hf (s.size - f) k f (by omega) (by omega) rfl (by simp) (Nat.le_refl _)
  have ht : ∀ b : Bool, b = true → treillageref01_Read.j2 k s (f : Int) b = some (0, 2) := by
    intro b hb
    subst hb
    obtain ⟨k, rfl⟩ : ∃ m, k = m + 1 := ⟨k - 1, by omega⟩
    simp only [treillageref01_Read.j2, if_true]
  simp only [treillageref01_Read.j1]
  unfold readD
  by_cases h0 : s.size = f
  · rw [if_pos (by omega), ht _ rfl, List.eq_nil_of_length_eq_zero (l := s.data.toList.drop f) (by omega)]
    simp [plainB]
  · rw [if_neg (by omega), if_pos (by omega), if_pos (by omega)]
    obtain ⟨c, hc, hb⟩ := drop_cons s f (by omega)
    have hr : (s.data.toList.drop (f + 1)).length = s.size - f - 1 := by rw [List.length_drop, size_list]; omega
    rw [hb, wrap_succ (n := s.size) (by omega) hs]
    have hp : plainB (s.data.toList.drop f) = (!(decide (c.toNat = 48) && decide (1 < s.size - f)) && (s.data.toList.drop f).all dig) := by
      rw [hc, plainB, hr]
      congr 3
      rw [decide_eq_decide]; omega
    have hone : (s.data.toList.drop f == [48]) = (decide (c.toNat = 48) && decide (s.size - f = 1)) := by
      rw [hc]
      have e1 : (c == 48) = decide (c.toNat = 48) := by rw [Bool.eq_iff_iff, beq_iff_eq, decide_eq_true_iff, ← UInt8.toNat_inj]; rfl
      have e2 : (s.data.toList.drop (f + 1) == ([] : List UInt8)) = decide (s.size - f = 1) := by
        rw [Bool.eq_iff_iff, beq_iff_eq, decide_eq_true_iff, ← List.length_eq_zero_iff, hr]; omega
      rw [← e1, ← e2]; rfl
    have hmain : c.toNat = 48 → ¬ (s.size > f + 1) → f = 0 → some (if (s.data.toList.drop f).all dig = true then (if s.size - f > 16 then ((0 : Int), (25 : Int)) else if val 0 (s.data.toList.drop f) > 9007199254740992 then (0, 25) else (if f = 1 then -(val 0 (s.data.toList.drop f)) else val 0 (s.data.toList.drop f), 0)) else (0, 2)) = some (if (!plainB (s.data.toList.drop f) || (f == 1) && (s.data.toList.drop f == [48])) = true then (0, 2) else if val 0 (s.data.toList.drop f) > 9007199254740992 then (0, 25) else (if (f == 1) = true then -(val 0 (s.data.toList.drop f)) else val 0 (s.data.toList.drop f), 0)) := by
      intro h1 h2 h3
      subst h3
      rw [hp, decide_eq_true h1, decide_eq_false (by omega : ¬ 1 < s.size - 0)]
      by_cases ha : (s.data.toList.drop 0).all dig = true
      · rw [if_pos ha, ha, if_neg (by omega)]; rfl
      · rw [if_neg ha]; rw [Bool.not_eq_true] at ha; rw [ha]; rfl
    by_cases h1 : c.toNat = 48
    · rw [if_pos (by omega)]
      by_cases h2 : s.size > f + 1
      · rw [if_pos (by omega), ht _ rfl, hp, decide_eq_true h1, decide_eq_true (by omega : 1 < s.size - f)]
        simp
      · rw [if_neg (by omega)]
        rcases (by omega : f = 0 ∨ f = 1) with rfl | rfl
        · rw [hj _ (by decide)]; exact hmain h1 h2 rfl
        · rw [ht _ (by decide), hone, decide_eq_true h1, decide_eq_true (by omega : s.size - 1 = 1)]
          simp
    · rw [if_neg (by omega), hj _ rfl, hp, hone, decide_eq_false h1]
      by_cases ha : (s.data.toList.drop f).all dig = true
      · have hpl : plainB (s.data.toList.drop f) = true := by rw [hp, ha, decide_eq_false h1]; rfl
        rw [if_pos ha, ha]
        by_cases h6 : s.size - f > 16
        · have := plain_big hpl (by omega)
          rw [if_pos h6]
          simp [this]
        · rw [if_neg h6]
          simp
      · rw [if_neg ha]; rw [Bool.not_eq_true] at ha; rw [ha]; simp
theorem ref_is (s : ByteArray) (hs : s.size ≤ 140737488351232) (k : Nat) (hk : s.size + s.size + 10 < k) : treillageref01_Read.f k s = some (readV s.data.toList) := by
  obtain ⟨k, rfl⟩ : ∃ m, k = m + 1 := ⟨k - 1, by omega⟩
  unfold treillageref01_Read.f readV
  by_cases h0 : s.size = 0
  · rw [if_neg (by omega)]
    have := ref_j1 s hs 0 (by omega) (by omega) k (by omega)
    simp only [treillageref01_Read.j0, Bool.false_eq_true, if_false]
    rw [List.eq_nil_of_length_eq_zero (l := s.data.toList) (by rw [size_list]; exact h0)] at this ⊢
    exact this
  · rw [if_pos (by omega), if_pos (by omega)]
    obtain ⟨c, hc, hb⟩ := drop_cons s 0 (by omega)
    rw [List.drop_zero] at hc
    have hb0 : bt s 0 = (c.toNat : Int) := hb
    simp only [treillageref01_Read.j0]
    rw [hb0]
    by_cases h1 : c = 45
    · subst h1
      rw [if_pos (by decide), if_pos (by rw [hc]; rfl)]
      have := ref_j1 s hs 1 (by omega) (by omega) k (by omega)
      rw [List.drop_one] at this
      exact this
    · have h2 : ¬ c.toNat = 45 := fun h => h1 (UInt8.toNat_inj.1 (by rw [h]; rfl))
      rw [if_neg (by rw [beq_iff_eq]; omega), if_neg (by rw [hc]; simpa using h1)]
      exact ref_j1 s hs 0 (by omega) (by omega) k (by omega)

/-! ### What the calls come to -/
theorem read_any (s : ByteArray) (w : World) (hs : s.size ≤ 140737488351232) :
    Calls Tryd.prog 49 #[.string s] w fun e w' => e = .returned (.tuple #[.int .i64 (readV s.data.toList).1, .int .i64 (readV s.data.toList).2]) ∧ Drawn0 w w' :=
  num_Read.calls _ s _ _ w (read_is s hs (s.size + 9) (by omega))
theorem refRead_any (s : ByteArray) (w : World) (hs : s.size ≤ 140737488351232) :
    Calls Tryd.prog 43 #[.string s] w fun e w' => e = .returned (.tuple #[.int .i64 (readV s.data.toList).1, .int .i64 (readV s.data.toList).2]) ∧ Drawn0 w w' :=
  treillageref01_Read.calls _ s _ _ w (ref_is s hs (s.size + s.size + 11) (by omega))
end Go.Proofs.YteonbgknmpobpaaDoor.TJ
/- What stands between tokens. -/
namespace Go.Proofs.YteonbgknmpobpaaDoor.TK
open Go.RowKit Go.Proofs.YteonbgknmpobpaaDoorW.PrintWords Go.Proofs.YteonbgknmpobpaaDoorW.PrintLast Go.Proofs.YteonbgknmpobpaaDoorW.PrintMore
open Go.Proofs.YteonbgknmpobpaaDoor.PTokenLex Go.Proofs.YteonbgknmpobpaaDoor.TJ
set_option linter.unusedVariables false

abbrev B := ByteArray
abbrev L8 := List UInt8
def blank (c : UInt8) : Bool := c == 32 || (c == 9 || (c == 10 || c == 13))
def skipL : Bool → L8 → Nat
  | _, [] => 0
  | false, c :: r => if c = 35 then skipL true r + 1 else if blank c = true then skipL false r + 1 else 0
  | true, c :: r => if c = 10 then skipL false r + 1 else skipL true r + 1
theorem skipL_le : ∀ (l : L8) (b : Bool), skipL b l ≤ l.length
  | [], _ => by simp [skipL]
  | c :: r, false => by
    have h1 := skipL_le r true
    have h2 := skipL_le r false
    rw [skipL, List.length_cons]
    repeat' split
    all_goals omega
  | c :: r, true => by
    have h1 := skipL_le r true
    have h2 := skipL_le r false
    rw [skipL, List.length_cons]
    repeat' split
    all_goals omega
theorem toNat_eq {c : UInt8} {n : Nat} (hn : n < 256) : ((c.toNat : Int) = (n : Int)) ↔ c = UInt8.ofNat n := by
  rw [← UInt8.toNat_inj, UInt8.toNat_ofNat']
  omega
theorem eq10 {c : UInt8} : ((c.toNat : Int) = 10) ↔ c = 10 := toNat_eq (n := 10) (by decide)
theorem eq13 {c : UInt8} : ((c.toNat : Int) = 13) ↔ c = 13 := toNat_eq (n := 13) (by decide)
theorem eq9 {c : UInt8} : ((c.toNat : Int) = 9) ↔ c = 9 := toNat_eq (n := 9) (by decide)
theorem eq32 {c : UInt8} : ((c.toNat : Int) = 32) ↔ c = 32 := toNat_eq (n := 32) (by decide)
theorem eq35 {c : UInt8} : ((c.toNat : Int) = 35) ↔ c = 35 := toNat_eq (n := 35) (by decide)
theorem blank_not {c : UInt8} (h1 : ¬ (c.toNat : Int) = 32) (h2 : ¬ (c.toNat : Int) = 9) (h3 : ¬ (c.toNat : Int) = 10) (h4 : ¬ (c.toNat : Int) = 13) : blank c = false := by
  rw [eq32] at h1; rw [eq9] at h2; rw [eq10] at h3; rw [eq13] at h4
  unfold blank
  simp [h1, h2, h3, h4]
theorem wrapK {i n : Nat} (h : i < n) (hn : n ≤ 4611686018427387904) : wrap64 ((i : Int) + 1) = ((i + 1 : Nat) : Int) := by unfold wrap64; omega

theorem refSkip_loop (s : B) (hs : s.size ≤ 140737488351232) (d : Nat) : ∀ (k i : Nat) (b : Bool), i + d = s.size → 3 * d + 1 ≤ k →
    treillageref12_Skip.l0 k s (i : Int) b = some ((i + skipL b (s.data.toList.drop i) : Nat) : Int) := by
  induction d with
  | zero =>
    intro k i b hi hk
    obtain ⟨k, rfl⟩ : ∃ m, k = m + 1 := ⟨k - 1, by omega⟩
    rw [treillageref12_Skip.l0, if_neg (by omega), List.drop_eq_nil_of_le (by rw [size_list]; omega)]
    cases b <;> rfl
  | succ d ih =>
    intro k i b hi hk
    obtain ⟨k, rfl⟩ : ∃ m, k = m + 3 := ⟨k - 3, by omega⟩
    obtain ⟨c, hc, hb⟩ := drop_cons s i (by omega)
    have hw : wrap64 ((i : Int) + 1) = ((i + 1 : Nat) : Int) := wrapK (n := s.size) (by omega) (by omega)
    have hT := ih k (i + 1) true (by omega) (by omega)
    have hF := ih k (i + 1) false (by omega) (by omega)
    have hU : ∀ n : Nat, i + 1 + n = i + (n + 1) := fun n => by omega
    rw [treillageref12_Skip.l0, if_pos (by omega), if_pos (by omega), hb, hc]
    cases b
    · rw [if_neg (by simp), treillageref12_Skip.j1, if_neg (by simp), treillageref12_Skip.j2, hw, hT, hF, skipL]
      by_cases h35 : (c.toNat : Int) = 35
      · rw [if_pos h35, if_pos (eq35.1 h35), hU]
      · rw [if_neg h35, if_neg (fun e => h35 (eq35.2 e)), if_neg (by simp)]
        by_cases h32 : (c.toNat : Int) = 32
        · rw [if_pos h32, if_pos (by rw [eq32.1 h32]; rfl), hU]
        · rw [if_neg h32]
          by_cases h9 : (c.toNat : Int) = 9
          · rw [if_pos h9, if_pos (by rw [eq9.1 h9]; rfl), hU]
          · rw [if_neg h9]
            by_cases h10 : (c.toNat : Int) = 10
            · rw [if_pos h10, if_pos (by rw [eq10.1 h10]; rfl), hU]
            · rw [if_neg h10]
              by_cases h13 : (c.toNat : Int) = 13
              · rw [if_pos h13, if_pos (by rw [eq13.1 h13]; rfl), hU]
              · rw [if_neg h13, if_neg (by rw [blank_not h32 h9 h10 h13]; simp)]; rfl
    · rw [if_pos rfl, treillageref12_Skip.j1, skipL]
      by_cases h10 : (c.toNat : Int) = 10
      · rw [if_pos (by rw [h10]; rfl), treillageref12_Skip.j2, hw, hF, if_neg (by omega), if_neg (by simp), if_neg (by omega), if_neg (by omega), if_pos h10, if_pos (eq10.1 h10), hU]
      · rw [if_neg (by rw [beq_iff_eq]; exact h10), treillageref12_Skip.j2, hw, hT, if_neg (fun e => h10 (eq10.2 e)), hU]
        split <;> simp
theorem refSkip_is (s : B) (hs : s.size ≤ 140737488351232) (i : Nat) (hi : i ≤ s.size) (k : Nat) (hk : 3 * s.size + 1 ≤ k) : treillageref12_Skip.f k s (i : Int) = some ((i + skipL false (s.data.toList.drop i) : Nat) : Int) :=
  refSkip_loop s hs (s.size - i) k i false (by omega) (by omega)

theorem skip_35 {s : B} {i : Nat} {c : UInt8} (hc : s.data.toList.drop i = c :: s.data.toList.drop (i + 1)) (h : (c.toNat : Int) = 35) : i + skipL false (s.data.toList.drop i) = (i + 1) + skipL true (s.data.toList.drop (i + 1)) := by
  rw [hc, skipL, if_pos (eq35.1 h)]; omega
theorem skip_35' {s : B} {i : Nat} {c : UInt8} (hc : s.data.toList.drop i = c :: s.data.toList.drop (i + 1)) (h : (c.toNat : Int) = 35) : i + skipL false (s.data.toList.drop i) = i + skipL true (s.data.toList.drop i) := by
  rw [hc, skipL, skipL, if_pos (eq35.1 h), if_neg (by rw [eq35.1 h]; decide)]
theorem skip_bl {s : B} {i : Nat} {c : UInt8} (hc : s.data.toList.drop i = c :: s.data.toList.drop (i + 1)) (h : ¬ (c.toNat : Int) = 35) (hb : blank c = true) : i + skipL false (s.data.toList.drop i) = (i + 1) + skipL false (s.data.toList.drop (i + 1)) := by
  rw [hc, skipL, if_neg (fun e => h (eq35.2 e)), if_pos hb]; omega
theorem skip_st {s : B} {i : Nat} {c : UInt8} (hc : s.data.toList.drop i = c :: s.data.toList.drop (i + 1)) (h : ¬ (c.toNat : Int) = 35) (hb : blank c = false) : i + skipL false (s.data.toList.drop i) = i := by
  rw [hc, skipL, if_neg (fun e => h (eq35.2 e)), hb]; simp
theorem skip_t10 {s : B} {i : Nat} {c : UInt8} (hc : s.data.toList.drop i = c :: s.data.toList.drop (i + 1)) (h : (c.toNat : Int) = 10) : i + skipL true (s.data.toList.drop i) = i + skipL false (s.data.toList.drop i) := by
  rw [hc, skipL, skipL, if_pos (eq10.1 h), if_neg (by rw [eq10.1 h]; decide), if_pos (by rw [eq10.1 h]; rfl)]
theorem skip_tn {s : B} {i : Nat} {c : UInt8} (hc : s.data.toList.drop i = c :: s.data.toList.drop (i + 1)) (h : ¬ (c.toNat : Int) = 10) : i + skipL true (s.data.toList.drop i) = (i + 1) + skipL true (s.data.toList.drop (i + 1)) := by
  rw [hc, skipL, if_neg (fun e => h (eq10.2 e))]; omega
theorem skip_end {s : B} {i : Nat} (b : Bool) (h : i = s.size) : i + skipL b (s.data.toList.drop i) = i := by
  rw [List.drop_eq_nil_of_le (by rw [size_list]; omega)]; cases b <;> rfl
theorem ret_i {a b : Int} (h : a = b) : Ending.returned (.int .i64 a) = .returned (.int .i64 b) := by rw [h]
theorem at_byte (s : B) (i : Nat) (h : i < s.size) : ∃ c, s.data.toList.drop i = c :: s.data.toList.drop (i + 1) ∧ (∀ h' : i < s.size, (s[i]'h') = c) := by
  have hl : i < s.data.toList.length := by rw [size_list]; exact h
  exact ⟨s.data.toList[i], List.drop_eq_getElem_cons hl, fun h' => rfl⟩

set_option maxHeartbeats 2000000 in
theorem skip_any (s : B) (i : Nat) (w : World) (hs : s.size ≤ 140737488351232) (hi : i ≤ s.size) :
    Calls Tryd.prog 32 #[.string s, .int .i64 (i : Int)] w fun e w' => e = .returned (.int .i64 ((i + skipL false (s.data.toList.drop i) : Nat) : Int)) ∧ w = w' := by
  obtain ⟨R, hR⟩ : ∃ R, R = i + skipL false (s.data.toList.drop i) := ⟨_, rfl⟩
  rw [← hR]
  have HR := Lib.hid hR
  clear hR
  go_enter Tryd.func32, Tryd.ntmps32
  go_wp2
  go_step3
  go_wp2
  go_step3
  go_wp2
  go_loopg [1] (s.size - i) (fun g v1 wx => ∃ a : Nat, a + g = s.size ∧ v1 = .int .i64 a ∧ w = wx ∧ Aside0 (R = a + skipL false (s.data.toList.drop a)))
  case atStart => exact ⟨i, by omega, rfl, rfl, ⟨HR.out⟩⟩
  case round =>
    obtain ⟨a, hag, rfl, rfl, HA⟩ := hrel
    by_cases hlt : a < s.size
    · obtain ⟨c, hc, hx⟩ := at_byte s a hlt
      have hx' := hx hlt
      have HC := Lib.hid hc
      generalize hb : (c.toNat : Int) = b
      have HBb := Lib.hid hb
      have hxb : ∀ h' : a < s.size, ((s[a]'h').toNat : Int) = b := fun h' => by rw [hx h']; exact hb
      by_cases h35 : b = 35
      · have H35 := Lib.hid (HA.out.trans (skip_35' hc (by rw [hb]; exact h35)))
        have HNE : Aside0 (∀ a2 c2, s.data.toList.drop a2 = c2 :: s.data.toList.drop (a2 + 1) → (c2.toNat : Int) = 10 → a2 ≠ a) := ⟨by
          intro a2 c2 e1 e2 e3
          subst e3
          rw [hc] at e1
          obtain ⟨rfl, _⟩ := List.cons.inj e1
          omega⟩
        clear hb hc hx hx'
        subst h35
        go_wp2
        go_loopg [1] (s.size - a) (fun g2 v1 wx => ∃ a2 : Nat, a2 + g2 = s.size ∧ a ≤ a2 ∧ v1 = .int .i64 a2 ∧ w = wx ∧ Aside0 (R = a2 + skipL true (s.data.toList.drop a2)))
        case atStart => exact ⟨a, by omega, by omega, rfl, rfl, ⟨H35.out⟩⟩
        case round =>
          obtain ⟨a2, hag2, haa, rfl, rfl, HA2⟩ := hrel
          by_cases hlt2 : a2 < s.size
          · obtain ⟨c2, hc2, hx2⟩ := at_byte s a2 hlt2
            generalize hb2 : (c2.toNat : Int) = b2
            have hxb2 : ∀ h' : a2 < s.size, ((s[a2]'h').toNat : Int) = b2 := fun h' => by rw [hx2 h']; exact hb2
            by_cases h10 : b2 = 10
            · have hne := HNE.out a2 c2 hc2 (by rw [hb2]; exact h10)
              have HN := Aside0.mk (HA2.out.trans (skip_t10 hc2 (by rw [hb2]; exact h10)))
              clear hb2 hc2 hx2
              subst h10
              go_wp2
              go_roundg (s.size - a2)
              case measure => omega
              case rel => exact ⟨a2, by omega, rfl, rfl, HN⟩
            · have HN := Aside0.mk (HA2.out.trans (skip_tn hc2 (by rw [hb2]; exact h10)))
              have h10' : (b2 != 10) = true := bne_iff_ne.2 h10
              clear hb2 hc2 hx2 h10
              go_wp2
              go_roundg (s.size - (a2 + 1))
              case measure => omega
              case rel => exact ⟨a2 + 1, by omega, by omega, by go_num, rfl, HN⟩
          · have he : a2 = s.size := by omega
            have HN := Aside0.mk (HA2.out.trans ((skip_end true he).trans (skip_end false he).symm))
            go_wp2
            go_roundg 0
            case measure => omega
            case rel => exact ⟨a2, by omega, rfl, rfl, HN⟩
      · by_cases hbl : blank c = true
        · have HN := Aside0.mk (HA.out.trans (skip_bl hc (by rw [hb]; exact h35) hbl))
          have hor : b = 32 ∨ b = 9 ∨ b = 10 ∨ b = 13 := by
            rw [← hb, eq32, eq9, eq10, eq13]
            unfold blank at hbl
            simpa using hbl
          clear hb hc hx hx' HBb HC hbl h35
          rcases hor with h | h | h | h
          · subst h
            go_wp2
            go_roundg (s.size - (a + 1))
            case measure => omega
            case rel => exact ⟨a + 1, by omega, by go_num, rfl, HN⟩
          · subst h
            go_wp2
            go_roundg (s.size - (a + 1))
            case measure => omega
            case rel => exact ⟨a + 1, by omega, by go_num, rfl, HN⟩
          · subst h
            go_wp2
            go_roundg (s.size - (a + 1))
            case measure => omega
            case rel => exact ⟨a + 1, by omega, by go_num, rfl, HN⟩
          · subst h
            go_wp2
            go_roundg (s.size - (a + 1))
            case measure => omega
            case rel => exact ⟨a + 1, by omega, by go_num, rfl, HN⟩
        · have hbl' : blank c = false := by simpa using hbl
          have HV := Lib.hid (HA.out.trans (skip_st hc (by rw [hb]; exact h35) hbl'))
          have hn : ¬ b = 32 ∧ ¬ b = 9 ∧ ¬ b = 10 ∧ ¬ b = 13 := by
            rw [← hb, eq32, eq9, eq10, eq13]
            unfold blank at hbl
            simpa [not_or] using hbl
          obtain ⟨n1, n2, n3, n4⟩ := hn
          have m1 : (b == 32) = false := beq_eq_false_iff_ne.2 n1
          have m2 : (b == 9) = false := beq_eq_false_iff_ne.2 n2
          have m3 : (b == 10) = false := beq_eq_false_iff_ne.2 n3
          have m4 : (b == 13) = false := beq_eq_false_iff_ne.2 n4
          have m5 : (b == 35) = false := beq_eq_false_iff_ne.2 h35
          clear hb hc hx hx' HBb HC hbl hbl' h35 n1 n2 n3 n4
          go_wp2
          rw [Exit.noGoto_ret]
          go_ret
          exact ⟨ret_i (by rw [HV.out]), rfl⟩
    · have he : a = s.size := by omega
      have HV := Lib.hid (HA.out.trans (skip_end false he))
      clear he
      go_wp2
      rw [Exit.noGoto_ret]
      go_ret
      exact ⟨ret_i (by rw [HV.out]), rfl⟩
end Go.Proofs.YteonbgknmpobpaaDoor.TK
/- Rows of digits and letters; the number at a place. -/
namespace Go.Proofs.YteonbgknmpobpaaDoor.TL
open Go.RowKit Go.Proofs.YteonbgknmpobpaaDoorW.PrintWords Go.Proofs.YteonbgknmpobpaaDoorW.PrintLast Go.Proofs.YteonbgknmpobpaaDoorW.PrintMore
open Go.Proofs.YteonbgknmpobpaaDoor.PTokenLex Go.Proofs.YteonbgknmpobpaaDoor.TJ Go.Proofs.YteonbgknmpobpaaDoor.TK
set_option linter.unusedVariables false

def smallC (c : UInt8) : Bool := decide (97 ≤ c.toNat) && decide (c.toNat ≤ 122)
def letC (c : UInt8) : Bool := smallC c || (dig c || (c.toNat == 95))
theorem digit_any (c : UInt8) (w : World) : Calls Tryd.prog 33 #[.int .u8 (c.toNat : Int)] w fun e w' => e = .returned (.bool (dig c)) ∧ Drawn0 w w' :=
  token_digit.calls _ _ w (by
    unfold token_digit.f dig
    by_cases h : 48 ≤ c.toNat
    · rw [if_pos (by omega), decide_eq_true h, Bool.true_and]; exact congrArg some (decide_eq_decide.2 (by omega))
    · rw [if_neg (by omega), decide_eq_false h, Bool.false_and])
theorem small_is (c : UInt8) : token_small.f (c.toNat : Int) = some (smallC c) := by
  unfold token_small.f smallC
  by_cases h : 97 ≤ c.toNat
  · rw [if_pos (by omega), decide_eq_true h, Bool.true_and]; exact congrArg some (decide_eq_decide.2 (by omega))
  · rw [if_neg (by omega), decide_eq_false h, Bool.false_and]
theorem digit_is (c : UInt8) : token_digit.f (c.toNat : Int) = some (dig c) := by
  unfold token_digit.f dig
  by_cases h : 48 ≤ c.toNat
  · rw [if_pos (by omega), decide_eq_true h, Bool.true_and]; exact congrArg some (decide_eq_decide.2 (by omega))
  · rw [if_neg (by omega), decide_eq_false h, Bool.false_and]
theorem small_any (c : UInt8) (w : World) : Calls Tryd.prog 36 #[.int .u8 (c.toNat : Int)] w fun e w' => e = .returned (.bool (smallC c)) ∧ Drawn0 w w' := token_small.calls _ _ w (small_is c)
theorem beq95 (c : UInt8) : ((c.toNat : Int) == 95) = (c.toNat == 95) := by rw [Bool.eq_iff_iff, beq_iff_eq, beq_iff_eq]; omega
theorem letter_is (c : UInt8) : token_letter.f (c.toNat : Int) = some (letC c) := by
  unfold token_letter.f letC
  rw [small_is, digit_is]
  simp only [Option.bind_some]
  cases smallC c <;> cases dig c <;> simp [beq95]
theorem letter_any (c : UInt8) (w : World) : Calls Tryd.prog 38 #[.int .u8 (c.toNat : Int)] w fun e w' => e = .returned (.bool (letC c)) ∧ Drawn0 w w' := token_letter.calls _ _ w (letter_is c)
theorem refDigit_is (c : UInt8) : treillageref12_Digit.f (c.toNat : Int) = some (dig c) := digit_is c
theorem refLetter_is (c : UInt8) : treillageref12_Letter.f (c.toNat : Int) = some (letC c) := by
  unfold treillageref12_Letter.f letC smallC
  rw [refDigit_is]
  simp only [Option.bind_some]
  by_cases h : 97 ≤ c.toNat
  · rw [if_pos (by omega)]
    by_cases h2 : c.toNat ≤ 122
    · rw [if_pos (by omega), decide_eq_true h, decide_eq_true h2]; rfl
    · rw [if_neg (by omega), decide_eq_true h, decide_eq_false h2]
      cases dig c <;> simp [beq95]
  · rw [if_neg (by omega), decide_eq_false h]
    cases dig c <;> simp [beq95]

def rowN (p : UInt8 → Bool) : L8 → Nat
  | [] => 0
  | c :: r => if p c = true then rowN p r + 1 else 0
theorem rowN_le (p : UInt8 → Bool) : ∀ l : L8, rowN p l ≤ l.length
  | [] => by simp [rowN]
  | c :: r => by
    have := rowN_le p r
    rw [rowN, List.length_cons]
    split <;> omega
theorem row_yes {p : UInt8 → Bool} {s : B} {i : Nat} {c : UInt8} (hc : s.data.toList.drop i = c :: s.data.toList.drop (i + 1)) (h : p c = true) : i + rowN p (s.data.toList.drop i) = (i + 1) + rowN p (s.data.toList.drop (i + 1)) := by
  rw [hc, rowN, if_pos h]; omega
theorem row_no {p : UInt8 → Bool} {s : B} {i : Nat} {c : UInt8} (hc : s.data.toList.drop i = c :: s.data.toList.drop (i + 1)) (h : p c = false) : i + rowN p (s.data.toList.drop i) = i := by
  rw [hc, rowN, if_neg (by rw [h]; simp)]; rfl
theorem row_end {p : UInt8 → Bool} {s : B} {i : Nat} (h : i = s.size) : i + rowN p (s.data.toList.drop i) = i := by
  rw [List.drop_eq_nil_of_le (by rw [size_list]; omega)]; rfl
theorem drawn_on {w W W' : World} (h : Drawn0 w W) (k : Drawn0 W W') : Drawn0 w W' := by
  obtain ⟨m, e⟩ := h
  obtain ⟨n, e2⟩ := k
  exact ⟨m + n, by rw [e2, e, World.drewN_drewN]⟩
set_option maxHeartbeats 1000000 in
theorem row_digit (s : B) (i : Nat) (w : World) (hs : s.size ≤ 140737488351232) (hi : i ≤ s.size) :
    Calls Tryd.prog 37 #[.string s, .int .i64 (i : Int), .func (.func 33) #[] #[]] w fun e w' => e = .returned (.int .i64 ((i + rowN dig (s.data.toList.drop i) : Nat) : Int)) ∧ Drawn0 w w' := by
  obtain ⟨R, hR⟩ : ∃ R, R = i + rowN dig (s.data.toList.drop i) := ⟨_, rfl⟩
  rw [← hR]
  have HR := Lib.hid hR
  clear hR
  go_enter Tryd.func37, Tryd.ntmps37
  go_wp2
  go_loopg [1] (s.size - i) (fun g v1 wx => ∃ a : Nat, a + g = s.size ∧ v1 = .int .i64 a ∧ Aside0 (Drawn0 w wx) ∧ Aside0 (R = a + rowN dig (s.data.toList.drop a)))
  case atStart => exact ⟨i, by omega, rfl, ⟨Drawn0.refl _⟩, ⟨HR.out⟩⟩
  case round =>
    obtain ⟨a, hag, rfl, HD, HA⟩ := hrel
    by_cases hlt : a < s.size
    · obtain ⟨c, hc, hx⟩ := at_byte s a hlt
      have C1 := Lib.hid (digit_any c)
      generalize hb : (c.toNat : Int) = b at C1
      have hxb : ∀ h' : a < s.size, ((s[a]'h').toNat : Int) = b := fun h' => by rw [hx h']; exact hb
      cases hd : dig c
      · have HV := Lib.hid (HA.out.trans (row_no hc hd))
        rw [hd] at C1
        clear hb hc hx hd
        go_wp2_with fail
        refine (C1.out _).mono ?_
        rintro e w1 ⟨rfl, hD⟩
        have HD1 := Lib.hid (drawn_on HD.out hD)
        clear hD
        go_wp2_with fail
        go_ret
        exact ⟨ret_i (by rw [HV.out]), HD1.out⟩
      · have HN := Aside0.mk (HA.out.trans (row_yes hc hd))
        rw [hd] at C1
        clear hb hc hx hd
        go_wp2_with fail
        refine (C1.out _).mono ?_
        rintro e w1 ⟨rfl, hD⟩
        have HD1 := Aside0.mk (drawn_on HD.out hD)
        clear hD
        go_wp2_with fail
        go_roundg (s.size - (a + 1))
        case measure => omega
        case rel => exact ⟨a + 1, by omega, by go_num, HD1, HN⟩
    · have he : a = s.size := by omega
      have HV := Lib.hid (HA.out.trans (row_end he))
      have hlt' : ¬ (a : Int) < (s.size : Int) := by omega
      have hlt'' : decide ((a : Int) < (s.size : Int)) = false := decide_eq_false hlt'
      clear he
      go_wp2
      go_ret
      exact ⟨ret_i (by rw [HV.out]), HD.out⟩
set_option maxHeartbeats 1000000 in
theorem row_letter (s : B) (i : Nat) (w : World) (hs : s.size ≤ 140737488351232) (hi : i ≤ s.size) :
    Calls Tryd.prog 37 #[.string s, .int .i64 (i : Int), .func (.func 38) #[] #[]] w fun e w' => e = .returned (.int .i64 ((i + rowN letC (s.data.toList.drop i) : Nat) : Int)) ∧ Drawn0 w w' := by
  obtain ⟨R, hR⟩ : ∃ R, R = i + rowN letC (s.data.toList.drop i) := ⟨_, rfl⟩
  rw [← hR]
  have HR := Lib.hid hR
  clear hR
  go_enter Tryd.func37, Tryd.ntmps37
  go_wp2
  go_loopg [1] (s.size - i) (fun g v1 wx => ∃ a : Nat, a + g = s.size ∧ v1 = .int .i64 a ∧ Aside0 (Drawn0 w wx) ∧ Aside0 (R = a + rowN letC (s.data.toList.drop a)))
  case atStart => exact ⟨i, by omega, rfl, ⟨Drawn0.refl _⟩, ⟨HR.out⟩⟩
  case round =>
    obtain ⟨a, hag, rfl, HD, HA⟩ := hrel
    by_cases hlt : a < s.size
    · obtain ⟨c, hc, hx⟩ := at_byte s a hlt
      have C1 := Lib.hid (letter_any c)
      generalize hb : (c.toNat : Int) = b at C1
      have hxb : ∀ h' : a < s.size, ((s[a]'h').toNat : Int) = b := fun h' => by rw [hx h']; exact hb
      cases hd : letC c
      · have HV := Lib.hid (HA.out.trans (row_no hc hd))
        rw [hd] at C1
        clear hb hc hx hd
        go_wp2_with fail
        refine (C1.out _).mono ?_
        rintro e w1 ⟨rfl, hD⟩
        have HD1 := Lib.hid (drawn_on HD.out hD)
        clear hD
        go_wp2_with fail
        go_ret
        exact ⟨ret_i (by rw [HV.out]), HD1.out⟩
      · have HN := Aside0.mk (HA.out.trans (row_yes hc hd))
        rw [hd] at C1
        clear hb hc hx hd
        go_wp2_with fail
        refine (C1.out _).mono ?_
        rintro e w1 ⟨rfl, hD⟩
        have HD1 := Aside0.mk (drawn_on HD.out hD)
        clear hD
        go_wp2_with fail
        go_roundg (s.size - (a + 1))
        case measure => omega
        case rel => exact ⟨a + 1, by omega, by go_num, HD1, HN⟩
    · have he : a = s.size := by omega
      have HV := Lib.hid (HA.out.trans (row_end he))
      have hlt' : ¬ (a : Int) < (s.size : Int) := by omega
      have hlt'' : decide ((a : Int) < (s.size : Int)) = false := decide_eq_false hlt'
      clear he
      go_wp2
      go_ret
      exact ⟨ret_i (by rw [HV.out]), HD.out⟩
end Go.Proofs.YteonbgknmpobpaaDoor.TL
/- The number at a place. -/
namespace Go.Proofs.YteonbgknmpobpaaDoor.TM
open Go.RowKit Go.Proofs.YteonbgknmpobpaaDoorW.PrintWords Go.Proofs.YteonbgknmpobpaaDoorW.PrintLast Go.Proofs.YteonbgknmpobpaaDoorW.PrintMore
open Go.Proofs.YteonbgknmpobpaaDoor.PTokenLex Go.Proofs.YteonbgknmpobpaaDoor.TJ Go.Proofs.YteonbgknmpobpaaDoor.TK Go.Proofs.YteonbgknmpobpaaDoor.TL
set_option linter.unusedVariables false

abbrev R6 := Int × Int × B × Int × Int × Int
abbrev E : B := ⟨#[]⟩
/-- A token, the place behind it, and the error, as the call hands them back. -/
def tokV (r : R6) : Value := .tuple #[.agg #[.int .i64 r.1, .int .i64 r.2.1, .string r.2.2.1, .int .i64 r.2.2.2.1], .int .i64 r.2.2.2.2.1, .int .i64 r.2.2.2.2.2]
def numOf (rd : Int × Int) (a n : Nat) : R6 := if rd.2 = 0 then (1, rd.1, E, (a : Int), ((a + n : Nat) : Int), 0) else if rd.2 = 25 then (0, 0, E, 0, (a : Int), 25) else (0, 0, E, 0, (a : Int), 20)
def cutB (s : B) (a n : Nat) : B := s.extract a (a + n)
def numV (s : B) (a : Nat) : R6 := numOf (readV (cutB s a (rowN dig (s.data.toList.drop a))).data.toList) a (rowN dig (s.data.toList.drop a))
theorem num_0 {rd : Int × Int} {a n : Nat} (h : rd.2 = 0) : numOf rd a n = (1, rd.1, E, (a : Int), ((a + n : Nat) : Int), 0) := by unfold numOf; rw [if_pos h]
theorem num_25 {rd : Int × Int} {a n : Nat} (h : rd.2 = 25) : numOf rd a n = (0, 0, E, 0, (a : Int), 25) := by unfold numOf; rw [if_neg (by omega), if_pos h]
theorem num_x {rd : Int × Int} {a n : Nat} (h : ¬ rd.2 = 0) (h2 : ¬ rd.2 = 25) : numOf rd a n = (0, 0, E, 0, (a : Int), 20) := by unfold numOf; rw [if_neg h, if_neg h2]
abbrev zeroT : Array Value := #[.int .i64 0, .int .i64 0, .string E, .int .i64 0]
theorem tok_put {W : World} {g : Nat} {K N A : Int} {T : B} (h : W.heap[g]? = some (.cells zeroT 24 (0, 0))) :
    ((((W.setCell ⟨g, 0, none⟩ (.int .i64 K)).setCell ⟨g, 1, none⟩ (.int .i64 N)).setCell ⟨g, 2, none⟩ (.string T)).setCell ⟨g, 3, none⟩ (.int .i64 A)).heap[g]? = some (.cells #[.int .i64 K, .int .i64 N, .string T, .int .i64 A] 24 (0, 0)) := by
  refine blk_put (cs := #[.int .i64 K, .int .i64 N, .string T, .int .i64 0]) ?_ 3 _ rfl
  refine blk_put (cs := #[.int .i64 K, .int .i64 N, .string E, .int .i64 0]) ?_ 2 _ rfl
  refine blk_put (cs := #[.int .i64 K, .int .i64 0, .string E, .int .i64 0]) ?_ 1 _ rfl
  exact blk_put h 0 _ rfl
theorem put_below {w W : World} {g : Nat} {v0 v1 v2 v3 : Value} (h : Below w.heap.size w W) (hg : w.heap.size ≤ g) :
    Below w.heap.size w ((((W.setCell ⟨g, 0, none⟩ v0).setCell ⟨g, 1, none⟩ v1).setCell ⟨g, 2, none⟩ v2).setCell ⟨g, 3, none⟩ v3) :=
  below_set (below_set (below_set (below_set h hg) hg) hg) hg
theorem blk_dr {W W1 : World} {g : Nat} {o : Obj} (h : W.heap[g]? = some o) (d : Drawn0 W W1) : W1.heap[g]? = some o := blk_below h d.below
theorem below_dr0 {w W W1 : World} (h : Below w.heap.size w W) (d : Drawn0 W W1) : Below w.heap.size w W1 := below_then h h.size d.below
/-- The token's cells, as the walk asks for them. -/
structure Cells4 (W : World) (g : Nat) : Prop where
  c0 : W.cell? ⟨g, 0, none⟩ = some (.int .i64 0)
  c1 : W.cell? ⟨g, 1, none⟩ = some (.int .i64 0)
  c2 : W.cell? ⟨g, 2, none⟩ = some (.string E)
  c3 : W.cell? ⟨g, 3, none⟩ = some (.int .i64 0)
  f0 : W.frozen? ⟨g, 0, none⟩ = false
  f1 : W.frozen? ⟨g, 1, none⟩ = false
  f2 : W.frozen? ⟨g, 2, none⟩ = false
  f3 : W.frozen? ⟨g, 3, none⟩ = false
theorem cells4 {W : World} {g : Nat} (h : W.heap[g]? = some (.cells zeroT 24 (0, 0))) : Cells4 W g :=
  ⟨(blk_cell h 0).trans rfl, (blk_cell h 1).trans rfl, (blk_cell h 2).trans rfl, (blk_cell h 3).trans rfl, blk_frozen h 0, blk_frozen h 1, blk_frozen h 2, blk_frozen h 3⟩

set_option maxRecDepth 100000 in
set_option maxHeartbeats 1000000 in
theorem number_any (s : B) (a : Nat) (w : World) (hs : s.size ≤ 140737488351232) (ha : a ≤ s.size) :
    Calls Tryd.prog 34 #[.string s, .int .i64 (a : Int)] w fun e w' => e = .returned (tokV (numV s a)) ∧ Below w.heap.size w w' := by
  have C1 := Lib.hid fun wx => row_digit s a wx hs ha
  have hrow := rowN_le dig (s.data.toList.drop a)
  rw [List.length_drop, size_list] at hrow
  unfold numV cutB
  generalize hn : rowN dig (s.data.toList.drop a) = n at C1 hrow
  have hz : (s.extract a (a + n)).size ≤ 140737488351232 := by rw [ByteArray.size_extract]; omega
  have C2 := Lib.hid fun wx => read_any (s.extract a (a + n)) wx hz
  have HN0 := Lib.hid fun rd => num_0 (rd := rd) (a := a) (n := n)
  have HN25 := Lib.hid fun rd => num_25 (rd := rd) (a := a) (n := n)
  have HNx := Lib.hid fun rd => num_x (rd := rd) (a := a) (n := n)
  have b3 : a ≤ a + n := by omega
  have b4 : a + n ≤ s.size := by omega
  generalize hen : a + n = en at *
  have b1 : (a : Int) ≤ (en : Int) := by omega
  have b2 : (en : Int) ≤ (s.size : Int) := by omega
  obtain ⟨⟨v, er⟩, hrd⟩ : ∃ p, readV (s.extract a en).data.toList = p := ⟨_, rfl⟩
  rw [hrd] at C2 ⊢
  clear hrd hz hn
  go_enter Tryd.func34, Tryd.ntmps34
  go_wp2_with (first | ((with_reducible refine gate_dst (N := 4) rfl ?_); refine box_event ?hg (N := 4) ?hd (cs := zeroT) (t := 24) ?hr ?_; (case hd => rfl); (case hg => rfl); (case hr => first | (go_simp; done) | (go_simp; rfl)); intro gb hg w1 hbox hb; have BK := Lib.hid hbox; have GE := Lib.hid (Nat.le_of_eq hg.symm); have HB := Lib.hid hb; clear hg hbox hb))
  refine (C1.out _).mono ?_
  rintro e w2 ⟨rfl, hD⟩
  have BK2 := Lib.hid (blk_dr BK.out hD)
  have HB2 := Lib.hid (below_dr0 HB.out hD)
  clear hD BK HB
  go_wp2_with fail
  refine (C2.out _).mono ?_
  rintro e w3 ⟨rfl, hD⟩
  have BK3 := Lib.hid (blk_dr BK2.out hD)
  have HB3 := Lib.hid (below_dr0 HB2.out hD)
  clear hD BK2 HB2
  obtain ⟨c0, c1, c2, c3, f0, f1, f2, f3⟩ := cells4 BK3.out
  by_cases h0 : er = 0
  · have HV := Lib.hid (HN0.out (v, er) h0)
    subst h0
    go_wp2_with fail
    refine bodyPost_ret (results_ctt rfl _ _ gb 24 #[.int .i64 1, .int .i64 v, .string E, .int .i64 a] (0, 0) _ rfl (tok_put BK3.out) Tryd.underlying24 rfl (by kernel_rfl)) rfl ?_
    exact ⟨by rw [HV.out]; rfl, put_below HB3.out GE.out⟩
  · have m0 : (er == 0) = false := beq_eq_false_iff_ne.2 h0
    by_cases h25 : er = 25
    · have HV := Lib.hid (HN25.out (v, er) h25)
      subst h25
      go_wp2_with fail
      refine bodyPost_ret (results_ctt rfl _ _ gb 24 zeroT (0, 0) _ rfl (tok_put BK3.out) Tryd.underlying24 rfl (by kernel_rfl)) rfl ?_
      exact ⟨by rw [HV.out]; rfl, put_below HB3.out GE.out⟩
    · have HV := Lib.hid (HNx.out (v, er) h0 h25)
      have m1 : (er == 25) = false := beq_eq_false_iff_ne.2 h25
      clear h0 h25
      go_wp2_with fail
      refine bodyPost_ret (results_ctt rfl _ _ gb 24 zeroT (0, 0) _ rfl (tok_put BK3.out) Tryd.underlying24 rfl (by kernel_rfl)) rfl ?_
      exact ⟨by rw [HV.out]; rfl, put_below HB3.out GE.out⟩
end Go.Proofs.YteonbgknmpobpaaDoor.TM
/- What stands behind a backslash. -/
namespace Go.Proofs.YteonbgknmpobpaaDoor.TN
open Go.RowKit Go.Proofs.YteonbgknmpobpaaDoorW.PrintWords Go.Proofs.YteonbgknmpobpaaDoorW.PrintLast Go.Proofs.YteonbgknmpobpaaDoorW.PrintMore
open Go.Proofs.YteonbgknmpobpaaDoor.PTokenLex Go.Proofs.YteonbgknmpobpaaDoor.TJ Go.Proofs.YteonbgknmpobpaaDoor.TK Go.Proofs.YteonbgknmpobpaaDoor.TL Go.Proofs.YteonbgknmpobpaaDoor.TM
set_option linter.unusedVariables false

def hexS : B := ⟨#[48, 49, 50, 51, 52, 53, 54, 55, 56, 57, 97, 98, 99, 100, 101, 102]⟩
def hexN (c : UInt8) : Int := if 48 ≤ c.toNat ∧ c.toNat ≤ 57 then (c.toNat : Int) - 48 else if 97 ≤ c.toNat ∧ c.toNat ≤ 102 then (c.toNat : Int) - 87 else -1
theorem hexN_le (c : UInt8) : -1 ≤ hexN c ∧ hexN c ≤ 15 := by
  unfold hexN
  repeat' split
  all_goals omega
theorem hex_all : (List.range 256).all (fun n => Lib.indexByte hexS.data.toList (UInt8.ofNat n) == hexN (UInt8.ofNat n)) = true := by decide +kernel
theorem hex_is (c : UInt8) : Lib.indexByte hexS.data.toList c = hexN c := by
  have h := List.all_eq_true.1 hex_all c.toNat (List.mem_range.2 (UInt8.toNat_lt c))
  rw [UInt8.ofNat_toNat] at h
  exact beq_iff_eq.1 h
theorem hexCall (c : UInt8) (w : World) : Calls Tryd.prog 59 #[.string hexS, .int .u8 (c.toNat : Int)] w fun e w' => e = .returned (.int .i64 (hexN c)) ∧ w' = w := by
  have := Tryd.strings_IndexByte hexS (c.toNat : Int) w
  rw [Int.toNat_natCast, show c.toNat.toUInt8 = c from UInt8.ofNat_toNat, hex_is] at this
  exact this

/-- What stands behind a backslash: the byte, and how many bytes that takes. -/
def escH : L8 → Int × Int
  | a :: b :: _ => if 0 ≤ hexN a ∧ 0 ≤ hexN b then (16 * hexN a + hexN b, 3) else (0, 0)
  | _ => (0, 0)
def escC (c : UInt8) (r : L8) : Int × Int := if c.toNat = 34 ∨ c.toNat = 92 then ((c.toNat : Int), 1) else if c.toNat = 110 then (10, 1) else if c.toNat = 120 then escH r else (0, 0)
def escL : L8 → Int × Int
  | [] => (0, 0)
  | c :: r => escC c r
theorem esc_q {c : UInt8} {r : L8} (h : c.toNat = 34 ∨ c.toNat = 92) : escC c r = ((c.toNat : Int), 1) := by unfold escC; rw [if_pos h]
theorem esc_n {c : UInt8} {r : L8} (h : c.toNat = 110) : escC c r = (10, 1) := by unfold escC; rw [if_neg (by omega), if_pos h]
theorem esc_x {c : UInt8} {r : L8} (h1 : ¬ c.toNat = 34) (h2 : ¬ c.toNat = 92) (h3 : ¬ c.toNat = 110) (h4 : ¬ c.toNat = 120) : escC c r = (0, 0) := by
  unfold escC; rw [if_neg (by omega), if_neg h3, if_neg h4]
theorem esc_120 {c : UInt8} {r : L8} (h : c.toNat = 120) : escC c r = escH r := by
  unfold escC; rw [if_neg (by omega), if_neg (by omega), if_pos h]
theorem esc_h {a b : UInt8} {r : L8} (h2 : 0 ≤ hexN a) (h3 : 0 ≤ hexN b) : escH (a :: b :: r) = (16 * hexN a + hexN b, 3) := by rw [escH, if_pos ⟨h2, h3⟩]
theorem esc_h0 {a b : UInt8} {r : L8} (h2 : ¬ (0 ≤ hexN a ∧ 0 ≤ hexN b)) : escH (a :: b :: r) = (0, 0) := by rw [escH, if_neg h2]
theorem esc_s {r : L8} (h2 : r.length < 2) : escH r = (0, 0) := by
  match r, h2 with
  | [], _ => rfl
  | [a], _ => rfl
theorem ret2 {a b c d : Int} (h : a = b) (k : c = d) : Ending.returned (.tuple #[.int .u8 a, .int .i64 c]) = .returned (.tuple #[.int .u8 b, .int .i64 d]) := by rw [h, k]
theorem nil_iff' (s : B) : s.toList = [] ↔ s.size = 0 := by rw [Lib.toList_data, ← size_list, List.length_eq_zero_iff]
theorem get_list (s : B) (i : Nat) (h : i < s.size) : ∀ h' : i < s.size, (s[i]'h') = s.data.toList[i]'(by rw [size_list]; exact h) := fun _ => rfl

set_option maxHeartbeats 2000000 in
set_option maxRecDepth 100000 in
theorem escaped_any (s : B) (w : World) : Calls Tryd.prog 50 #[.string s] w fun e w' => e = .returned (.tuple #[.int .u8 (escL s.data.toList).1, .int .i64 (escL s.data.toList).2]) ∧ Drawn0 w w' := by
  by_cases h0 : s.size = 0
  · have hl : s.data.toList = [] := by rw [← Lib.toList_data]; exact (nil_iff' s).2 h0
    have he : (s.toList == ([] : List UInt8)) = true := beq_iff_eq.2 ((nil_iff' s).2 h0)
    have he2 : s.toList.isEmpty = true := by rw [(nil_iff' s).2 h0]; rfl
    have he3 : s.toList = [] := (nil_iff' s).2 h0
    rw [hl]
    clear h0 hl
    go_enter Tryd.func50, Tryd.ntmps50
    go_wp2
    go_ret2
    exact ⟨rfl, Drawn0.refl _⟩
  · have hne : s.toList ≠ [] := fun e => h0 ((nil_iff' s).1 e)
    have he : (s.toList == ([] : List UInt8)) = false := beq_eq_false_iff_ne.2 hne
    have he2 : s.toList.isEmpty = false := by cases hh : s.toList with | nil => exact absurd hh hne | cons a b => rfl
    have hpos : 0 < s.size := by omega
    obtain ⟨c, hc, hx⟩ := at_byte s 0 hpos
    rw [List.drop_zero] at hc
    rw [hc]
    generalize hr : s.data.toList.drop (0 + 1) = r at hc
    have hrl : r.length + 1 = s.size := by rw [← size_list, hc]; rfl
    have hx0 : ∀ h' : 0 < s.size, ((s[0]'h').toNat : Int) = (c.toNat : Int) := fun h' => by rw [hx h']
    clear h0 hne
    have hL : escL (c :: r) = escC c r := rfl
    rw [hL]
    clear hL hc
    by_cases h34 : c.toNat = 34
    · have HV := Lib.hid (esc_q (r := r) (.inl h34))
      rw [h34] at hx0 HV
      have HV2 := Lib.hid (show escC c r = (34, 1) from HV.out)
      have hx1 : ∀ h' : 0 < s.size, ((s[0]'h').toNat : Int) = 34 := fun h' => hx0 h'
      clear hx0 HV h34 hx hr hrl
      go_enter Tryd.func50, Tryd.ntmps50
      go_wp2
      go_ret2
      exact ⟨by rw [HV2.out]; rfl, Drawn0.refl _⟩
    · by_cases h92 : c.toNat = 92
      · have HV := Lib.hid (esc_q (r := r) (.inr h92))
        rw [h92] at hx0 HV
        have HV2 := Lib.hid (show escC c r = (92, 1) from HV.out)
        have hx1 : ∀ h' : 0 < s.size, ((s[0]'h').toNat : Int) = 92 := fun h' => hx0 h'
        clear hx0 HV h34 h92 hx hr hrl
        go_enter Tryd.func50, Tryd.ntmps50
        go_wp2
        go_ret2
        exact ⟨by rw [HV2.out]; rfl, Drawn0.refl _⟩
      · by_cases h110 : c.toNat = 110
        · have HV := Lib.hid (esc_n (r := r) h110)
          rw [h110] at hx0
          have hx1 : ∀ h' : 0 < s.size, ((s[0]'h').toNat : Int) = 110 := fun h' => hx0 h'
          clear hx0 h34 h92 h110 hx hr hrl
          go_enter Tryd.func50, Tryd.ntmps50
          go_wp2
          go_ret2
          exact ⟨by rw [HV.out]; rfl, Drawn0.refl _⟩
        · by_cases h120 : c.toNat = 120
          · have HV := Lib.hid (esc_120 (r := r) h120)
            rw [h120] at hx0
            have hx1 : ∀ h' : 0 < s.size, ((s[0]'h').toNat : Int) = 120 := fun h' => hx0 h'
            clear hx0 h34 h92 h110 h120 hx
            by_cases h3 : s.size < 3
            · have HW := Lib.hid (HV.out.trans (esc_s (by omega)))
              have h3' : decide ((s.size : Int) < 3) = true := decide_eq_true (by omega)
              clear hr hrl
              go_enter Tryd.func50, Tryd.ntmps50
              go_wp2
              go_ret2
              exact ⟨by rw [HW.out]; rfl, Drawn0.refl _⟩
            · obtain ⟨a, ha, hxa⟩ := at_byte s 1 (by omega)
              obtain ⟨b, hb, hxb⟩ := at_byte s 2 (by omega)
              have hr2 : r = a :: b :: s.data.toList.drop 3 := by
                rw [← hr]
                have e1 : s.data.toList.drop (0 + 1) = a :: s.data.toList.drop 2 := ha
                have e2 : s.data.toList.drop 2 = b :: s.data.toList.drop 3 := hb
                rw [e1, e2]
              have hxa1 : ∀ h' : 1 < s.size, ((s[1]'h').toNat : Int) = (a.toNat : Int) := fun h' => by rw [hxa h']
              have hxb1 : ∀ h' : 2 < s.size, ((s[2]'h').toNat : Int) = (b.toNat : Int) := fun h' => by rw [hxb h']
              have A := Lib.hid (hexCall a)
              have Bc := Lib.hid (hexCall b)
              have HA := hexN_le a
              have HB := hexN_le b
              rw [hr2] at HV ⊢
              have h3' : decide ((s.size : Int) < 3) = false := decide_eq_false (by omega)
              have p1 : 1 < s.size := by omega
              have p2 : 2 < s.size := by omega
              by_cases hh : 0 ≤ hexN a ∧ 0 ≤ hexN b
              · have HW := Lib.hid (HV.out.trans (esc_h hh.1 hh.2))
                obtain ⟨g1, g2⟩ := hh
                generalize (a.toNat : Int) = ai at hxa1 A
                generalize (b.toNat : Int) = bi at hxb1 Bc
                generalize hexN a = x at A HA HW g1
                generalize hexN b = y at Bc HB HW g2
                have q1 : IntKind.i64.wrap (16 * x) = 16 * x := by rw [i64_of]; unfold wrap64; omega
                have q2 : IntKind.i64.wrap (16 * x + y) = 16 * x + y := by rw [i64_of]; unfold wrap64; omega
                have q3 : IntKind.u8.wrap (16 * x + y) = 16 * x + y := by rw [byte_of]; omega
                have d1 : decide (0 ≤ x) = true := decide_eq_true g1
                have d2 : decide (0 ≤ y) = true := decide_eq_true g2
                clear hr hrl ha hb hr2 hxa hxb HV
                go_enter Tryd.func50, Tryd.ntmps50
                go_wp2
                go_quiet (first | (go_at_call 59; exact Calls.quiet_of_same (A.out _)) | (go_at_call 59; exact Calls.quiet_of_same (Bc.out _)))
                go_wp2
                go_ret2
                exact ⟨by rw [HW.out]; rfl, ⟨_, rfl⟩⟩
              · have HW := Lib.hid (HV.out.trans (esc_h0 hh))
                generalize (a.toNat : Int) = ai at hxa1 A
                generalize (b.toNat : Int) = bi at hxb1 Bc
                generalize hexN a = x at A HA hh
                generalize hexN b = y at Bc HB hh
                clear hr hrl ha hb hr2 hxa hxb HV
                by_cases g1 : 0 ≤ x
                · have d1 : decide (0 ≤ x) = true := decide_eq_true g1
                  have d2 : decide (0 ≤ y) = false := decide_eq_false (fun g2 => hh ⟨g1, g2⟩)
                  clear hh
                  go_enter Tryd.func50, Tryd.ntmps50
                  go_wp2
                  go_quiet (first | (go_at_call 59; exact Calls.quiet_of_same (A.out _)) | (go_at_call 59; exact Calls.quiet_of_same (Bc.out _)))
                  go_wp2
                  go_ret2
                  exact ⟨by rw [HW.out]; rfl, ⟨_, rfl⟩⟩
                · have d1 : decide (0 ≤ x) = false := decide_eq_false g1
                  clear hh
                  go_enter Tryd.func50, Tryd.ntmps50
                  go_wp2
                  go_quiet (first | (go_at_call 59; exact Calls.quiet_of_same (A.out _)) | (go_at_call 59; exact Calls.quiet_of_same (Bc.out _)))
                  go_wp2
                  go_ret2
                  exact ⟨by rw [HW.out]; rfl, ⟨_, rfl⟩⟩
          · have HV := Lib.hid (esc_x (r := r) h34 h92 h110 h120)
            generalize hb : (c.toNat : Int) = b at hx0
            have m1 : (b == 34) = false := beq_eq_false_iff_ne.2 (by omega)
            have m2 : (b == 92) = false := beq_eq_false_iff_ne.2 (by omega)
            have m3 : (b == 110) = false := beq_eq_false_iff_ne.2 (by omega)
            have m4 : (b == 120) = false := beq_eq_false_iff_ne.2 (by omega)
            clear hb h34 h92 h110 h120 hx hr hrl
            go_enter Tryd.func50, Tryd.ntmps50
            go_wp2
            go_ret2
            exact ⟨by rw [HV.out]; rfl, Drawn0.refl _⟩
end Go.Proofs.YteonbgknmpobpaaDoor.TN
/- The text at a place. -/
namespace Go.Proofs.YteonbgknmpobpaaDoor.TO
open Go.RowKit Go.Proofs.YteonbgknmpobpaaDoorW.PrintWords Go.Proofs.YteonbgknmpobpaaDoorW.PrintLast Go.Proofs.YteonbgknmpobpaaDoorW.PrintMore
open Go.Proofs.YteonbgknmpobpaaDoor.PTokenLex Go.Proofs.YteonbgknmpobpaaDoor.TJ Go.Proofs.YteonbgknmpobpaaDoor.TK Go.Proofs.YteonbgknmpobpaaDoor.TL Go.Proofs.YteonbgknmpobpaaDoor.TM Go.Proofs.YteonbgknmpobpaaDoor.TN
set_option linter.unusedVariables false

/-- One part of a text: its byte, and how many bytes it takes; none: it is none. -/
def stepC (c : UInt8) (r : L8) : Option (Int × Nat) :=
  if c.toNat = 92 then (if (escL r).2 = 0 then none else some ((escL r).1, (escL r).2.toNat + 1))
  else if c.toNat < 32 ∨ 126 < c.toNat then none else some ((c.toNat : Int), 1)
def errV (f : Nat) (e : Int) : R6 := (0, 0, E, 0, (f : Int), e)
def textF (f : Nat) : Nat → L8 → List Int → Nat → R6
  | 0, _, _, _ => errV f 20
  | _ + 1, [], _, _ => errV f 20
  | k + 1, c :: r, out, a => if c.toNat = 34 then (if 256 < out.length then errV f 4 else (3, 0, strOfNums out, (f : Int), ((a + 1 : Nat) : Int), 0))
      else match stepC c r with
        | none => errV f 20
        | some (b, n) => textF f k ((c :: r).drop n) (out ++ [b]) (a + n)
def textV (s : B) (f : Nat) : R6 := textF f (s.size + 1) (s.data.toList.drop (f + 1)) [] (f + 1)
theorem escH_le (r : L8) : (escH r).2.toNat ≤ r.length + 1 ∧ 0 ≤ (escH r).2 ∧ (escH r).2 ≤ 3 := by
  match r with
  | [] => exact ⟨by decide +kernel, by decide +kernel, by decide +kernel⟩
  | [a] => exact ⟨by show (0 : Int).toNat ≤ _; simp, by show (0 : Int) ≤ 0; omega, by show (0 : Int) ≤ 3; omega⟩
  | a :: b :: q =>
    rw [escH]
    split
    · refine ⟨?_, by show (0 : Int) ≤ 3; omega, by show (3 : Int) ≤ 3; omega⟩
      show (3 : Int).toNat ≤ _
      simp only [List.length_cons]; omega
    · exact ⟨by show (0 : Int).toNat ≤ _; simp, by show (0 : Int) ≤ 0; omega, by show (0 : Int) ≤ 3; omega⟩
theorem esc_le (l : L8) : (escL l).2.toNat ≤ l.length ∧ 0 ≤ (escL l).2 ∧ (escL l).2 ≤ 3 := by
  match l with
  | [] => exact ⟨by decide +kernel, by decide +kernel, by decide +kernel⟩
  | c :: r =>
    have hh := escH_le r
    show (escC c r).2.toNat ≤ _ ∧ 0 ≤ (escC c r).2 ∧ (escC c r).2 ≤ 3
    rw [List.length_cons]
    unfold escC
    split
    · exact ⟨by show (1 : Int).toNat ≤ _; omega, by show (0 : Int) ≤ 1; omega, by show (1 : Int) ≤ 3; omega⟩
    · split
      · exact ⟨by show (1 : Int).toNat ≤ _; omega, by show (0 : Int) ≤ 1; omega, by show (1 : Int) ≤ 3; omega⟩
      · split
        · exact hh
        · exact ⟨by show (0 : Int).toNat ≤ _; omega, by show (0 : Int) ≤ 0; omega, by show (0 : Int) ≤ 3; omega⟩
theorem box_ne {W : World} {base g : Nat} {ok : Nat → Prop} {v : Value} {xs : List Int} {cs : Array Value} (h : Kd.R (Kd.int .u8) 5 W base ok v xs) (hb : W.heap[g]? = some (.cells cs 24 (0, 0))) : some g ≠ v.ownBlock := by
  intro e
  obtain ⟨inner, ho⟩ := Kd.R_own h
  obtain ⟨cells, hc⟩ := own_typed ho g e.symm
  rw [hb] at hc
  injection hc with hc
  injection hc with _ ht _
  exact absurd ht (by decide)
theorem t_34 {f k a : Nat} {out : List Int} {c : UInt8} {r : L8} (h : c.toNat = 34) (h2 : ¬ 256 < out.length) : textF f (k + 1) (c :: r) out a = (3, 0, strOfNums out, (f : Int), ((a + 1 : Nat) : Int), 0) := by rw [textF, if_pos h, if_neg h2]
theorem t_long {f k a : Nat} {out : List Int} {c : UInt8} {r : L8} (h : c.toNat = 34) (h2 : 256 < out.length) : textF f (k + 1) (c :: r) out a = errV f 4 := by rw [textF, if_pos h, if_pos h2]
theorem t_no {f k a : Nat} {out : List Int} {c : UInt8} {r : L8} (h : ¬ c.toNat = 34) (h2 : stepC c r = none) : textF f (k + 1) (c :: r) out a = errV f 20 := by rw [textF, if_neg h, h2]
theorem t_step {f k a n : Nat} {b : Int} {out : List Int} {c : UInt8} {r : L8} (h : ¬ c.toNat = 34) (h2 : stepC c r = some (b, n)) : textF f (k + 1) (c :: r) out a = textF f k ((c :: r).drop n) (out ++ [b]) (a + n) := by rw [textF, if_neg h, h2]
theorem t_end {f k a : Nat} {out : List Int} : textF f k [] out a = errV f 20 := by cases k <;> rfl
theorem err_tok (f : Nat) (e : Int) : tokV (errV f e) = .tuple #[.agg zeroT, .int .i64 (f : Int), .int .i64 e] := rfl

set_option maxHeartbeats 4000000 in
set_option maxRecDepth 100000 in
theorem quoted_any (s : B) (f : Nat) (w : World) (hs : s.size ≤ 140737488351232) (hf : f < s.size) :
    Calls Tryd.prog 35 #[.string s, .int .i64 (f : Int)] w fun e w' => e = .returned (tokV (textV s f)) ∧ Below w.heap.size w w' := by
  obtain ⟨T, hT⟩ : ∃ T, T = textV s f := ⟨_, rfl⟩
  rw [← hT]
  have HT := Lib.hid (show T = textF f (s.size + 1) (s.data.toList.drop (f + 1)) [] (f + 1) from hT)
  clear hT
  go_enter Tryd.func35, Tryd.ntmps35
  go_wp2_with (first | ((with_reducible refine gate_dst (N := 4) rfl ?_); refine box_event ?hg (N := 4) ?hd (cs := zeroT) (t := 24) ?hr ?_; (case hd => rfl); (case hg => rfl); (case hr => first | (go_simp; done) | (go_simp; rfl)); intro gb hg w1 hbox hb; have BK := Lib.hid hbox; have GE := Lib.hid (Nat.le_of_eq hg.symm); have HB := Lib.hid hb; clear hg hbox hb))
  go_loopg [7, 8] (s.size + 1) (fun g v7 v8 wx => ∃ (a : Nat) (out : List Int), a ≤ s.size ∧ out.length ≤ a ∧ v8 = .int .i64 a ∧ s.size < g + a ∧ Aside0 (T = textF f g (s.data.toList.drop a) out a) ∧ Aside0 (Kd.R (Kd.int .u8) 5 wx w.heap.size (fun _ => True) v7 out) ∧ Aside0 (wx.heap[gb]? = some (.cells zeroT 24 (0, 0))) ∧ Aside0 (Below w.heap.size w wx))
  case atStart => exact ⟨f + 1, [], by omega, by simp, by go_num, by omega, ⟨HT.out⟩, ⟨Kd.R_nil _ _ _ _ _⟩, ⟨BK.out⟩, ⟨HB.out⟩⟩
  case round =>
    clear BK HB HT
    obtain ⟨a, out, ha, hol, rfl, hga, HA, HO2, BK2, HB2⟩ := hrel
    by_cases hlt : a < s.size
    · obtain ⟨c, hc, hx⟩ := at_byte s a hlt
      obtain ⟨k1, rfl⟩ : ∃ m, gk = m + 1 := ⟨gk - 1, by omega⟩
      rw [hc] at HA
      have hxb : ∀ h' : a < s.size, ((s[a]'h').toNat : Int) = (c.toNat : Int) := fun h' => by rw [hx h']
      obtain ⟨A, cc, rfl⟩ := Kd.R_slice HO2.out
      by_cases h34 : c.toNat = 34
      · have hx34 : ∀ h' : a < s.size, ((s[a]'h').toNat : Int) = 34 := fun h' => by rw [hxb h', h34]; rfl
        obtain ⟨c0, c1, c2, c3, f0, f1, f2, f3⟩ := cells4 BK2.out
        by_cases hl : 256 < out.length
        · have HV := Lib.hid (HA.out.trans (t_long h34 hl))
          have hl' : decide (256 < (out.length : Int)) = true := decide_eq_true (by omega)
          clear h34 hx hxb hc HA
          go_wp2
          refine bodyPost_ret (results_ctt rfl _ _ gb 24 zeroT (0, 0) _ rfl (tok_put BK2.out) Tryd.underlying24 rfl (by kernel_rfl)) rfl ?_
          exact ⟨by rw [HV.out, err_tok]; rfl, put_below HB2.out GE.out⟩
        · have HV := Lib.hid (HA.out.trans (t_34 h34 hl))
          have hl' : decide (256 < (out.length : Int)) = false := decide_eq_false (by omega)
          have hcv := own_string (P := Tryd.prog) Tryd.underlying62 Tryd.underlying5 Tryd.underlying9 (Kd.own_of_R HO2.out)
          clear h34 hx hxb hc HA
          go_wp2
          refine bodyPost_ret (results_ctt rfl _ _ gb 24 #[.int .i64 3, .int .i64 0, .string (strOfNums out), .int .i64 f] (0, 0) _ rfl (tok_put BK2.out) Tryd.underlying24 rfl (by kernel_rfl)) rfl ?_
          exact ⟨by rw [HV.out]; rfl, put_below HB2.out GE.out⟩
      · have m34 : ((c.toNat : Int) == 34) = false := beq_eq_false_iff_ne.2 (by omega)
        by_cases h92 : c.toNat = 92
        · have hst : stepC c (s.data.toList.drop (a + 1)) = if (escL (s.data.toList.drop (a + 1))).2 = 0 then none else some ((escL (s.data.toList.drop (a + 1))).1, (escL (s.data.toList.drop (a + 1))).2.toNat + 1) := by unfold stepC; rw [if_pos h92]
          have hel := esc_le (s.data.toList.drop (a + 1))
          have hdl : (s.data.toList.drop (a + 1)).length = s.size - (a + 1) := by rw [List.length_drop, size_list]
          have C1 := Lib.hid fun wx => escaped_any (s.extract (a + 1) s.size) wx
          have hex : (s.extract (a + 1) s.size).data.toList = s.data.toList.drop (a + 1) := by rw [Lib.extract_to_end]
          rw [hex] at C1
          have HT1 := Lib.hid fun h2 => HA.out.trans (t_no h34 h2)
          have HT2 := Lib.hid fun b n h2 => HA.out.trans (t_step (b := b) (n := n) h34 h2)
          generalize escL (s.data.toList.drop (a + 1)) = en at hst hel C1
          obtain ⟨b, n⟩ := en
          obtain ⟨he1, he2, he3⟩ := hel
          have hx92 : ∀ h' : a < s.size, ((s[a]'h').toNat : Int) = 92 := fun h' => by rw [hxb h', h92]; rfl
          have b1 : (a : Int) + 1 ≤ (s.size : Int) := by omega
          clear h92 h34 hx hxb HA m34 hex
          by_cases hn : n = 0
          · have HV := Lib.hid (HT1.out (by rw [hst]; simp [hn]))
            subst hn
            clear HT1 HT2 hst hc
            go_wp2_with fail
            refine (C1.out _).mono ?_
            rintro e w3 ⟨rfl, hD⟩
            have BK3 := Lib.hid (blk_dr BK2.out hD)
            have HB3 := Lib.hid (below_dr0 HB2.out hD)
            clear hD
            obtain ⟨c0, c1, c2, c3, f0, f1, f2, f3⟩ := cells4 BK3.out
            go_wp2_with fail
            refine bodyPost_ret (results_ctt rfl _ _ gb 24 zeroT (0, 0) _ rfl (tok_put BK3.out) Tryd.underlying24 rfl (by kernel_rfl)) rfl ?_
            exact ⟨by rw [HV.out, err_tok]; rfl, put_below HB3.out GE.out⟩
          · have hst2 := HT2.out b (n.toNat + 1) (by rw [hst, if_neg hn])
            have hdd : (c :: s.data.toList.drop (a + 1)).drop (n.toNat + 1) = s.data.toList.drop (a + (n.toNat + 1)) := by rw [← hc, List.drop_drop]
            rw [hdd] at hst2
            have HN := Aside0.mk hst2
            have hn0 : (n == 0) = false := beq_eq_false_iff_ne.2 hn
            obtain ⟨q, rfl⟩ : ∃ q : Nat, n = q := ⟨n.toNat, by omega⟩
            rw [Int.toNat_natCast] at HN he1
            clear HT1 HT2 hst hc hst2 hdd hn
            go_wp2_with fail
            refine (C1.out _).mono ?_
            rintro e w3 ⟨rfl, hD⟩
            have BK3 := Lib.hid (blk_dr BK2.out hD)
            have HB3 := Lib.hid (below_dr0 HB2.out hD)
            have HO3 := Lib.hid (Kd.R_below HO2.out hD.below)
            clear hD
            go_wp2_with (first | ((with_reducible refine gate_builtin (b := .append) (xs := #[.tmp 56, .tmp 58]) rfl ?_); at_builtin; refine Kd.R_append (Kd.int .u8) (w0 := w) w.heap.size rfl (.tmp 56) (.tmp 58) 62 5 (.int .u8 0) 1 rfl Tryd.underlying62 info5 rfl (by decide) (by omega) (.slice A out.length cc) out b [.int .u8 b] (fun _ => True) (fun _ => False) rfl rfl ?aP (fun _ hk => hk.elim) ?aF ?aO ?aB ?aS ?aL ?_; (case aP => exact rfl); (case aB => exact HB3.out); (case aF => exact (fun _ _ => trivial)); (case aO => exact HO3.out); (case aS => exact below_size HB3.out); (case aL => omega); intro v71 w51 ho hb hg hat; have HB4 := Aside0.mk hb; have HO4 := Aside0.mk ho; have BK4 := Aside0.mk (blk_grown BK3.out hg (box_ne HO3.out BK3.out)); clear ho hb hg hat))
            go_roundg k1
            case measure => omega
            case rel => exact ⟨a + (q + 1), out ++ [b], by omega, by simp; omega, by go_num, by omega, ⟨HN.out⟩, HO4, BK4, HB4⟩
        · have m92 : ((c.toNat : Int) == 92) = false := beq_eq_false_iff_ne.2 (by omega)
          by_cases hbad : c.toNat < 32 ∨ 126 < c.toNat
          · have hst : stepC c (s.data.toList.drop (a + 1)) = none := by unfold stepC; rw [if_neg h92, if_pos hbad]
            have HV := Lib.hid (HA.out.trans (t_no h34 hst))
            obtain ⟨c0, c1, c2, c3, f0, f1, f2, f3⟩ := cells4 BK2.out
            generalize hb : (c.toNat : Int) = b at hxb m34 m92
            by_cases hlo : c.toNat < 32
            · have d1 : decide (b < 32) = true := decide_eq_true (by omega)
              clear h92 h34 hx hc HA hst hb hbad hlo
              go_wp2
              refine bodyPost_ret (results_ctt rfl _ _ gb 24 zeroT (0, 0) _ rfl (tok_put BK2.out) Tryd.underlying24 rfl (by kernel_rfl)) rfl ?_
              exact ⟨by rw [HV.out, err_tok]; rfl, put_below HB2.out GE.out⟩
            · have d1 : decide (b < 32) = false := decide_eq_false (by omega)
              have d2 : decide (126 < b) = true := decide_eq_true (by omega)
              clear h92 h34 hx hc HA hst hb hbad hlo
              go_wp2
              refine bodyPost_ret (results_ctt rfl _ _ gb 24 zeroT (0, 0) _ rfl (tok_put BK2.out) Tryd.underlying24 rfl (by kernel_rfl)) rfl ?_
              exact ⟨by rw [HV.out, err_tok]; rfl, put_below HB2.out GE.out⟩
          · have hst : stepC c (s.data.toList.drop (a + 1)) = some ((c.toNat : Int), 1) := by unfold stepC; rw [if_neg h92, if_neg hbad]
            have hst2 := HA.out.trans (t_step h34 hst)
            have HB3 := HB2
            have BK3 := Lib.hid (blk_alloc BK2.out (.cells #[.int .u8 (c.toNat : Int)] 5))
            have HO3 := HO2
            generalize hb : (c.toNat : Int) = b at hxb m34 m92 hst2 BK3
            have d1 : decide (b < 32) = false := decide_eq_false (by omega)
            have d2 : decide (126 < b) = false := decide_eq_false (by omega)
            have HN := Aside0.mk hst2
            clear h92 h34 hx hc HA hst hb hbad hst2
            go_wp2_with (first | ((with_reducible refine gate_builtin (b := .append) (xs := #[.tmp 23, .tmp 25]) rfl ?_); at_builtin; refine Kd.R_append (Kd.int .u8) (w0 := w) w.heap.size rfl (.tmp 23) (.tmp 25) 62 5 (.int .u8 0) 1 rfl Tryd.underlying62 info5 rfl (by decide) (by omega) (.slice A out.length cc) out b [.int .u8 b] (fun _ => True) (fun _ => False) rfl rfl ?aP (fun _ hk => hk.elim) ?aF ?aO ?aB ?aS ?aL ?_; (case aP => exact rfl); (case aB => exact HB3.out); (case aF => exact (fun _ _ => trivial)); (case aO => exact HO3.out); (case aS => exact below_size HB3.out); (case aL => omega); intro v71 w51 ho hb hg hat; have HB4 := Aside0.mk hb; have HO4 := Aside0.mk ho; have BK4 := Aside0.mk (blk_grown BK2.out hg (box_ne HO2.out BK2.out)); clear ho hb hg hat))
            go_roundg k1
            case measure => omega
            case rel => exact ⟨a + 1, out ++ [b], by omega, by simp; omega, by go_num, by omega, ⟨HN.out⟩, HO4, BK4, HB4⟩
    · have he : s.data.toList.drop a = [] := List.drop_eq_nil_of_le (by rw [size_list]; omega)
      rw [he] at HA
      have HV := Lib.hid (HA.out.trans t_end)
      obtain ⟨c0, c1, c2, c3, f0, f1, f2, f3⟩ := cells4 BK2.out
      clear he HA
      go_wp2
      refine bodyPost_ret (results_ctt rfl _ _ gb 24 zeroT (0, 0) _ rfl (tok_put BK2.out) Tryd.underlying24 rfl (by kernel_rfl)) rfl ?_
      exact ⟨by rw [HV.out, err_tok]; rfl, put_below HB2.out GE.out⟩
end Go.Proofs.YteonbgknmpobpaaDoor.TO
