/- Which number a text is: the program's reader and the document's come to the same plain function of the text's bytes. -/
import Derived.Test.YteonbgknmpobpaaPNumTextsx
import Derived.Lib.Strings
namespace Go.Proofs.Yteonbgknmpobpaa.Num
open Go.RowKit Go.Proofs.YteonbgknmpobpaaW.PrintWords Go.Proofs.YteonbgknmpobpaaW.PrintLast Go.Proofs.YteonbgknmpobpaaW.PrintMore
open Go.Proofs.Yteonbgknmpobpaa.PNumTexts
set_option linter.unusedVariables false

def dig (c : UInt8) : Bool := decide (48 ≤ c.toNat) && decide (c.toNat ≤ 57)
def val (n : Int) (l : List UInt8) : Int := l.foldl (fun n c => n * 10 + ((c.toNat : Int) - 48)) n
def plainB : List UInt8 → Bool
  | [] => false
  | c :: r => !(decide (c.toNat = 48) && decide (0 < r.length)) && (c :: r).all dig
/-- Digits, read: too great, or the number. -/
def readD (neg : Bool) (ds : List UInt8) : Int × Int :=
  if !plainB ds || (neg && ds == [48]) then (0, 2) else if val 0 ds > 9007199254740992 then (0, 25) else (if neg then -(val 0 ds) else val 0 ds, 0)
/-- What a text tells as a number. -/
def readV (l : List UInt8) : Int × Int := if l.head? = some 45 then readD true l.tail else readD false l

theorem wrap_in {x : Int} (h : -9223372036854775808 ≤ x ∧ x ≤ 9223372036854775807) : wrap64 x = x := by unfold wrap64; omega
theorem wrap_succ {i n : Nat} (h : i < n) (hn : n ≤ 140737488351232) : wrap64 ((i : Int) + 1) = ((i + 1 : Nat) : Int) := by unfold wrap64; omega
theorem size_list (s : ByteArray) : s.data.toList.length = s.size := by rw [Array.length_toList]; rfl
theorem bt_get (s : ByteArray) (i : Nat) (h : i < s.data.toList.length) : bt s (i : Int) = ((s.data.toList[i]'h).toNat : Int) := by
  have h' : i < s.size := by rw [← size_list]; exact h
  have := bt_at s (i : Int) (by simpa using h')
  rw [← this]
  simp only [Int.toNat_natCast]
  rfl
theorem drop_cons (s : ByteArray) (i : Nat) (h : i < s.size) : ∃ c, s.data.toList.drop i = c :: s.data.toList.drop (i + 1) ∧ bt s (i : Int) = (c.toNat : Int) := by
  have h' : i < s.data.toList.length := by rw [size_list]; exact h
  exact ⟨s.data.toList[i], List.drop_eq_getElem_cons h', bt_get s i h'⟩
theorem dig_le {c : UInt8} (h : dig c = true) : 48 ≤ c.toNat ∧ c.toNat ≤ 57 := by simpa [dig] using h

theorem plain_loop (s : ByteArray) (hs : s.size ≤ 140737488351232) (d : Nat) : ∀ (k i : Nat), i + d = s.size → d < k →
    num_plain.l0 k s (s.size : Int) (i : Int) = some ((s.data.toList.drop i).all dig) := by
  induction d with
  | zero =>
    intro k i hi hk
    obtain ⟨k, rfl⟩ : ∃ m, k = m + 1 := ⟨k - 1, by omega⟩
    simp only [num_plain.l0]
    rw [if_neg (by omega), List.drop_eq_nil_of_le (by rw [size_list]; omega)]
    rfl
  | succ d ih =>
    intro k i hi hk
    obtain ⟨k, rfl⟩ : ∃ m, k = m + 1 := ⟨k - 1, by omega⟩
    obtain ⟨c, hc, hb⟩ := drop_cons s i (by omega)
    simp only [num_plain.l0]
    rw [if_pos (by omega), if_pos (by omega), if_pos (by omega), hb, hc, List.all_cons]
    by_cases h1 : c.toNat < 48
    · rw [if_pos (by omega)]; simp [dig]; omega
    · rw [if_neg (by omega)]
      by_cases h2 : c.toNat > 57
      · rw [if_pos (by omega)]; simp [dig]; omega
      · rw [if_neg (by omega), wrap_succ (n := s.size) (by omega) hs, ih k (i + 1) (by omega) (by omega)]
        have : dig c = true := by simp [dig]; omega
        rw [this, Bool.true_and]
theorem nil_iff (s : ByteArray) : s.toList = [] ↔ s.size = 0 := by
  rw [Lib.toList_data, ← size_list, List.length_eq_zero_iff]
theorem plain_is (s : ByteArray) (hs : s.size ≤ 140737488351232) (k : Nat) (hk : s.size + 3 < k) : num_plain.f k s = some (plainB s.data.toList) := by
  unfold num_plain.f
  by_cases h0 : s.size = 0
  · rw [if_pos ((nil_iff s).2 h0)]
    obtain ⟨k, rfl⟩ : ∃ m, k = m + 1 := ⟨k - 1, by omega⟩
    simp only [num_plain.j0, if_true]
    rw [List.eq_nil_of_length_eq_zero (l := s.data.toList) (by rw [size_list]; exact h0)]
    rfl
  · rw [if_neg (by rw [nil_iff]; exact h0), if_pos (by omega)]
    obtain ⟨c, hc, hb⟩ := drop_cons s 0 (by omega)
    rw [List.drop_zero] at hc
    have hl := plain_loop s hs s.size (k - 1) 0 (by omega) (by omega)
    rw [List.drop_zero] at hl
    have hlen : (s.data.toList.drop (0 + 1)).length = s.size - 1 := by rw [List.length_drop, size_list]
    have hb0 : bt s 0 = (c.toNat : Int) := hb
    obtain ⟨k, rfl⟩ : ∃ m, k = m + 1 := ⟨k - 1, by omega⟩
    rw [Nat.add_sub_cancel] at hl
    have hl' : num_plain.l0 k s (s.size : Int) 0 = some (s.data.toList.all dig) := hl
    have hp : plainB s.data.toList = (!(decide (c.toNat = 48) && decide (1 < s.size)) && s.data.toList.all dig) := by
      rw [hc, plainB, hlen]
      congr 3
      rw [decide_eq_decide]; omega
    rw [hp, hb0]
    by_cases h1 : c.toNat = 48
    · rw [if_pos (by omega)]
      simp only [num_plain.j0]
      by_cases h2 : 1 < s.size
      · rw [if_pos (decide_eq_true (by omega))]; simp [h1, h2]
      · rw [if_neg (by simp; omega), hl']; simp [h1, h2]
    · rw [if_neg (by omega)]
      simp only [num_plain.j0, Bool.false_eq_true, if_false]
      rw [hl']; simp [h1]

theorem val_cons (n : Int) (c : UInt8) (r : List UInt8) : val n (c :: r) = val (n * 10 + ((c.toNat : Int) - 48)) r := rfl
theorem val_ge (l : List UInt8) : ∀ (n : Int), 0 ≤ n → l.all dig = true → n ≤ val n l := by
  induction l with
  | nil => intro n hn _; exact Int.le_refl _
  | cons c r ih =>
    intro n hn h
    rw [List.all_cons, Bool.and_eq_true] at h
    have := dig_le h.1
    rw [val_cons]
    exact Int.le_trans (by omega) (ih _ (by omega) h.2)

theorem read_loop (s : ByteArray) (hs : s.size ≤ 140737488351232) (neg : Bool) (d : Nat) : ∀ (k i : Nat) (n : Int), i + d = s.size → d < k → (s.data.toList.drop i).all dig = true → 0 ≤ n → n ≤ 9007199254740992 →
    num_Read.l0 k s neg n (s.size : Int) (i : Int) = some (if val n (s.data.toList.drop i) > 9007199254740992 then (0, 25) else (if neg then -(val n (s.data.toList.drop i)) else val n (s.data.toList.drop i), 0)) := by
  induction d with
  | zero =>
    intro k i n hi hk _ h0 h1
    obtain ⟨k, rfl⟩ : ∃ m, k = m + 1 := ⟨k - 1, by omega⟩
    simp only [num_Read.l0]
    rw [if_neg (by omega), List.drop_eq_nil_of_le (by rw [size_list]; omega)]
    have : val n [] = n := rfl
    rw [this, if_neg (show ¬ n > 9007199254740992 by omega)]
    cases neg
    · simp
    · rw [if_pos rfl, if_pos rfl, wrap_in (by omega)]
  | succ d ih =>
    intro k i n hi hk ha h0 h1
    obtain ⟨k, rfl⟩ : ∃ m, k = m + 1 := ⟨k - 1, by omega⟩
    obtain ⟨c, hc, hb⟩ := drop_cons s i (by omega)
    rw [hc, List.all_cons, Bool.and_eq_true] at ha
    have hd := dig_le ha.1
    simp only [num_Read.l0]
    rw [if_pos (by omega), if_pos (by omega), if_pos (by omega), hb, hc, val_cons]
    have e : wrap64 (wrap64 (n * 10) + ((c.toNat : Int) - 48) % 256) = n * 10 + ((c.toNat : Int) - 48) := by
      rw [wrap_in (x := n * 10) (by omega), show ((c.toNat : Int) - 48) % 256 = (c.toNat : Int) - 48 by omega, wrap_in (by omega)]
    rw [e]
    by_cases h2 : n * 10 + ((c.toNat : Int) - 48) > 9007199254740992
    · rw [if_pos h2, if_pos (by have := val_ge _ (n * 10 + ((c.toNat : Int) - 48)) (by omega) ha.2; omega)]
    · rw [if_neg h2, wrap_succ (n := s.size) (by omega) hs, ih k (i + 1) _ (by omega) (by omega) ha.2 (by omega) (by omega)]

theorem beq_list (s : ByteArray) : (s.toList == ([48] : List UInt8)) = (s.data.toList == [48]) := by rw [Lib.toList_data]
theorem plain_all {l : List UInt8} (h : plainB l = true) : l.all dig = true := by
  cases l with
  | nil => simp [plainB] at h
  | cons c r => rw [plainB, Bool.and_eq_true] at h; exact h.2
theorem read_j1 (s : ByteArray) (hs : s.size ≤ 140737488351232) (neg : Bool) (k : Nat) (hk : s.size + 6 < k) : num_Read.j1 k s neg = some (readD neg s.data.toList) := by
  obtain ⟨k, rfl⟩ : ∃ m, k = m + 1 := ⟨k - 1, by omega⟩
  simp only [num_Read.j1]
  rw [plain_is s hs k (by omega)]
  simp only [Option.bind_some]
  obtain ⟨k, rfl⟩ : ∃ m, k = m + 1 := ⟨k - 1, by omega⟩
  unfold readD
  by_cases hp : plainB s.data.toList = true
  · rw [if_pos hp, hp, Bool.not_true, Bool.false_or]
    have hl := read_loop s hs neg s.size k 0 0 (by omega) (by omega) (by rw [List.drop_zero]; exact plain_all hp) (by omega) (by omega)
    rw [List.drop_zero] at hl
    have hl' : num_Read.l0 k s neg 0 (s.size : Int) 0 = _ := hl
    cases neg
    · simp only [Bool.false_eq_true, if_false, num_Read.j2, Bool.false_and]
      rw [hl']; simp
    · simp only [if_true, Bool.true_and, num_Read.j2, beq_list]
      by_cases h4 : (s.data.toList == [48]) = true
      · rw [if_pos h4, if_pos h4]
      · rw [if_neg h4, if_neg h4, hl']; simp
  · rw [if_neg hp]
    simp only [num_Read.j2, if_true]
    rw [Bool.not_eq_true] at hp
    simp [hp]
theorem read_is (s : ByteArray) (hs : s.size ≤ 140737488351232) (k : Nat) (hk : s.size + 8 < k) : num_Read.f k s = some (readV s.data.toList) := by
  unfold num_Read.f readV
  obtain ⟨k, rfl⟩ : ∃ m, k = m + 1 := ⟨k - 1, by omega⟩
  by_cases h0 : s.size = 0
  · rw [if_pos ((nil_iff s).2 h0)]
    simp only [num_Read.j0, Bool.false_eq_true, if_false]
    rw [read_j1 s hs false k (by omega), List.eq_nil_of_length_eq_zero (l := s.data.toList) (by rw [size_list]; exact h0)]
    rfl
  · rw [if_neg (by rw [nil_iff]; exact h0), if_pos (by omega)]
    obtain ⟨c, hc, hb⟩ := drop_cons s 0 (by omega)
    rw [List.drop_zero] at hc
    have hb0 : bt s 0 = (c.toNat : Int) := hb
    simp only [num_Read.j0]
    rw [hb0]
    have hx : (s.extract 1 s.size).data.toList = s.data.toList.tail := by
      rw [Lib.extract_data, List.take_of_length_le (by rw [List.length_drop, size_list]; omega), List.drop_one]
    have hxs : (s.extract 1 s.size).size = s.size - 1 := by rw [← size_list, hx, List.length_tail, size_list]
    by_cases h1 : c = 45
    · subst h1
      rw [if_pos (by decide), if_pos (by omega), read_j1 _ (by omega) true k (by omega), hx, if_pos (by rw [hc]; rfl)]
    · have h2 : ¬ c.toNat = 45 := fun h => h1 (UInt8.toNat_inj.1 (by rw [h]; rfl))
      rw [if_neg (by rw [beq_iff_eq]; omega), read_j1 s hs false k (by omega), if_neg (by rw [hc]; simpa using h1)]

/-! ### The document's reader -/
theorem pow_mono {a b : Nat} (h : a ≤ b) : (10 : Int) ^ a ≤ 10 ^ b := by
  have := Nat.pow_le_pow_right (n := 10) (by decide) h
  exact_mod_cast this
theorem val_app (l m : List UInt8) (n : Int) : val n (l ++ m) = val (val n l) m := by unfold val; rw [List.foldl_append]
theorem val_lt (l : List UInt8) : ∀ (n : Int), 0 ≤ n → l.all dig = true → val n l < (n + 1) * 10 ^ l.length := by
  induction l with
  | nil => intro n hn _; show n < (n + 1) * 1; omega
  | cons c r ih =>
    intro n hn h
    rw [List.all_cons, Bool.and_eq_true] at h
    have hd := dig_le h.1
    rw [val_cons, List.length_cons, Int.pow_succ]
    have := ih (n * 10 + ((c.toNat : Int) - 48)) (by omega) h.2
    refine Int.lt_of_lt_of_le this ?_
    have hp : (0 : Int) ≤ 10 ^ r.length := Int.le_of_lt (Int.pow_pos (by decide))
    have : (n * 10 + ((c.toNat : Int) - 48) + 1) ≤ (n + 1) * 10 := by omega
    calc (n * 10 + ((c.toNat : Int) - 48) + 1) * 10 ^ r.length ≤ ((n + 1) * 10) * 10 ^ r.length := Int.mul_le_mul_of_nonneg_right this hp
      _ = (n + 1) * (10 ^ r.length * 10) := by rw [Int.mul_assoc, Int.mul_comm 10]
theorem val_low (l : List UInt8) : ∀ (n : Int), 0 ≤ n → l.all dig = true → n * 10 ^ l.length ≤ val n l := by
  induction l with
  | nil => intro n hn _; show n * 1 ≤ n; omega
  | cons c r ih =>
    intro n hn h
    rw [List.all_cons, Bool.and_eq_true] at h
    have hd := dig_le h.1
    rw [val_cons, List.length_cons, Int.pow_succ]
    have := ih (n * 10 + ((c.toNat : Int) - 48)) (by omega) h.2
    refine Int.le_trans ?_ this
    have hp : (0 : Int) ≤ 10 ^ r.length := Int.le_of_lt (Int.pow_pos (by decide))
    calc n * (10 ^ r.length * 10) = (n * 10) * 10 ^ r.length := by rw [Int.mul_assoc, Int.mul_comm 10]
      _ ≤ (n * 10 + ((c.toNat : Int) - 48)) * 10 ^ r.length := Int.mul_le_mul_of_nonneg_right (by omega) hp

theorem ref_l1 (s : ByteArray) (hs : s.size ≤ 140737488351232) (x4 : Int) (d : Nat) : ∀ (k i : Nat) (n : Int), i + d = s.size → d < k → (s.data.toList.drop i).all dig = true → 0 ≤ n → (n + 1) * 10 ^ d ≤ 10 ^ 16 →
    treillageref01_Read.l1 k s x4 n (i : Int) = some (if val n (s.data.toList.drop i) > 9007199254740992 then (0, 25) else (if x4 = 1 then -(val n (s.data.toList.drop i)) else val n (s.data.toList.drop i), 0)) := by
  induction d with
  | zero =>
    intro k i n hi hk _ h0 h1
    obtain ⟨k, rfl⟩ : ∃ m, k = m + 1 := ⟨k - 1, by omega⟩
    simp only [treillageref01_Read.l1]
    rw [if_neg (by omega), List.drop_eq_nil_of_le (by rw [size_list]; omega)]
    have e : val n [] = n := rfl
    rw [e]
    by_cases h2 : n > 9007199254740992
    · rw [if_pos h2, if_pos h2]
    · rw [if_neg h2, if_neg h2]
      by_cases h3 : x4 = 1
      · rw [if_pos h3, if_pos h3, wrap_in (by omega)]
      · rw [if_neg h3, if_neg h3]
  | succ d ih =>
    intro k i n hi hk ha h0 h1
    obtain ⟨k, rfl⟩ : ∃ m, k = m + 1 := ⟨k - 1, by omega⟩
    obtain ⟨c, hc, hb⟩ := drop_cons s i (by omega)
    rw [hc, List.all_cons, Bool.and_eq_true] at ha
    have hd := dig_le ha.1
    have hp : (1 : Int) ≤ 10 ^ d := Int.pow_pos (by decide)
    rw [Int.pow_succ] at h1
    have hn : (n + 1) * 10 ≤ 10 ^ 16 := by
      refine Int.le_trans ?_ h1
      calc (n + 1) * 10 = (n + 1) * (1 * 10) := by omega
        _ ≤ (n + 1) * (10 ^ d * 10) := Int.mul_le_mul_of_nonneg_left (Int.mul_le_mul_of_nonneg_right hp (by decide)) (by omega)
    have hn' : (n + 1) * 10 ≤ 10000000000000000 := hn
    simp only [treillageref01_Read.l1]
    rw [if_pos (by omega), if_pos (by omega), hb, hc, val_cons]
    have e : wrap64 (wrap64 (wrap64 (10 * n) + wrap64 (c.toNat : Int)) - 48) = n * 10 + ((c.toNat : Int) - 48) := by
      rw [wrap_in (x := 10 * n) (by omega), wrap_in (x := (c.toNat : Int)) (by omega), wrap_in (x := 10 * n + (c.toNat : Int)) (by omega), wrap_in (by omega)]
      omega
    rw [e, wrap_succ (n := s.size) (by omega) hs]
    refine ih k (i + 1) _ (by omega) (by omega) ha.2 (by omega) ?_
    refine Int.le_trans ?_ h1
    rw [Int.mul_comm (10 ^ d) 10, ← Int.mul_assoc]
    exact Int.mul_le_mul_of_nonneg_right (by omega) (by omega)

theorem ref_l0 (s : ByteArray) (hs : s.size ≤ 140737488351232) (f : Nat) (hf : f ≤ 1) (d : Nat) : ∀ (k i : Nat), i + d = s.size → d + s.size + 3 < k →
    (s.data.toList.drop f).take (i - f) = (s.data.toList.drop f).take (i - f) → ((s.data.toList.drop f).take (i - f)).all dig = true → f ≤ i →
    treillageref01_Read.l0 k s (f : Int) (i : Int) = some (if (s.data.toList.drop i).all dig = true then (if s.size - f > 16 then (0, 25) else if val 0 (s.data.toList.drop f) > 9007199254740992 then (0, 25) else (if f = 1 then -(val 0 (s.data.toList.drop f)) else val 0 (s.data.toList.drop f), 0)) else (0, 2)) := by
  induction d with
  | zero =>
    intro k i hi hk _ ha hfi
    obtain ⟨k, rfl⟩ : ∃ m, k = m + 1 := ⟨k - 1, by omega⟩
    simp only [treillageref01_Read.l0]
    rw [if_neg (by omega), List.drop_eq_nil_of_le (i := i) (by rw [size_list]; omega), List.all_nil, if_pos rfl]
    rw [List.take_of_length_le (by rw [List.length_drop, size_list]; omega)] at ha
    rw [wrap_in (by omega)]
    by_cases h1 : s.size - f > 16
    · rw [if_pos (by omega), if_pos h1]
    · rw [if_neg (by omega), if_neg h1]
      rw [ref_l1 s hs (f : Int) (s.size - f) k f 0 (by omega) (by omega) ha (by omega) (by
        have h2 : s.size - f ≤ 16 := by omega
        have : (10 : Int) ^ (s.size - f) ≤ 10 ^ 16 := pow_mono h2
        rw [Int.zero_add, Int.one_mul]; exact this)]
      have : ((f : Int) = 1) = (f = 1) := by rw [eq_iff_iff]; omega
      simp only [this]
  | succ d ih =>
    intro k i hi hk _ ha hfi
    obtain ⟨k, rfl⟩ : ∃ m, k = m + 1 := ⟨k - 1, by omega⟩
    obtain ⟨c, hc, hb⟩ := drop_cons s i (by omega)
    simp only [treillageref01_Read.l0]
    rw [if_pos (by omega), if_pos (by omega), hb]
    by_cases h1 : c.toNat < 48
    · rw [if_pos (by omega), if_neg (by rw [hc, List.all_cons]; simp [dig]; omega)]
    · rw [if_neg (by omega)]
      by_cases h2 : c.toNat > 57
      · rw [if_pos (by omega), if_neg (by rw [hc, List.all_cons]; simp [dig]; omega)]
      · have hdc : dig c = true := by simp [dig]; omega
        rw [if_neg (by omega), wrap_succ (n := s.size) (by omega) hs, ih k (i + 1) (by omega) (by omega) rfl ?_ (by omega), hc, List.all_cons, hdc, Bool.true_and]
        have e : i + 1 - f = (i - f) + 1 := by omega
        have e2 : s.data.toList.drop i = (s.data.toList.drop f).drop (i - f) := by rw [List.drop_drop]; congr 1; omega
        rw [e, List.take_add_one, List.all_append, ha, Bool.true_and]
        rw [e2] at hc
        have : (s.data.toList.drop f)[i - f]? = some c := by
          have h := List.getElem?_drop (xs := s.data.toList.drop f) (i := i - f) (j := 0)
          rw [hc] at h
          simpa using h.symm
        rw [this]
        simp [hdc]

/-- A plain text of more than 16 digits is too great. -/
theorem plain_big {l : List UInt8} (h : plainB l = true) (hl : 16 < l.length) : val 0 l > 9007199254740992 := by
  cases l with
  | nil => simp at hl
  | cons c r =>
    rw [plainB, Bool.and_eq_true, List.all_cons, Bool.and_eq_true] at h
    have hd := dig_le h.2.1
    rw [List.length_cons] at hl
    have h48 : c.toNat ≠ 48 := by
      intro e
      have h' := h.1
      rw [decide_eq_true e, decide_eq_true (by omega : 0 < r.length)] at h'
      exact absurd h' (by decide)
    rw [val_cons]
    have h1 := val_low r (0 * 10 + ((c.toNat : Int) - 48)) (by omega) h.2.2
    have h2 : (10 : Int) ^ 16 ≤ 10 ^ r.length := pow_mono (by omega)
    have h3 : (10 : Int) ^ r.length ≤ (0 * 10 + ((c.toNat : Int) - 48)) * 10 ^ r.length := by
      have hp : (0 : Int) ≤ 10 ^ r.length := Int.le_of_lt (Int.pow_pos (by decide))
      calc (10 : Int) ^ r.length = 1 * 10 ^ r.length := by omega
        _ ≤ _ := Int.mul_le_mul_of_nonneg_right (by omega) hp
    have h4 : (10 : Int) ^ 16 = 10000000000000000 := by decide
    omega

/-- The document's reader from the digits on. -/
theorem ref_j1 (s : ByteArray) (hs : s.size ≤ 140737488351232) (f : Nat) (hf : f ≤ 1) (hfs : f ≤ s.size) (k : Nat) (hk : s.size + s.size + 8 < k) : treillageref01_Read.j1 k s (f : Int) = some (readD (f == 1) (s.data.toList.drop f)) := by
  obtain ⟨k, rfl⟩ : ∃ m, k = m + 1 := ⟨k - 1, by omega⟩
  have hlen : (s.data.toList.drop f).length = s.size - f := by rw [List.length_drop, size_list]
  have hj : ∀ b : Bool, b = false → treillageref01_Read.j2 k s (f : Int) b = some (if (s.data.toList.drop f).all dig = true then (if s.size - f > 16 then (0, 25) else if val 0 (s.data.toList.drop f) > 9007199254740992 then (0, 25) else (if f = 1 then -(val 0 (s.data.toList.drop f)) else val 0 (s.data.toList.drop f), 0)) else (0, 2)) := by
    intro b hb
    subst hb
    obtain ⟨k, rfl⟩ : ∃ m, k = m + 1 := ⟨k - 1, by omega⟩
    simp only [treillageref01_Read.j2, Bool.false_eq_true, if_false]
    exact ref_l0 s hs f hf (s.size - f) k f (by omega) (by omega) rfl (by simp) (Nat.le_refl _)
  have ht : ∀ b : Bool, b = true → treillageref01_Read.j2 k s (f : Int) b = some (0, 2) := by
    intro b hb
    subst hb
    obtain ⟨k, rfl⟩ : ∃ m, k = m + 1 := ⟨k - 1, by omega⟩
    simp only [treillageref01_Read.j2, if_true]
  simp only [treillageref01_Read.j1]
  unfold readD
  by_cases h0 : s.size = f
  · rw [if_pos (by omega), ht _ rfl, List.eq_nil_of_length_eq_zero (l := s.data.toList.drop f) (by omega)]
    simp [plainB]
  · rw [if_neg (by omega), if_pos (by omega), if_pos (by omega)]
    obtain ⟨c, hc, hb⟩ := drop_cons s f (by omega)
    have hr : (s.data.toList.drop (f + 1)).length = s.size - f - 1 := by rw [List.length_drop, size_list]; omega
    rw [hb, wrap_succ (n := s.size) (by omega) hs]
    have hp : plainB (s.data.toList.drop f) = (!(decide (c.toNat = 48) && decide (1 < s.size - f)) && (s.data.toList.drop f).all dig) := by
      rw [hc, plainB, hr]
      congr 3
      rw [decide_eq_decide]; omega
    have hone : (s.data.toList.drop f == [48]) = (decide (c.toNat = 48) && decide (s.size - f = 1)) := by
      rw [hc]
      have e1 : (c == 48) = decide (c.toNat = 48) := by rw [Bool.eq_iff_iff, beq_iff_eq, decide_eq_true_iff, ← UInt8.toNat_inj]; rfl
      have e2 : (s.data.toList.drop (f + 1) == ([] : List UInt8)) = decide (s.size - f = 1) := by
        rw [Bool.eq_iff_iff, beq_iff_eq, decide_eq_true_iff, ← List.length_eq_zero_iff, hr]; omega
      rw [← e1, ← e2]; rfl
    have hmain : c.toNat = 48 → ¬ (s.size > f + 1) → f = 0 → some (if (s.data.toList.drop f).all dig = true then (if s.size - f > 16 then ((0 : Int), (25 : Int)) else if val 0 (s.data.toList.drop f) > 9007199254740992 then (0, 25) else (if f = 1 then -(val 0 (s.data.toList.drop f)) else val 0 (s.data.toList.drop f), 0)) else (0, 2)) = some (if (!plainB (s.data.toList.drop f) || (f == 1) && (s.data.toList.drop f == [48])) = true then (0, 2) else if val 0 (s.data.toList.drop f) > 9007199254740992 then (0, 25) else (if (f == 1) = true then -(val 0 (s.data.toList.drop f)) else val 0 (s.data.toList.drop f), 0)) := by
      intro h1 h2 h3
      subst h3
      rw [hp, decide_eq_true h1, decide_eq_false (by omega : ¬ 1 < s.size - 0)]
      by_cases ha : (s.data.toList.drop 0).all dig = true
      · rw [if_pos ha, ha, if_neg (by omega)]; rfl
      · rw [if_neg ha]; rw [Bool.not_eq_true] at ha; rw [ha]; rfl
    by_cases h1 : c.toNat = 48
    · rw [if_pos (by omega)]
      by_cases h2 : s.size > f + 1
      · rw [if_pos (by omega), ht _ rfl, hp, decide_eq_true h1, decide_eq_true (by omega : 1 < s.size - f)]
        simp
      · rw [if_neg (by omega)]
        rcases (by omega : f = 0 ∨ f = 1) with rfl | rfl
        · rw [hj _ (by decide)]; exact hmain h1 h2 rfl
        · rw [ht _ (by decide), hone, decide_eq_true h1, decide_eq_true (by omega : s.size - 1 = 1)]
          simp
    · rw [if_neg (by omega), hj _ rfl, hp, hone, decide_eq_false h1]
      by_cases ha : (s.data.toList.drop f).all dig = true
      · have hpl : plainB (s.data.toList.drop f) = true := by rw [hp, ha, decide_eq_false h1]; rfl
        rw [if_pos ha, ha]
        by_cases h6 : s.size - f > 16
        · have := plain_big hpl (by omega)
          rw [if_pos h6]
          simp [this]
        · rw [if_neg h6]
          simp
      · rw [if_neg ha]; rw [Bool.not_eq_true] at ha; rw [ha]; simp
theorem ref_is (s : ByteArray) (hs : s.size ≤ 140737488351232) (k : Nat) (hk : s.size + s.size + 10 < k) : treillageref01_Read.f k s = some (readV s.data.toList) := by
  obtain ⟨k, rfl⟩ : ∃ m, k = m + 1 := ⟨k - 1, by omega⟩
  unfold treillageref01_Read.f readV
  by_cases h0 : s.size = 0
  · rw [if_neg (by omega)]
    have := ref_j1 s hs 0 (by omega) (by omega) k (by omega)
    simp only [treillageref01_Read.j0, Bool.false_eq_true, if_false]
    rw [List.eq_nil_of_length_eq_zero (l := s.data.toList) (by rw [size_list]; exact h0)] at this ⊢
    exact this
  · rw [if_pos (by omega), if_pos (by omega)]
    obtain ⟨c, hc, hb⟩ := drop_cons s 0 (by omega)
    rw [List.drop_zero] at hc
    have hb0 : bt s 0 = (c.toNat : Int) := hb
    simp only [treillageref01_Read.j0]
    rw [hb0]
    by_cases h1 : c = 45
    · subst h1
      rw [if_pos (by decide), if_pos (by rw [hc]; rfl)]
      have := ref_j1 s hs 1 (by omega) (by omega) k (by omega)
      rw [List.drop_one] at this
      exact this
    · have h2 : ¬ c.toNat = 45 := fun h => h1 (UInt8.toNat_inj.1 (by rw [h]; rfl))
      rw [if_neg (by rw [beq_iff_eq]; omega), if_neg (by rw [hc]; simpa using h1)]
      exact ref_j1 s hs 0 (by omega) (by omega) k (by omega)

/-! ### What the calls come to -/
theorem read_any (s : ByteArray) (w : World) (hs : s.size ≤ 140737488351232) :
    Calls Try.prog 16 #[.string s] w fun e w' => e = .returned (.tuple #[.int .i64 (readV s.data.toList).1, .int .i64 (readV s.data.toList).2]) ∧ Drawn0 w w' :=
  num_Read.calls _ s _ _ w (read_is s hs (s.size + 9) (by omega))
theorem refRead_any (s : ByteArray) (w : World) (hs : s.size ≤ 140737488351232) :
    Calls Try.prog 17 #[.string s] w fun e w' => e = .returned (.tuple #[.int .i64 (readV s.data.toList).1, .int .i64 (readV s.data.toList).2]) ∧ Drawn0 w w' :=
  treillageref01_Read.calls _ s _ _ w (ref_is s hs (s.size + s.size + 11) (by omega))
end Go.Proofs.Yteonbgknmpobpaa.Num
