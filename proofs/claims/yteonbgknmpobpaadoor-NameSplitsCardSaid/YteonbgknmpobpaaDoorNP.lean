/- Paths and rising names: the program's and the document's. -/
import Derived.Test.YteonbgknmpobpaaDoorNR
namespace Go.Proofs.YteonbgknmpobpaaDoor.NP
open Go.RowKit Go.Proofs.YteonbgknmpobpaaDoorW.PrintWords Go.Proofs.YteonbgknmpobpaaDoorW.PrintLast Go.Proofs.YteonbgknmpobpaaDoorW.PrintMore
open Go.Proofs.YteonbgknmpobpaaDoor.NX Go.Proofs.YteonbgknmpobpaaDoor.NW Go.Proofs.YteonbgknmpobpaaDoor.NR
set_option linter.unusedVariables false

/-! ### The document's names -/
theorem wrap_succ {i n : Nat} (h : i < n) (hn : n ≤ 140737488355328) : wrap64 ((i : Int) + 1) = ((i + 1 : Nat) : Int) := by unfold wrap64; omega
theorem bt_get (s : B) (i : Nat) (h : i < s.data.toList.length) : bt s (i : Int) = ((s.data.toList[i]'h).toNat : Int) := by
  have h' : i < s.size := by rw [← sizeL]; exact h
  have := bt_at s (i : Int) (by simpa using h')
  rw [← this]
  simp only [Int.toNat_natCast]
  rfl
theorem drop_cons (s : B) (i : Nat) (h : i < s.size) : ∃ c, s.data.toList.drop i = c :: s.data.toList.drop (i + 1) ∧ bt s (i : Int) = (c.toNat : Int) := by
  have h' : i < s.data.toList.length := by rw [sizeL]; exact h
  exact ⟨s.data.toList[i], List.drop_eq_getElem_cons h', bt_get s i h'⟩
theorem refRight_loop (s : B) (hs : s.size ≤ 140737488351232) (d : Nat) : ∀ (k i : Nat), i + d = s.size → d < k →
    treillageref02_Right.l0 k s (i : Int) = some (tailB (s.data.toList.drop i)) := by
  induction d with
  | zero =>
    intro k i hi hk
    obtain ⟨k, rfl⟩ : ∃ m, k = m + 1 := ⟨k - 1, by omega⟩
    simp only [treillageref02_Right.l0]
    rw [if_neg (by omega), List.drop_eq_nil_of_le (by rw [sizeL]; omega)]
    rfl
  | succ d ih =>
    intro k i hi hk
    obtain ⟨k, rfl⟩ : ∃ m, k = m + 1 := ⟨k - 1, by omega⟩
    obtain ⟨c, hc, hb⟩ := drop_cons s i (by omega)
    have hn := ih k (i + 1) (by omega) (by omega)
    simp only [treillageref02_Right.l0]
    rw [if_pos (by omega), if_pos (by omega), hb, hc, wrap_succ (n := s.size) (by omega) (by omega), hn]
    have ht : tailB (c :: s.data.toList.drop (i + 1)) = (chB false c.toNat && tailB (s.data.toList.drop (i + 1))) := rfl
    rw [ht]
    have hyes : chB false c.toNat = true → some (tailB (s.data.toList.drop (i + 1))) = some (chB false c.toNat && tailB (s.data.toList.drop (i + 1))) := by intro h; rw [h, Bool.true_and]
    have hno : chB false c.toNat = false → some false = some (chB false c.toNat && tailB (s.data.toList.drop (i + 1))) := by intro h; rw [h, Bool.false_and]
    have hch : chB false c.toNat = (decide (97 ≤ c.toNat) && decide (c.toNat ≤ 122) || (decide (c.toNat = 95) || (decide (48 ≤ c.toNat) && decide (c.toNat ≤ 57)))) := by
      unfold chB smallB
      rw [show (c.toNat == 95) = decide (c.toNat = 95) from by rw [Bool.eq_iff_iff]; simp]
      simp
    repeat' split
    all_goals first
      | (refine hyes ?_; rw [hch]; simp; omega)
      | (refine hno ?_; rw [hch]; simp; omega)
theorem nil_iff (s : B) : s.toList = [] ↔ s.size = 0 := by
  rw [Lib.toList_data, ← sizeL, List.length_eq_zero_iff]
theorem wordV_ge (l : List UInt8) : 0 ≤ wordV l ∧ wordV l ≤ 9 := by
  unfold wordV
  repeat' split
  all_goals omega
theorem refRight_is (s : B) (hs : s.size ≤ 140737488351232) (k : Nat) (hk : s.size + 2 < k) : treillageref02_Right.f k s = some (rightV s.data.toList) := by
  obtain ⟨k, rfl⟩ : ∃ m, k = m + 1 := ⟨k - 1, by omega⟩
  have ht : treillageref02_Right.j0 (k + 1) s true = some false := by simp only [treillageref02_Right.j0, if_true]
  unfold treillageref02_Right.f
  by_cases h0 : s.size = 0
  · rw [if_pos (by omega), ht, right_no1 s h0]
  · rw [if_neg (by omega)]
    by_cases h16 : 16 < s.size
    · rw [if_pos (by omega), ht, right_no2 s h16]
    · rw [if_neg (by omega), refWord_is]
      simp only [Option.bind_some]
      have hw := wordV_ge s.toList
      by_cases h3 : wordV s.toList = 0
      · rw [if_neg (by omega), if_pos (by omega)]
        obtain ⟨c, hc, hb⟩ := drop_cons s 0 (by omega)
        rw [List.drop_zero] at hc
        have hb0 : bt s 0 = (c.toNat : Int) := hb
        have hl := refRight_loop s hs (s.size - 1) k 1 (by omega) (by omega)
        have hl' : treillageref02_Right.l0 k s 1 = some (tailB (s.data.toList.drop 1)) := hl
        have hR : rightV s.data.toList = (smallB c.toNat && tailB (s.data.toList.drop 1)) := by
          unfold rightV
          rw [Lib.toList_data] at h3
          rw [sizeL, h3, decide_eq_true (by omega : 1 ≤ s.size), decide_eq_true (by omega : s.size ≤ 16), hc]
          simp [bodyB, chB]
        rw [hb0, hR]
        by_cases h97 : c.toNat < 97
        · rw [if_pos (by omega), ht]; unfold smallB; rw [decide_eq_false (by omega : ¬ 97 ≤ c.toNat)]; rfl
        · rw [if_neg (by omega)]
          simp only [treillageref02_Right.j0]
          by_cases h122 : c.toNat > 122
          · rw [if_pos (by simp; omega)]; unfold smallB; rw [decide_eq_false (by omega : ¬ c.toNat ≤ 122), Bool.and_false]; rfl
          · rw [if_neg (by simp; omega), hl']; unfold smallB; rw [decide_eq_true (by omega : 97 ≤ c.toNat), decide_eq_true (by omega : c.toNat ≤ 122)]; rfl
      · rw [if_pos (by omega), ht, right_no3 s h3]
theorem refRight_any (s : B) (w : World) (hs : s.size ≤ 140737488351232) : Calls Tryd.prog 22 #[.string s] w fun e w' => e = .returned (.bool (rightV s.data.toList)) ∧ Drawn0 w w' :=
  treillageref02_Right.calls _ s _ w (refRight_is s hs (s.size + 3) (by omega))
theorem refWord_any (s : B) (w : World) : Calls Tryd.prog 20 #[.string s] w fun e w' => e = .returned (.int .i64 (wordV s.toList)) ∧ Drawn0 w w' :=
  treillageref02_Word.calls s _ w (refWord_is s)

/-! ### Lists -/
abbrev E : B := ByteArray.empty
def upTo (f : Nat → Bool) (k : Nat) : Bool := (List.range k).all f
theorem upTo_succ (f : Nat → Bool) (k : Nat) : upTo f (k + 1) = (upTo f k && f k) := by unfold upTo; rw [List.range_succ, List.all_append]; simp
theorem upTo_false {f : Nat → Bool} {j n : Nat} (hj : j < n) (h : f j = false) : upTo f n = false := by
  unfold upTo
  rw [Bool.eq_false_iff]
  intro e
  have := List.all_eq_true.1 e j (List.mem_range.2 hj)
  rw [h] at this; cases this
def nth (l : List B) (i : Nat) : B := l.getD i E
def pathF (l : List B) (i : Nat) : Bool := rightV (nth l i).data.toList
def pathV (l : List B) : Bool := decide (1 ≤ l.length) && decide (l.length ≤ 16) && upTo (pathF l) l.length
def lessB (a b : B) : Bool := Op.bytesLess a.toList b.toList
def riseF (l : List B) (i : Nat) : Bool := rightV (nth l i).data.toList && (decide (i = 0) || lessB (nth l (i - 1)) (nth l i))
def risingV (l : List B) : Bool := upTo (riseF l) l.length
theorem less_tri (a b : List UInt8) : (Op.bytesLess b a || b == a) = !Op.bytesLess a b := by
  induction a generalizing b with
  | nil => cases b <;> simp [Op.bytesLess]
  | cons x r ih =>
    cases b with
    | nil => simp [Op.bytesLess]
    | cons y q =>
      have e1 : decide (y < x) = decide (y.toNat < x.toNat) := decide_eq_decide.2 UInt8.lt_iff_toNat_lt
      have e2 : decide (x < y) = decide (x.toNat < y.toNat) := decide_eq_decide.2 UInt8.lt_iff_toNat_lt
      have e3 : (y == x) = decide (y.toNat = x.toNat) := by rw [Bool.eq_iff_iff, beq_iff_eq, decide_eq_true_iff, UInt8.toNat_inj]
      have e4 : (x == y) = decide (x.toNat = y.toNat) := by rw [Bool.eq_iff_iff, beq_iff_eq, decide_eq_true_iff, UInt8.toNat_inj]
      have e5 : ((y :: q) == (x :: r)) = ((y == x) && (q == r)) := rfl
      have := ih q
      rw [e5]
      simp only [Op.bytesLess]
      rw [e1, e2, e3, e4]
      rcases (by omega : x.toNat < y.toNat ∨ x.toNat = y.toNat ∨ y.toNat < x.toNat) with h | h | h
      · rw [decide_eq_true h, decide_eq_false (by omega : ¬ y.toNat < x.toNat), decide_eq_false (by omega : ¬ y.toNat = x.toNat)]; rfl
      · rw [decide_eq_false (by omega : ¬ x.toNat < y.toNat), decide_eq_false (by omega : ¬ y.toNat < x.toNat), decide_eq_true h, decide_eq_true h.symm]
        simpa using this
      · rw [decide_eq_false (by omega : ¬ x.toNat < y.toNat), decide_eq_true h, decide_eq_false (by omega : ¬ x.toNat = y.toNat)]; rfl

abbrev Reads (w : World) (A : Option Addr) (n : Nat) (l : List B) : Prop := ReadsOf Value.string E w A n l
theorem rd_nth (l : List B) (k : Nat) : rdOf E l (k : Int) = nth l k := by unfold rdOf nth; rw [Int.toNat_natCast]
theorem reads_at {w : World} {A : Option Addr} {l : List B} (h : Reads w A l.length l) (k : Nat) (hk : k < l.length) : ∃ ad, A = some ad ∧ w.cell? (ad.add k) = some (.string (nth l k)) := by
  obtain ⟨ad, e, hc⟩ := h.at_ (k : Int) (by omega) (by omega)
  rw [rd_nth, Int.toNat_natCast] at hc
  exact ⟨ad, e, hc⟩
theorem below_on {w W w1 : World} (h : Below w.heap.size w W) (k : Below W.heap.size W w1) : Below w.heap.size w w1 := below_then h h.size k
theorem below_dr {w W w1 : World} {n : Nat} (h : Below w.heap.size w W) (k : Below (W.drewN n).heap.size (W.drewN n) w1) : Below w.heap.size w w1 := below_then (pw_below_drewN h n) h.size k
theorem pathV_big (l : List B) (h : 16 < l.length) : pathV l = false := by unfold pathV; rw [decide_eq_false (by omega : ¬ l.length ≤ 16), Bool.and_false]; rfl
theorem pathV_nil (l : List B) (h : l.length = 0) : pathV l = false := by unfold pathV; rw [decide_eq_false (by omega : ¬ 1 ≤ l.length)]; rfl
theorem pathV_no (l : List B) (k : Nat) (hk : k < l.length) (h : rightV (nth l k).data.toList = false) : pathV l = false := by unfold pathV; rw [upTo_false (f := pathF l) hk h, Bool.and_false]
theorem pathV_yes (l : List B) (h1 : 1 ≤ l.length) (h2 : l.length ≤ 16) (h : upTo (pathF l) l.length = true) : pathV l = true := by unfold pathV; rw [h, decide_eq_true h1, decide_eq_true h2]; rfl
set_option maxHeartbeats 1000000 in
theorem path_any (A : Option Addr) (c : Nat) (l : List B) (w : World) (hW : WordsAt w) (hr : Reads w A l.length l) :
    Calls Tryd.prog 23 #[.slice A l.length c] w fun e w' => e = .returned (.bool (pathV l)) ∧ Below w.heap.size w w' := by
  have HR := Lib.hid hr
  have HW := Lib.hid hW
  clear hr hW
  by_cases h0 : l.length = 0
  · have HV := Lib.hid (pathV_nil l h0)
    have h01 : ((l.length : Int) == 0) = true := by rw [beq_iff_eq]; omega
    have H0 := Lib.hid h0
    clear h0
    go_enter Tryd.func23, Tryd.ntmps23
    go_wp2_with fail
    go_ret
    exact ⟨ret_b HV.out.symm, Below.refl _ _⟩
  · have h01 : ((l.length : Int) == 0) = false := by rw [beq_eq_false_iff_ne]; omega
    by_cases h16 : 16 < l.length
    · have HV := Lib.hid (pathV_big l h16)
      clear h0
      go_enter Tryd.func23, Tryd.ntmps23
      go_wp2_with fail
      go_ret
      exact ⟨ret_b HV.out.symm, Below.refl _ _⟩
    · have h161 : decide (16 < (l.length : Int)) = false := decide_eq_false (by omega)
      have hl16 : l.length ≤ 16 := by omega
      have H0 := Lib.hid h0
      clear h0 h16
      go_enter Tryd.func23, Tryd.ntmps23
      go_wp2_with fail
      go_loopw [15] (fun i wr => ∃ k : Nat, k ≤ l.length ∧ i = .int .i64 k ∧ Aside0 (upTo (pathF l) k = true) ∧ Aside0 (Below w.heap.size w wr)) (fun i _ => l.length - (intOf i).toNat)
      case atStart => exact ⟨0, Nat.zero_le _, rfl, ⟨rfl⟩, ⟨Below.refl _ _⟩⟩
      case round =>
        obtain ⟨k, hk, rfl, HU, HB⟩ := hrel
        by_cases hlt : k < l.length
        · obtain ⟨ad, rfl, hcell⟩ := reads_at (HR.out.below HB.out) k hlt
          have C1 := Lib.hid fun wx (h : Below w.heap.size w wx) => right_any (nth l k) wx (HW.out.below h)
          have HS := Lib.hid (upTo_succ (pathF l) k)
          have HF := Lib.hid (show pathF l k = rightV (nth l k).data.toList from rfl)
          have HNo := Lib.hid (pathV_no l k hlt)
          generalize hrv : rightV (nth l k).data.toList = r at C1 HF HNo
          clear hrv
          generalize nth l k = x at hcell C1
          cases r
          · have HV := Lib.hid (HNo.out rfl)
            clear HNo
            go_wp2_with fail
            refine (C1.out _ HB.out).mono ?_
            rintro e w1 ⟨rfl, hB⟩
            have HB1 := Lib.hid (below_on HB.out hB)
            clear hB
            go_wp2_with fail
            go_ret
            exact ⟨ret_b HV.out.symm, HB1.out⟩
          · have HU1 : Aside0 (upTo (pathF l) (k + 1) = true) := ⟨by rw [HS.out, HU.out, HF.out]; rfl⟩
            clear HNo
            go_wp2_with fail
            refine (C1.out _ HB.out).mono ?_
            rintro e w1 ⟨rfl, hB⟩
            have HB1 := Aside0.mk (below_on HB.out hB)
            clear hB
            go_wp2_with fail
            go_roundw
            case rel => exact ⟨k + 1, by omega, by go_num, HU1, HB1⟩
            case measure => simp [intOf]; omega
        · have HV := Lib.hid (pathV_yes l (by have := H0.out; omega) hl16 (by have e : k = l.length := by omega
                                                                              rw [← e]; exact HU.out))
          go_wp2_with fail
          go_ret
          exact ⟨ret_b HV.out.symm, HB.out⟩
end Go.Proofs.YteonbgknmpobpaaDoor.NP
