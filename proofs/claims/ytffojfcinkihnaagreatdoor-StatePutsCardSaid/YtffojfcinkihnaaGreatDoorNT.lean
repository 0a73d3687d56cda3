/- A number's text: what num.Text tells. -/
import Derived.Test.YtffojfcinkihnaaGreatDoorNam
import Derived.Test.YtffojfcinkihnaaGreatDoorMA
import Derived.Lib.ItoaLen
import Derived.Lib.ConvBytes
import Derived.Laws.BytesArg
import Derived.Laws.Slices
import Derived.Laws.Rows
import Derived.Deep.LoopGhost
import Derived.BigQuiet
set_option linter.unusedVariables false
set_option linter.unusedSimpArgs false
set_option linter.unusedSectionVars false
set_option linter.deprecated false
set_option linter.unnecessarySimpa false
set_option maxRecDepth 100000
namespace Go.Proofs.YtffojfcinkihnaaGreatDoor.NT
open Go.RowKit Go.Proofs.YtffojfcinkihnaaGreatDoor.Abs Go.Proofs.YtffojfcinkihnaaGreatDoor.Nam
set_option linter.unusedVariables false
theorem add_plain (g j : Nat) : (⟨g, 0, none⟩ : Addr).add j = ⟨g, j, none⟩ := by unfold Addr.add; split <;> simp_all
theorem blk_set {w : World} {g : Nat} {t : TypeId} {cs : Array Value} (h : w.heap[g]? = some (.cells cs t (0, 0))) (i : Nat) (u : Value) : (w.setCell ⟨g, i, none⟩ u).heap[g]? = some (.cells (cs.setIfInBounds i u) t (0, 0)) := heap_setCell_same w g i cs t u h
theorem blk_cell {w : World} {g : Nat} {t : TypeId} {cs : Array Value} (h : w.heap[g]? = some (.cells cs t (0, 0))) (i : Nat) : w.cell? ⟨g, i, none⟩ = cs[i]? := cell_of h i
theorem blk_frozen {w : World} {g : Nat} {t : TypeId} {cs : Array Value} (h : w.heap[g]? = some (.cells cs t (0, 0))) (i : Nat) : w.frozen? ⟨g, i, none⟩ = false := by simp [World.frozen?, h]
/-- The digits' array behind k rounds. -/
def arr (u : Nat) (k : Nat) : List Int := (List.range 20).map fun j => if 20 ≤ j + k then ((48 + u / 10 ^ (19 - j) % 10 : Nat) : Int) else 0

def left (n : Int) : Int := if n < 0 then IntKind.u64.wrap (-(IntKind.u64.wrap n)) else IntKind.u64.wrap n
theorem arr_at (u k j : Nat) (hj : j < 20) : (arr u k)[j]? = some (if 20 ≤ j + k then ((48 + u / 10 ^ (19 - j) % 10 : Nat) : Int) else 0) := by
  unfold arr
  rw [List.getElem?_map, List.getElem?_range hj]; rfl
theorem arr_len (u k : Nat) : (arr u k).length = 20 := by simp [arr]
theorem arr_set (u k a : Nat) (ha : a + 1 + k = 20) : (arr u k).set a ((48 + u / 10 ^ k % 10 : Nat) : Int) = arr u (k + 1) := by
  apply List.ext_getElem?
  intro j
  by_cases hj : j < 20
  · rw [List.getElem?_set, arr_at u (k + 1) j hj]
    by_cases e : a = j
    · subst e
      rw [if_pos rfl, if_pos (by rw [arr_len]; exact hj), if_pos (by omega)]
      rw [show 19 - a = k from by omega]
    · rw [if_neg e, arr_at u k j hj]
      by_cases h1 : 20 ≤ j + k
      · rw [if_pos h1, if_pos (by omega)]
      · rw [if_neg h1, if_neg (by omega)]
  · rw [List.getElem?_eq_none (by rw [List.length_set, arr_len]; omega), List.getElem?_eq_none (by rw [arr_len]; omega)]
def vals (l : List Int) : List Value := l.map fun x => .int .u8 x

theorem slice55 (B a : Nat) (ha : a < 20) (W : World) :
    (Instr.sliceAt 178 (.pointer (some ⟨B, 0, none⟩)) (some (.int .i64 (a : Int))) none none).run Tryz.prog W = .ok (.slice (some ⟨B, a, none⟩) (20 - a) (20 - a)) W := by
  have hp : Tryz.prog.arrayLen 178 = 20 := by kernel_rfl
  have he : ∀ W : World, (sizeOf (Tryz.prog.elem 178)).run Tryz.prog W = .ok 1 W := fun W => by kernel_rfl
  rw [run_sliceAt_array_l (P := Tryz.prog) (w := W) 178 ⟨B, 0, none⟩ (by kernel_rfl) .i64 (a : Int) (by omega) (by rw [hp]; omega), he, hp]
  simp only [Result.andThen, slicedAt, Int.toNat_natCast]
  rw [if_neg (by omega), Nat.mul_one, add_plain]
theorem arr_drop (u K a : Nat) (h : a + K = 20) : (arr u K).drop a = (List.range K).map fun t => ((48 + u / 10 ^ (K - 1 - t) % 10 : Nat) : Int) := by
  apply List.ext_getElem?
  intro t
  rw [List.getElem?_drop]
  by_cases ht : t < K
  · rw [arr_at u K (a + t) (by omega), if_pos (by omega), List.getElem?_map, List.getElem?_range ht]
    rw [show 19 - (a + t) = K - 1 - t from by omega]; rfl
  · rw [List.getElem?_eq_none (by rw [arr_len]; omega), List.getElem?_eq_none (by simp; omega)]
theorem str_of (u K a : Nat) (h : a + K = 20) : (strOfNums ((arr u K).drop a)) = ⟨((List.range K).map fun t => Lib.dg u (K - 1 - t)).toArray⟩ := by
  rw [arr_drop u K a h]
  unfold strOfNums
  rw [List.map_map]
  congr 2
theorem conv55 (u K a B : Nat) (h : a + K = 20) (W : World) (hb : W.heap[B]? = some (.cells (vals (arr u K)).toArray 178 (0, 0))) :
    (convert 84 9 (.slice (some ⟨B, a, none⟩) (20 - a) (20 - a))).run Tryz.prog W = .ok (.string ⟨((List.range K).map fun t => Lib.dg u (K - 1 - t)).toArray⟩) W := by
  rw [← str_of u K a h]
  refine run_convert_bytes_arg W 84 5 Tryz.underlying84 Tryz.underlying5 B a _ _ ((arr u K).drop a) (by rw [List.length_drop, arr_len]) (fun i hi => ?_) 9 Tryz.underlying9
  have hat := arr_at u K (a + i) (by omega)
  rw [blk_cell hb, List.getElem?_toArray, vals, List.getElem?_map, hat, List.getD_eq_getElem?_getD, List.getElem?_drop, hat]
  rfl

/-- How many digits a number has, off the rounds. -/
theorem nd_of (u k : Nat) (h1 : ∀ j, 1 ≤ j → j ≤ k → u / 10 ^ j ≠ 0) (h2 : u / 10 ^ (k + 1) = 0) : Lib.nDigits u = k + 1 := by
  have hlt : u < 10 ^ (k + 1) := by
    rcases Nat.lt_or_ge u (10 ^ (k + 1)) with h | h
    · exact h
    · exact absurd h2 (Nat.ne_of_gt (Nat.div_pos h (Nat.pow_pos (by omega))))
  rcases Nat.eq_zero_or_pos k with rfl | hk
  · exact Lib.nDigits_small (by simpa using hlt)
  · refine Lib.nDigits_unique k u ?_ hlt
    rcases Nat.lt_or_ge u (10 ^ k) with h | h
    · exact absurd (Nat.div_eq_of_lt h) (h1 k hk (Nat.le_refl _))
    · exact h
theorem dec_of (u k : Nat) (h1 : ∀ j, 1 ≤ j → j ≤ k → u / 10 ^ j ≠ 0) (h2 : u / 10 ^ (k + 1) = 0) : (List.range (k + 1)).map (fun t => Lib.dg u (k + 1 - 1 - t)) = Lib.decDigits u := by
  rw [Lib.decDigits_eq, nd_of u k h1 h2]
theorem div_step (u k q : Nat) (h : q = u / 10 ^ k) : q / 10 = u / 10 ^ (k + 1) := by
  rw [h, Nat.div_div_eq_div_mul, Nat.pow_succ]
theorem left_neg (n : Int) (u : Nat) (h0 : n < 0) (hn : -9223372036854775808 ≤ n) (h : left n = (u : Int)) : n.natAbs = u := by
  unfold left at h
  rw [if_pos h0] at h
  simp [IntKind.wrap, IntKind.bits, IntKind.signed] at h
  omega
theorem left_pos (n : Int) (u : Nat) (h0 : ¬ n < 0) (hn : n ≤ 9223372036854775807) (h : left n = (u : Int)) : n.toNat = u := by
  unfold left at h
  rw [if_neg h0] at h
  simp [IntKind.wrap, IntKind.bits, IntKind.signed] at h
  omega
theorem left_ex (n : Int) (hn : -9223372036854775808 ≤ n ∧ n ≤ 9223372036854775807) : ∃ u : Nat, left n = (u : Int) ∧ u < 18446744073709551616 := by
  refine ⟨(left n).toNat, ?_, ?_⟩ <;> unfold left <;> split <;> simp [IntKind.wrap, IntKind.bits, IntKind.signed] <;> omega
theorem itoa_neg (n : Int) (h0 : n < 0) : Lib.itoa n = 45 :: Lib.decDigits n.natAbs := by unfold Lib.itoa; rw [if_pos h0]
theorem itoa_pos (n : Int) (h0 : ¬ n < 0) : Lib.itoa n = Lib.decDigits n.toNat := by unfold Lib.itoa; rw [if_neg h0]
theorem cat (a b : List UInt8) : (⟨a.toArray⟩ : ByteArray) ++ ⟨b.toArray⟩ = ⟨(a ++ b).toArray⟩ := by
  apply ByteArray.ext
  rw [ByteArray.data_append]
  simp
theorem ret_str {a b : ByteArray} (h : a = b) : Ending.returned (.string a) = .returned (.string b) := by rw [h]

/-- What a round does to the digits' block. -/
theorem set_row (wr : World) (B u k a q : Nat) (h : a + 1 + k = 20) (hq : q = u / 10 ^ k) (hb : wr.heap[B]? = some (.cells (vals (arr u k)).toArray 178 (0, 0))) :
    (wr.setCell ⟨B, a, none⟩ (.int .u8 (48 + (q : Int) % 10))).heap[B]? = some (.cells (vals (arr u (k + 1))).toArray 178 (0, 0)) := by
  rw [blk_set hb, List.setIfInBounds_toArray]
  congr 3
  rw [← arr_set u k a h]
  unfold vals
  rw [List.map_set, hq]
  rfl

def Loop (u : Nat) (w : World) (l at_ i : Value) (wr : World) : Prop :=
  ∃ k a q : Nat, a + k = 20 ∧ l = .int .u64 q ∧ at_ = .int .i64 a ∧ i = .int .i64 k ∧ Aside0 (q = u / 10 ^ k) ∧ q < 18446744073709551616 ∧ Aside0 (∀ j, 1 ≤ j → j ≤ k → u / 10 ^ j ≠ 0) ∧ Aside0 (wr.heap[w.heap.size]? = some (.cells (vals (arr u k)).toArray 178 (0, 0))) ∧ Aside0 (Below w.heap.size w wr)
theorem loop_start (u : Nat) (w : World) (hu : u < 18446744073709551616) (cs : Array Value) (hc : cs = (vals (arr u 0)).toArray) : Loop u w (.int .u64 (u : Int)) (.int .i64 20) (.int .i64 0) (w.alloc (.cells cs 178 (0, 0))) := by
  subst hc
  exact ⟨0, 20, u, rfl, rfl, rfl, rfl, ⟨by simp⟩, hu, ⟨fun j h1 h2 => by omega⟩, ⟨heap_alloc_new _ _⟩, ⟨below_alloc (Below.refl _ _) _⟩⟩
theorem arr0 (u : Nat) : (vals (arr u 0)).toArray = #[.int .u8 0, .int .u8 0, .int .u8 0, .int .u8 0, .int .u8 0, .int .u8 0, .int .u8 0, .int .u8 0, .int .u8 0, .int .u8 0, .int .u8 0, .int .u8 0, .int .u8 0, .int .u8 0, .int .u8 0, .int .u8 0, .int .u8 0, .int .u8 0, .int .u8 0, .int .u8 0] := by
  rfl
theorem loop_next (u k a q : Nat) (w wr : World) (hak : a + 1 + k = 20) (HQ : q = u / 10 ^ k) (hq : q < 18446744073709551616) (hz : ¬ q / 10 = 0) (HJ : ∀ j, 1 ≤ j → j ≤ k → u / 10 ^ j ≠ 0)
    (HB : wr.heap[w.heap.size]? = some (.cells (vals (arr u k)).toArray 178 (0, 0))) (HW : Below w.heap.size w wr) :
    Loop u w (.int .u64 ((q : Int) / 10)) (.int .i64 (a : Int)) (.int .i64 ((k : Int) + 1)) (wr.setCell ⟨w.heap.size, a, none⟩ (.int .u8 (48 + (q : Int) % 10))) := by
  refine ⟨k + 1, a, q / 10, by omega, rfl, rfl, rfl, ⟨div_step u k q HQ⟩, by omega, ⟨fun j h1 h2 => ?_⟩, ⟨set_row wr w.heap.size u k a q hak HQ HB⟩, ⟨HW.setCell (Nat.le_refl _) _⟩⟩
  by_cases e : j = k + 1
  · subst e; rw [← div_step u k q HQ]; exact hz
  · exact HJ j h1 (by omega)

set_option maxHeartbeats 400000 in
theorem text_neg (n : Int) (u : Nat) (w : World) (hn : -9223372036854775808 ≤ n ∧ n ≤ 9223372036854775807) (hu : left n = (u : Int)) (hu2 : u < 18446744073709551616) (h0 : n < 0) :
    Calls Tryz.prog 155 #[.int .i64 n] w fun e w' => e = .returned (.string ⟨(Lib.itoa n).toArray⟩) ∧ Below w.heap.size w w' := by
  have HN := Aside0.mk hu
  have HU2 := Aside0.mk hu2
  have HL : Hid (IntKind.u64.wrap (-(IntKind.u64.wrap n)) = (u : Int)) := by unfold left at hu; rw [if_pos h0] at hu; exact hu
  clear hu hu2
  go_enter Tryz.func155, Tryz.ntmps155
  go_wp2
  rw [HL.out]
  go_loopw [3, 5, 12] (fun l at_ i wr => Loop u w l at_ i wr) (fun _ _ i _ => 20 - (intOf i).toNat)
  case atStart => exact loop_start u w HU2.out _ (arr0 u).symm
  case round =>
    obtain ⟨k, a, q, hak, rfl, rfl, rfl, HQ, hq, HJ, HB, HW⟩ := hrel
    by_cases hk : k < 20
    · obtain ⟨a, rfl⟩ : ∃ a', a = a' + 1 := ⟨a - 1, by omega⟩
      have hcell : wr.cell? ⟨w.heap.size, a, none⟩ = some (.int .u8 (if 20 ≤ a + k then ((48 + u / 10 ^ (19 - a) % 10 : Nat) : Int) else 0)) := by
        rw [blk_cell HB.out, List.getElem?_toArray, vals, List.getElem?_map, arr_at u k a (by omega)]; rfl
      rw [if_neg (by omega)] at hcell
      have hfr : wr.frozen? ⟨w.heap.size, a, none⟩ = false := blk_frozen HB.out a
      by_cases hz : q / 10 = 0
      · have hz1 : ((q : Int) / 10 == 0) = true := by rw [beq_iff_eq]; omega
        have HS := Aside0.mk (set_row wr w.heap.size u k a q hak HQ.out HB.out)
        have hsl := slice55 w.heap.size a (by omega)
        have hcv := conv55 u (k + 1) a w.heap.size (by omega) (wr.setCell ⟨w.heap.size, a, none⟩ (.int .u8 (48 + (q : Int) % 10))) HS.out
        rw [dec_of u k HJ.out (by rw [← div_step u k q HQ.out]; exact hz)] at hcv
        have HBW := Aside0.mk (HW.out.setCell (p := ⟨w.heap.size, a, none⟩) (Nat.le_refl _) (.int .u8 (48 + (q : Int) % 10)))
        have hzz := Lib.hid hz
        have hlen : ¬ 9223372036854775807 < 1 + (Lib.decDigits u).length := by rw [Lib.decDigits_length]; have := Lib.nDigits_le20 u HU2.out; omega
        clear hz
        go_wp2
        go_ret
        exact ⟨ret_str (by rw [itoa_neg n h0, left_neg n u h0 hn.1 HN.out]; exact cat [45] _), HBW.out⟩
      · have hz1 : ((q : Int) / 10 == 0) = false := by rw [beq_eq_false_iff_ne]; omega
        have HX := Aside0.mk (loop_next u k a q w wr hak HQ.out hq hz HJ.out HB.out HW.out)
        have hzz := Lib.hid hz
        clear hz
        go_wp2
        go_roundw
        case rel => exact HX.out
        case measure => simp [intOf]; omega
    · exact absurd (HJ.out 20 (by omega) (by omega)) (by simp only [ne_eq, Decidable.not_not]; exact Nat.div_eq_of_lt (Nat.lt_trans HU2.out (by decide)))
set_option maxHeartbeats 400000 in
theorem text_pos (n : Int) (u : Nat) (w : World) (hn : -9223372036854775808 ≤ n ∧ n ≤ 9223372036854775807) (hu : left n = (u : Int)) (hu2 : u < 18446744073709551616) (h0 : ¬ n < 0) :
    Calls Tryz.prog 155 #[.int .i64 n] w fun e w' => e = .returned (.string ⟨(Lib.itoa n).toArray⟩) ∧ Below w.heap.size w w' := by
  have HN := Aside0.mk hu
  have HU2 := Aside0.mk hu2
  have h9 : decide ((u : Int) < 0) = false := decide_eq_false (by omega)
  have hn2 : u ≤ 9223372036854775807 := by have := left_pos n u h0 hn.2 hu; omega
  obtain rfl : (u : Int) = n := by have := left_pos n u h0 hn.2 hu; omega
  have H0 := Lib.hid h0
  clear hu hu2 h0
  go_enter Tryz.func155, Tryz.ntmps155
  go_wp2
  go_loopw [3, 5, 12] (fun l at_ i wr => Loop u w l at_ i wr) (fun _ _ i _ => 20 - (intOf i).toNat)
  case atStart => exact loop_start u w HU2.out _ (arr0 u).symm
  case round =>
    obtain ⟨k, a, q, hak, rfl, rfl, rfl, HQ, hq, HJ, HB, HW⟩ := hrel
    by_cases hk : k < 20
    · obtain ⟨a, rfl⟩ : ∃ a', a = a' + 1 := ⟨a - 1, by omega⟩
      have hcell : wr.cell? ⟨w.heap.size, a, none⟩ = some (.int .u8 (if 20 ≤ a + k then ((48 + u / 10 ^ (19 - a) % 10 : Nat) : Int) else 0)) := by
        rw [blk_cell HB.out, List.getElem?_toArray, vals, List.getElem?_map, arr_at u k a (by omega)]; rfl
      rw [if_neg (by omega)] at hcell
      have hfr : wr.frozen? ⟨w.heap.size, a, none⟩ = false := blk_frozen HB.out a
      by_cases hz : q / 10 = 0
      · have hz1 : ((q : Int) / 10 == 0) = true := by rw [beq_iff_eq]; omega
        have HS := Aside0.mk (set_row wr w.heap.size u k a q hak HQ.out HB.out)
        have hsl := slice55 w.heap.size a (by omega)
        have hcv := conv55 u (k + 1) a w.heap.size (by omega) (wr.setCell ⟨w.heap.size, a, none⟩ (.int .u8 (48 + (q : Int) % 10))) HS.out
        rw [dec_of u k HJ.out (by rw [← div_step u k q HQ.out]; exact hz)] at hcv
        have HBW := Aside0.mk (HW.out.setCell (p := ⟨w.heap.size, a, none⟩) (Nat.le_refl _) (.int .u8 (48 + (q : Int) % 10)))
        have hzz := Lib.hid hz
        clear hz
        go_wp2
        go_ret
        exact ⟨ret_str (by rw [itoa_pos _ (by omega)]; simp), HBW.out⟩
      · have hz1 : ((q : Int) / 10 == 0) = false := by rw [beq_eq_false_iff_ne]; omega
        have HX := Aside0.mk (loop_next u k a q w wr hak HQ.out hq hz HJ.out HB.out HW.out)
        have hzz := Lib.hid hz
        clear hz
        go_wp2
        go_roundw
        case rel => exact HX.out
        case measure => simp [intOf]; omega
    · exact absurd (HJ.out 20 (by omega) (by omega)) (by simp only [ne_eq, Decidable.not_not]; exact Nat.div_eq_of_lt (Nat.lt_trans HU2.out (by decide)))
theorem text_any (n : Int) (w : World) (hn : -9223372036854775808 ≤ n ∧ n ≤ 9223372036854775807) :
    Calls Tryz.prog 155 #[.int .i64 n] w fun e w' => e = .returned (.string ⟨(Lib.itoa n).toArray⟩) ∧ Below w.heap.size w w' := by
  obtain ⟨u, h1, h2⟩ := left_ex n hn
  by_cases h0 : n < 0
  · exact text_neg n u w hn h1 h2 h0
  · exact text_pos n u w hn h1 h2 h0
end Go.Proofs.YtffojfcinkihnaaGreatDoor.NT
