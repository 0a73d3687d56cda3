/- The program's words and names: what Word and Right tell. -/
import Derived.Test.YteonbgknmpobpaaDoorPNameSplitsx0
import Derived.OpenShut
import Derived.Lib.Hide
import Derived.Lib.Strings
import Derived.WalkLawsBesides
import Derived.Laws.RangeAny
namespace Go.Proofs.YteonbgknmpobpaaDoor.NW
open Go.RowKit Go.Proofs.YteonbgknmpobpaaDoorW.PrintWords Go.Proofs.YteonbgknmpobpaaDoorW.PrintLast Go.Proofs.YteonbgknmpobpaaDoorW.PrintMore
set_option linter.unusedVariables false

abbrev B := ByteArray
def word (k : Nat) : B := match k with
  | 0 => ⟨#[97, 110, 121]⟩
  | 1 => ⟨#[98, 111, 111, 108]⟩
  | 2 => ⟨#[99, 111, 109, 112, 117, 116, 101, 100]⟩
  | 3 => ⟨#[102, 97, 108, 115, 101]⟩
  | 4 => ⟨#[105, 110, 116]⟩
  | 5 => ⟨#[110, 111, 110, 101]⟩
  | 6 => ⟨#[114, 101, 115, 111, 117, 114, 99, 101]⟩
  | 7 => ⟨#[115, 116, 114, 105, 110, 103]⟩
  | _ => ⟨#[116, 114, 117, 101]⟩
def wordsA : Array Value := #[.string (word 0), .string (word 1), .string (word 2), .string (word 3), .string (word 4), .string (word 5), .string (word 6), .string (word 7), .string (word 8)]
/-- The table of words lies in its variable. -/
def WordsAt (w : World) : Prop := ∃ t fr, w.heap[1]? = some (.cells wordsA t fr)
theorem WordsAt.below {w w' : World} (h : WordsAt w) (hb : Below w.heap.size w w') : WordsAt w' := by
  obtain ⟨t, fr, h⟩ := h
  exact ⟨t, fr, (hb.block 1 (Array.getElem?_eq_some_iff.1 h).1).trans h⟩
theorem WordsAt.drewN {w : World} (h : WordsAt w) (n : Nat) : WordsAt (w.drewN n) := h
/-- A word's number, off the first k words. -/
def wordV (l : List UInt8) : Int :=
  if l = [97, 110, 121] then 1 else if l = [98, 111, 111, 108] then 2 else if l = [99, 111, 109, 112, 117, 116, 101, 100] then 3 else if l = [102, 97, 108, 115, 101] then 4 else if l = [105, 110, 116] then 5 else if l = [110, 111, 110, 101] then 6 else if l = [114, 101, 115, 111, 117, 114, 99, 101] then 7 else if l = [115, 116, 114, 105, 110, 103] then 8 else if l = [116, 114, 117, 101] then 9 else 0
theorem ix (k : Nat) (hk : k < 9) (w : World) : (Instr.index 64 (.agg wordsA) (.int .i64 (k : Int))).run Tryd.prog w = .ok (.string (word k)) w := by
  rcases (by omega : k = 0 ∨ k = 1 ∨ k = 2 ∨ k = 3 ∨ k = 4 ∨ k = 5 ∨ k = 6 ∨ k = 7 ∨ k = 8) with rfl | rfl | rfl | rfl | rfl | rfl | rfl | rfl | rfl <;> kernel_rfl
theorem wordV_of (s : B) (k : Nat) (hk : k < 9) (h : (word k).toList = s.toList) (hb : ∀ j, j < k → (word j).toList ≠ s.toList) : wordV s.toList = (k : Int) + 1 := by
  rw [← h]
  rcases (by omega : k = 0 ∨ k = 1 ∨ k = 2 ∨ k = 3 ∨ k = 4 ∨ k = 5 ∨ k = 6 ∨ k = 7 ∨ k = 8) with rfl | rfl | rfl | rfl | rfl | rfl | rfl | rfl | rfl <;> decide +kernel
theorem wordV_no (s : B) (hb : ∀ j, j < 9 → (word j).toList ≠ s.toList) : wordV s.toList = 0 := by
  have h0 := hb 0 (by omega)
  have h1 := hb 1 (by omega)
  have h2 := hb 2 (by omega)
  have h3 := hb 3 (by omega)
  have h4 := hb 4 (by omega)
  have h5 := hb 5 (by omega)
  have h6 := hb 6 (by omega)
  have h7 := hb 7 (by omega)
  have h8 := hb 8 (by omega)
  rw [Lib.toList_data] at h0 h1 h2 h3 h4 h5 h6 h7 h8
  unfold wordV
  rw [if_neg fun e => h0 e.symm, if_neg fun e => h1 e.symm, if_neg fun e => h2 e.symm, if_neg fun e => h3 e.symm, if_neg fun e => h4 e.symm, if_neg fun e => h5 e.symm, if_neg fun e => h6 e.symm, if_neg fun e => h7 e.symm, if_neg fun e => h8 e.symm]
theorem ret_i {a b : Int} (h : a = b) : Ending.returned (.int .i64 a) = .returned (.int .i64 b) := by rw [h]
set_option maxHeartbeats 1000000 in
set_option maxRecDepth 100000 in
theorem word_any (s : B) (w : World) (hW : WordsAt w) :
    Calls Tryd.prog 19 #[.string s] w fun e w' => e = .returned (.int .i64 (wordV s.toList)) ∧ w = w' := by
  obtain ⟨t, fr, hg⟩ := hW
  have hsz : (Tryd.prog.info? 64).map (·.size) = some wordsA.size := by kernel_rfl
  have HG := Lib.hid hg
  clear hg
  go_enter Tryd.func19, Tryd.ntmps19
  go_wp2_with (refine wpList_load_row rfl 64 _ rfl 1 rfl t wordsA fr _ HG.out Tryd.underlying64 rfl hsz ?_)
  go_loop [6] (fun i => ∃ k : Nat, k ≤ 9 ∧ i = .int .i64 k ∧ Aside0 (∀ j, j < k → (word j).toList ≠ s.toList)) (fun i => 9 - (intOf i).toNat)
  case atStart => exact ⟨0, by omega, rfl, ⟨fun j hj => by omega⟩⟩
  case round =>
    obtain ⟨k, hk, rfl, HB⟩ := hrel
    by_cases hlt : k < 9
    · have hi := ix k hlt
      by_cases he : (word k).toList = s.toList
      · have HV := Lib.hid (wordV_of s k hlt he HB.out)
        have he1 : ((word k).toList == s.toList) = true := beq_iff_eq.mpr he
        have HE := Lib.hid he
        clear he
        generalize word k = x at hi he1
        go_wp2
        go_ret
        exact ⟨ret_i HV.out.symm, rfl⟩
      · have he1 : ((word k).toList == s.toList) = false := beq_eq_false_iff_ne.mpr he
        have HN : Aside0 (∀ j, j < k + 1 → (word j).toList ≠ s.toList) := ⟨fun j hj => by
          by_cases e : j = k
          · subst e; exact he
          · exact HB.out j (by omega)⟩
        clear he
        generalize word k = x at hi he1
        go_wp2
        go_round
        case rel => exact ⟨k + 1, by omega, by go_num, HN⟩
        case measure => simp [intOf]; omega
    · obtain rfl : k = 9 := by omega
      have HV := Lib.hid (wordV_no s HB.out)
      go_wp2
      go_ret
      exact ⟨ret_i HV.out.symm, rfl⟩

/-! ### Names -/
def smallB (n : Nat) : Bool := decide (97 ≤ n) && decide (n ≤ 122)
def chB (first : Bool) (n : Nat) : Bool := smallB n || (!first && (n == 95 || (decide (48 ≤ n) && decide (n ≤ 57))))
def tailB (l : List UInt8) : Bool := l.all fun c => chB false c.toNat
def bodyB : List UInt8 → Bool
  | [] => true
  | c :: r => chB true c.toNat && tailB r
/-- Which texts are names. -/
def rightV (l : List UInt8) : Bool := decide (1 ≤ l.length) && decide (l.length ≤ 16) && (wordV l == 0) && bodyB l
set_option maxHeartbeats 400000 in
theorem small_yes (n : Nat) (w : World) (h : 97 ≤ n ∧ n ≤ 122) : Calls Tryd.prog 46 #[.int .i32 (n : Int)] w fun e w' => e = .returned (.bool true) ∧ w = w' := by
  have h1 := h.1
  have h2 := h.2
  clear h
  go_enter Tryd.func46, Tryd.ntmps46
  go_wp2
  go_ret
  exact ⟨by simp; omega, rfl⟩
set_option maxHeartbeats 400000 in
theorem small_no (n : Nat) (w : World) (h : ¬ (97 ≤ n ∧ n ≤ 122)) : Calls Tryd.prog 46 #[.int .i32 (n : Int)] w fun e w' => e = .returned (.bool false) ∧ w = w' := by
  by_cases h1 : 97 ≤ n
  · have h2 : ¬ n ≤ 122 := by omega
    clear h
    go_enter Tryd.func46, Tryd.ntmps46
    go_wp2
    go_ret
    exact ⟨by simp; omega, rfl⟩
  · clear h
    go_enter Tryd.func46, Tryd.ntmps46
    go_wp2
    go_ret
    exact ⟨rfl, rfl⟩
end Go.Proofs.YteonbgknmpobpaaDoor.NW
