/- Words and names: what Word and Right of the program tell. -/
import Derived.Test.YtffojfcinkihnaaGreatDoorMA
import Derived.OpenShut
import Derived.Lib.Hide
import Derived.Lib.Strings
import Derived.WalkLawsBesides
import Derived.Laws.RangeAny
import Derived.Deep.MidRow
import Derived.WalkKit
import Derived.Test.YtffojfcinkihnaaGreatDoorProg
import Derived.KernelRfl
set_option linter.unusedVariables false
set_option linter.unusedSimpArgs false
set_option linter.unusedSectionVars false
set_option linter.deprecated false
set_option linter.unnecessarySimpa false
namespace Go.Proofs.YtffojfcinkihnaaGreatDoor.Nam
open Go.RowKit Go.Proofs.YtffojfcinkihnaaGreatDoor.Abs
set_option linter.unusedVariables false
structure Aside0 (p : Prop) : Prop where
  out : p
theorem below_alloc {w W : World} {n : Nat} (h : Below n w W) (o : Obj) (hn : n ≤ W.heap.size := by omega) : Below n w (W.alloc o) := h.alloc hn o
abbrev B := ByteArray
def word (k : Nat) : B := match k with
  | 0 => ⟨#[97, 110, 121]⟩
  | 1 => ⟨#[98, 111, 111, 108]⟩
  | 2 => ⟨#[99, 111, 109, 112, 117, 116, 101, 100]⟩
  | 3 => ⟨#[102, 97, 108, 115, 101]⟩
  | 4 => ⟨#[105, 110, 116]⟩
  | 5 => ⟨#[110, 111, 110, 101]⟩
  | 6 => ⟨#[114, 101, 115, 111, 117, 114, 99, 101]⟩
  | 7 => ⟨#[115, 116, 114, 105, 110, 103]⟩
  | _ => ⟨#[116, 114, 117, 101]⟩
def wordsA : Array Value := #[.string (word 0), .string (word 1), .string (word 2), .string (word 3), .string (word 4), .string (word 5), .string (word 6), .string (word 7), .string (word 8)]
/-- The table of words lies in its variable. -/
def WordsAt (w : World) : Prop := w.rangeAt 0 0 wordsA.toList
theorem WordsAt.below {w w' : World} (h : WordsAt w) (hb : Below w.heap.size w w') : WordsAt w' := fun j v hv => by
  have h1 := h j v hv
  rw [cell_heap (w := w) (hb.block 0 (cell_lt h1))]; exact h1
theorem WordsAt.drewN {w : World} (h : WordsAt w) (n : Nat) : WordsAt (w.drewN n) := h
/-- A word's number, off the first k words. -/
def wordV (l : List UInt8) : Int :=
  if l = [97, 110, 121] then 1 else if l = [98, 111, 111, 108] then 2 else if l = [99, 111, 109, 112, 117, 116, 101, 100] then 3 else if l = [102, 97, 108, 115, 101] then 4 else if l = [105, 110, 116] then 5 else if l = [110, 111, 110, 101] then 6 else if l = [114, 101, 115, 111, 117, 114, 99, 101] then 7 else if l = [115, 116, 114, 105, 110, 103] then 8 else if l = [116, 114, 117, 101] then 9 else 0
theorem ix (k : Nat) (hk : k < 9) (w : World) : (Instr.index 152 (.agg wordsA) (.int .i64 (k : Int))).run Tryz.prog w = .ok (.string (word k)) w := by
  rcases (by omega : k = 0 ∨ k = 1 ∨ k = 2 ∨ k = 3 ∨ k = 4 ∨ k = 5 ∨ k = 6 ∨ k = 7 ∨ k = 8) with rfl | rfl | rfl | rfl | rfl | rfl | rfl | rfl | rfl <;> kernel_rfl
theorem wordV_of (s : B) (k : Nat) (hk : k < 9) (h : (word k).toList = s.toList) (hb : ∀ j, j < k → (word j).toList ≠ s.toList) : wordV s.toList = (k : Int) + 1 := by
  rw [← h]
  rcases (by omega : k = 0 ∨ k = 1 ∨ k = 2 ∨ k = 3 ∨ k = 4 ∨ k = 5 ∨ k = 6 ∨ k = 7 ∨ k = 8) with rfl | rfl | rfl | rfl | rfl | rfl | rfl | rfl | rfl <;> decide +kernel
theorem wordV_no (s : B) (hb : ∀ j, j < 9 → (word j).toList ≠ s.toList) : wordV s.toList = 0 := by
  have h0 := hb 0 (by omega)
  have h1 := hb 1 (by omega)
  have h2 := hb 2 (by omega)
  have h3 := hb 3 (by omega)
  have h4 := hb 4 (by omega)
  have h5 := hb 5 (by omega)
  have h6 := hb 6 (by omega)
  have h7 := hb 7 (by omega)
  have h8 := hb 8 (by omega)
  rw [Lib.toList_data] at h0 h1 h2 h3 h4 h5 h6 h7 h8
  unfold wordV
  rw [if_neg fun e => h0 e.symm, if_neg fun e => h1 e.symm, if_neg fun e => h2 e.symm, if_neg fun e => h3 e.symm, if_neg fun e => h4 e.symm, if_neg fun e => h5 e.symm, if_neg fun e => h6 e.symm, if_neg fun e => h7 e.symm, if_neg fun e => h8 e.symm]
theorem ret_i {a b : Int} (h : a = b) : Ending.returned (.int .i64 a) = .returned (.int .i64 b) := by rw [h]
set_option maxHeartbeats 1000000 in
set_option maxRecDepth 100000 in
theorem word_any (s : B) (w : World) (hW : WordsAt w) :
    Calls Tryz.prog 94 #[.string s] w fun e w' => e = .returned (.int .i64 (wordV s.toList)) ∧ w = w' := by
  have hsz : (Tryz.prog.info? 152).map (·.size) = some wordsA.toList.length := by kernel_rfl
  have HG := Lib.hid hW
  clear hW
  go_enter Tryz.func94, Tryz.ntmps94
  go_wp2_with (refine wpList_load_mid rfl 152 _ rfl 0 0 rfl wordsA.toList _ HG.out Tryz.underlying152 rfl hsz ?_)
  go_loop [6] (fun i => ∃ k : Nat, k ≤ 9 ∧ i = .int .i64 k ∧ Aside0 (∀ j, j < k → (word j).toList ≠ s.toList)) (fun i => 9 - (intOf i).toNat)
  case atStart => exact ⟨0, by omega, rfl, ⟨fun j hj => by omega⟩⟩
  case round =>
    obtain ⟨k, hk, rfl, HB⟩ := hrel
    by_cases hlt : k < 9
    · have hi := ix k hlt
      by_cases he : (word k).toList = s.toList
      · have HV := Lib.hid (wordV_of s k hlt he HB.out)
        have he1 : ((word k).toList == s.toList) = true := beq_iff_eq.mpr he
        have HE := Lib.hid he
        clear he
        generalize word k = x at hi he1
        go_wp2
        go_ret
        exact ⟨ret_i HV.out.symm, rfl⟩
      · have he1 : ((word k).toList == s.toList) = false := beq_eq_false_iff_ne.mpr he
        have HN : Aside0 (∀ j, j < k + 1 → (word j).toList ≠ s.toList) := ⟨fun j hj => by
          by_cases e : j = k
          · subst e; exact he
          · exact HB.out j (by omega)⟩
        clear he
        generalize word k = x at hi he1
        go_wp2
        go_round
        case rel => exact ⟨k + 1, by omega, by go_num, HN⟩
        case measure => simp [intOf]; omega
    · obtain rfl : k = 9 := by omega
      have HV := Lib.hid (wordV_no s HB.out)
      go_wp2
      go_ret
      exact ⟨ret_i HV.out.symm, rfl⟩

/-! ### Names -/
def smallB (n : Nat) : Bool := decide (97 ≤ n) && decide (n ≤ 122)
def chB (first : Bool) (n : Nat) : Bool := smallB n || (!first && (n == 95 || (decide (48 ≤ n) && decide (n ≤ 57))))
def tailB (l : List UInt8) : Bool := l.all fun c => chB false c.toNat
def bodyB : List UInt8 → Bool
  | [] => true
  | c :: r => chB true c.toNat && tailB r
/-- Which texts are names. -/
def rightV (l : List UInt8) : Bool := decide (1 ≤ l.length) && decide (l.length ≤ 16) && (wordV l == 0) && bodyB l
set_option maxHeartbeats 400000 in
theorem small_yes (n : Nat) (w : World) (h : 97 ≤ n ∧ n ≤ 122) : Calls Tryz.prog 95 #[.int .i32 (n : Int)] w fun e w' => e = .returned (.bool true) ∧ w = w' := by
  have h1 := h.1
  have h2 := h.2
  clear h
  go_enter Tryz.func95, Tryz.ntmps95
  go_wp2
  go_ret
  exact ⟨by simp; omega, rfl⟩
set_option maxHeartbeats 400000 in
theorem small_no (n : Nat) (w : World) (h : ¬ (97 ≤ n ∧ n ≤ 122)) : Calls Tryz.prog 95 #[.int .i32 (n : Int)] w fun e w' => e = .returned (.bool false) ∧ w = w' := by
  by_cases h1 : 97 ≤ n
  · have h2 : ¬ n ≤ 122 := by omega
    clear h
    go_enter Tryz.func95, Tryz.ntmps95
    go_wp2
    go_ret
    exact ⟨by simp; omega, rfl⟩
  · clear h
    go_enter Tryz.func95, Tryz.ntmps95
    go_wp2
    go_ret
    exact ⟨rfl, rfl⟩
def okAt (l : List UInt8) (j : Nat) : Bool := match l[j]? with
  | some c => chB (decide (j = 0)) c.toNat
  | none => true
theorem tail_iff (l : List UInt8) : tailB l = true ↔ ∀ j, j < l.length → okAt (0 :: l) (j + 1) = true := by
  unfold tailB
  rw [List.all_eq_true]
  constructor
  · intro h j hj
    unfold okAt
    rw [List.getElem?_cons_succ, List.getElem?_eq_getElem hj]
    exact h _ (List.getElem_mem hj)
  · intro h c hc
    obtain ⟨j, hj, rfl⟩ := List.mem_iff_getElem.1 hc
    have := h j hj
    unfold okAt at this
    rw [List.getElem?_cons_succ, List.getElem?_eq_getElem hj] at this
    exact this
theorem body_iff (l : List UInt8) : bodyB l = true ↔ ∀ j, j < l.length → okAt l j = true := by
  cases l with
  | nil => simp [bodyB]
  | cons c r =>
    rw [bodyB, Bool.and_eq_true, tail_iff]
    constructor
    · rintro ⟨h1, h2⟩ j hj
      cases j with
      | zero => exact h1
      | succ j => have := h2 j (by rw [List.length_cons] at hj; omega); unfold okAt at this ⊢; rw [List.getElem?_cons_succ] at this ⊢; exact this
    · intro h
      refine ⟨h 0 (by simp), fun j hj => ?_⟩
      have := h (j + 1) (by rw [List.length_cons]; omega)
      unfold okAt at this ⊢
      rw [List.getElem?_cons_succ] at this ⊢
      exact this
theorem sizeL (s : B) : s.data.toList.length = s.size := by rw [Array.length_toList]; rfl
/-- The rune at a place tells of the byte there. -/
theorem rune_at (s : B) (pos : Nat) (h : pos < s.size) : okAt s.data.toList pos = chB (decide (pos = 0)) (Utf8.decode s pos).1 ∧ (okAt s.data.toList pos = true → (Utf8.decode s pos).2 = 1) ∧ 1 ≤ (Utf8.decode s pos).2 := by
  have hc : s.data.toList[pos]? = some (s[pos]'h) := by
    rw [Array.getElem?_toList, Array.getElem?_eq_getElem (h := h)]; rfl
  have ho : okAt s.data.toList pos = chB (decide (pos = 0)) (s[pos]'h).toNat := by unfold okAt; rw [hc]
  by_cases ha : (s[pos]'h).toNat < 128
  · rw [decode_ascii s pos h ha]
    exact ⟨ho, fun _ => rfl, Nat.le_refl _⟩
  · have hd := decode_high s pos h (by omega)
    have hf : ∀ (b : Bool) (n : Nat), 128 ≤ n → chB b n = false := by
      intro b n hn
      unfold chB smallB
      rw [decide_eq_false (by omega : ¬ n ≤ 122), decide_eq_false (by omega : ¬ n ≤ 57), beq_eq_false_iff_ne.2 (by omega : n ≠ 95)]
      simp
    rw [ho, hf _ _ hd.1, hf _ _ (by omega)]
    exact ⟨rfl, (fun e => by cases e), hd.2⟩
theorem right_no1 (s : B) (h : s.size = 0) : rightV s.data.toList = false := by
  unfold rightV
  rw [sizeL, decide_eq_false (by omega)]; rfl
theorem right_no2 (s : B) (h : 16 < s.size) : rightV s.data.toList = false := by
  unfold rightV
  rw [sizeL, decide_eq_false (by omega : ¬ s.size ≤ 16), Bool.and_false]; rfl
theorem right_no3 (s : B) (h : wordV s.toList ≠ 0) : rightV s.data.toList = false := by
  unfold rightV
  rw [Lib.toList_data] at h
  rw [beq_eq_false_iff_ne.2 h, Bool.and_false]; rfl
theorem right_no4 (s : B) (pos : Nat) (h : pos < s.size) (hf : okAt s.data.toList pos = false) : rightV s.data.toList = false := by
  unfold rightV
  have : bodyB s.data.toList = false := by
    rw [Bool.eq_false_iff]
    intro hb
    have := (body_iff _).1 hb pos (by rw [sizeL]; exact h)
    rw [hf] at this; cases this
  rw [this, Bool.and_false]
theorem right_yes (s : B) (h1 : 1 ≤ s.size) (h2 : s.size ≤ 16) (h3 : wordV s.toList = 0) (h4 : ∀ j, j < s.size → okAt s.data.toList j = true) : rightV s.data.toList = true := by
  unfold rightV
  rw [Lib.toList_data] at h3
  have hb : bodyB s.data.toList = true := (body_iff _).2 (fun j hj => h4 j (by rw [sizeL] at hj; exact hj))
  rw [sizeL, decide_eq_true h1, decide_eq_true h2, h3, hb]; rfl
theorem ret_b {a b : Bool} (h : a = b) : Ending.returned (.bool a) = .returned (.bool b) := by rw [h]
theorem iter_below (w : World) (s : B) (pos : Nat) : Below w.heap.size w (w.iter s pos) := below_alloc (Below.refl _ _) _
theorem size0 (s : B) (h : s.size = 0) : s.toList = [] := by rw [Lib.toList_data]; exact List.eq_nil_of_length_eq_zero (by rw [sizeL]; exact h)
theorem sizeN (s : B) (h : ¬ s.size = 0) : s.toList ≠ [] := by
  rw [Lib.toList_data]
  intro e
  exact h (by rw [← sizeL, e]; rfl)

set_option maxRecDepth 100000 in
set_option maxHeartbeats 2000000 in
theorem right_loop (s : B) (w : World) (hW : WordsAt w) (h1 : 1 ≤ s.size) (h2 : s.size ≤ 16) (h3 : wordV s.toList = 0) :
    Calls Tryz.prog 64 #[.string s] w fun e w' => e = .returned (.bool (rightV s.data.toList)) ∧ Below w.heap.size w w' := by
  have C1 := Lib.hid (word_any s w hW)
  have HY := Lib.hid (right_yes s h1 h2 h3)
  have H3 := Lib.hid h3
  have he : (s.toList == ([] : List UInt8)) = false := beq_eq_false_iff_ne.2 (sizeN s (by omega))
  have he2 : s.toList.isEmpty = false := by have := sizeN s (by omega); cases hh : s.toList with | nil => exact absurd hh this | cons a b => rfl
  clear h3
  go_enter Tryz.func64, Tryz.ntmps64
  go_wp2_with fail
  refine C1.out.mono ?_
  rintro e w1 ⟨rfl, rfl⟩
  rw [H3.out]
  go_wp2_with fail
  go_loopw [3] (fun v wr => ∃ pos : Nat, wr = w.iter s pos ∧ pos ≤ s.size ∧ Aside0 (∀ j, j < pos → okAt s.data.toList j = true)) (fun _ wr => s.size - wr.iterPos w.heap.size)
  case atStart => exact ⟨0, rfl, Nat.zero_le _, ⟨fun j hj => by omega⟩⟩
  case round =>
    obtain ⟨pos, rfl, hps, HP⟩ := hrel
    by_cases hp : pos < s.size
    · have hr := rune_at s pos hp
      have hnx := fun ty => run_next_any (P := Tryz.prog) w s pos ty hp
      have HF := Lib.hid (right_no4 s pos hp)
      generalize (Utf8.decode s pos).1 = n at hr hnx
      generalize (Utf8.decode s pos).2 = wd at hr hnx
      have HBel := Lib.hid (iter_below w s (pos + wd))
      obtain ⟨hr1, hr2, hr3⟩ := hr
      have HR1 := Lib.hid hr1
      have HR2 := Lib.hid hr2
      clear hr1 hr2
      by_cases hs : 97 ≤ n ∧ n ≤ 122
      · have C2 := Lib.hid fun w => small_yes n w hs
        have hok : okAt s.data.toList pos = true := by rw [HR1.out]; unfold chB smallB; rw [decide_eq_true hs.1, decide_eq_true hs.2]; rfl
        have hw1 : wd = 1 := HR2.out hok
        have HN : Aside0 (∀ j, j < pos + 1 → okAt s.data.toList j = true) := ⟨fun j hj => by
          by_cases e : j = pos
          · subst e; exact hok
          · exact HP.out j (by omega)⟩
        subst hw1
        clear hs hok
        go_wp2_with fail
        refine (C2.out _).mono ?_
        rintro e w1 ⟨rfl, rfl⟩
        go_wp2_with fail
        go_roundw
        case rel => exact ⟨pos + 1, rfl, by omega, HN⟩
        case measure => simp; omega
      · have C2 := Lib.hid fun w => small_no n w hs
        have hsm : smallB n = false := by
          unfold smallB
          rw [Bool.and_eq_false_iff, decide_eq_false_iff_not, decide_eq_false_iff_not]; omega
        by_cases h0 : pos = 0
        · have hok : okAt s.data.toList pos = false := by rw [HR1.out]; unfold chB; rw [hsm, decide_eq_true h0]; rfl
          have HV := Lib.hid (HF.out hok)
          have h01 : ((pos : Int) == 0) = true := by rw [beq_iff_eq]; omega
          clear hs h0 hok hsm
          go_wp2_with fail
          refine (C2.out _).mono ?_
          rintro e w1 ⟨rfl, rfl⟩
          go_wp2_with fail
          go_ret
          exact ⟨ret_b HV.out.symm, HBel.out⟩
        · have h01 : ((pos : Int) == 0) = false := by rw [beq_eq_false_iff_ne]; omega
          by_cases h95 : n = 95
          · subst h95
            have hok : okAt s.data.toList pos = true := by rw [HR1.out]; unfold chB; rw [hsm, decide_eq_false h0]; rfl
            have hw1 : wd = 1 := HR2.out hok
            have HN : Aside0 (∀ j, j < pos + 1 → okAt s.data.toList j = true) := ⟨fun j hj => by
              by_cases e : j = pos
              · subst e; exact hok
              · exact HP.out j (by omega)⟩
            subst hw1
            clear hs h0 hok hsm
            go_wp2_with fail
            refine (C2.out _).mono ?_
            rintro e w1 ⟨rfl, rfl⟩
            go_wp2_with fail
            go_roundw
            case rel => exact ⟨pos + 1, rfl, by omega, HN⟩
            case measure => simp; omega
          · have h951 : ((n : Int) != 95) = true := by rw [bne_iff_ne]; omega
            have h952 : (n == 95) = false := beq_eq_false_iff_ne.2 h95
            by_cases hd : 48 ≤ n ∧ n ≤ 57
            · have hok : okAt s.data.toList pos = true := by rw [HR1.out]; unfold chB; rw [hsm, decide_eq_false h0, decide_eq_true hd.1, decide_eq_true hd.2]; simp
              have hw1 : wd = 1 := HR2.out hok
              have HN : Aside0 (∀ j, j < pos + 1 → okAt s.data.toList j = true) := ⟨fun j hj => by
                by_cases e : j = pos
                · subst e; exact hok
                · exact HP.out j (by omega)⟩
              subst hw1
              have hd1 : decide ((n : Int) < 48) = false := decide_eq_false (by omega)
              have hd2 : decide ((57 : Int) < (n : Int)) = false := decide_eq_false (by omega)
              have hd3 := hd.1
              have hd4 := hd.2
              clear hs h0 hok hsm h95 hd h952
              go_wp2_with fail
              refine (C2.out _).mono ?_
              rintro e w1 ⟨rfl, rfl⟩
              go_wp2_with fail
              go_roundw
              case rel => exact ⟨pos + 1, rfl, by omega, HN⟩
              case measure => simp; omega
            · have hok : okAt s.data.toList pos = false := by
                rw [HR1.out]; unfold chB; rw [hsm, h952, Bool.false_or, Bool.false_or]
                rw [Bool.and_eq_false_iff, Bool.and_eq_false_iff, decide_eq_false_iff_not, decide_eq_false_iff_not]
                exact .inr (by omega)
              have HV := Lib.hid (HF.out hok)
              by_cases hlo : n < 48
              · have hd1 : decide ((n : Int) < 48) = true := decide_eq_true (by omega)
                clear hs h0 hok hsm h95 hd h952
                go_wp2_with fail
                refine (C2.out _).mono ?_
                rintro e w1 ⟨rfl, rfl⟩
                go_wp2_with fail
                go_ret
                exact ⟨ret_b HV.out.symm, HBel.out⟩
              · have hd1 : decide ((n : Int) < 48) = false := decide_eq_false (by omega)
                have hhi : 57 < n := by omega
                have hd2 : decide ((57 : Int) < (n : Int)) = true := decide_eq_true (by omega)
                clear hs h0 hok hsm h95 hd h952
                go_wp2_with fail
                refine (C2.out _).mono ?_
                rintro e w1 ⟨rfl, rfl⟩
                go_wp2_with fail
                go_ret
                exact ⟨ret_b HV.out.symm, HBel.out⟩
    · have hpe : pos = s.size := by omega
      have hnx := fun ty => run_next_end (P := Tryz.prog) w s pos ty hp
      have HV := Lib.hid (HY.out (fun j hj => HP.out j (by omega)))
      have HBel := Lib.hid (iter_below w s pos)
      have HPE := Lib.hid hpe
      clear hpe
      go_wp2_with fail
      go_ret
      exact ⟨ret_b HV.out.symm, HBel.out⟩

set_option maxHeartbeats 1000000 in
theorem right_any (s : B) (w : World) (hW : WordsAt w) :
    Calls Tryz.prog 64 #[.string s] w fun e w' => e = .returned (.bool (rightV s.data.toList)) ∧ Below w.heap.size w w' := by
  by_cases h0 : s.size = 0
  · have HV := Lib.hid (right_no1 s h0)
    have he : (s.toList == ([] : List UInt8)) = true := beq_iff_eq.2 (size0 s h0)
    have he2 : s.toList.isEmpty = true := by rw [size0 s h0]; rfl
    have he3 : s.toList = [] := size0 s h0
    clear h0
    go_enter Tryz.func64, Tryz.ntmps64
    go_wp2_with fail
    go_ret
    exact ⟨ret_b HV.out.symm, Below.refl _ _⟩
  · by_cases h16 : 16 < s.size
    · have HV := Lib.hid (right_no2 s h16)
      have he : (s.toList == ([] : List UInt8)) = false := beq_eq_false_iff_ne.2 (sizeN s h0)
      have he2 : s.toList.isEmpty = false := by have := sizeN s h0; cases hh : s.toList with | nil => exact absurd hh this | cons a b => rfl
      clear h0
      go_enter Tryz.func64, Tryz.ntmps64
      go_wp2_with fail
      go_ret
      exact ⟨ret_b HV.out.symm, Below.refl _ _⟩
    · by_cases h3 : wordV s.toList = 0
      · exact right_loop s w hW (by omega) (by omega) h3
      · have HV := Lib.hid (right_no3 s h3)
        have C1 := Lib.hid (word_any s w hW)
        have he : (s.toList == ([] : List UInt8)) = false := beq_eq_false_iff_ne.2 (sizeN s h0)
        have he2 : s.toList.isEmpty = false := by have := sizeN s h0; cases hh : s.toList with | nil => exact absurd hh this | cons a b => rfl
        have h31 : (wordV s.toList != 0) = true := bne_iff_ne.2 h3
        have h16' : s.size ≤ 16 := by omega
        generalize wordV s.toList = wv at C1 h31
        clear h0 h16 h3
        go_enter Tryz.func64, Tryz.ntmps64
        go_wp2_with fail
        refine C1.out.mono ?_
        rintro e w1 ⟨rfl, rfl⟩
        go_wp2_with fail
        go_ret
        exact ⟨ret_b HV.out.symm, Below.refl _ _⟩
end Go.Proofs.YtffojfcinkihnaaGreatDoor.Nam
