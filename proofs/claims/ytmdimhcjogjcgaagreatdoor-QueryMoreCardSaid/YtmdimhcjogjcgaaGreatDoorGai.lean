/- Words and names: what Word and Right of the program tell. -/
import Derived.Test.YtmdimhcjogjcgaaGreatDoorGad
import Derived.OpenShut
import Derived.Lib.Hide
import Derived.Lib.Strings
import Derived.WalkLawsBesides
import Derived.Laws.RangeAny
import Derived.Deep.MidRow
import Derived.WalkKit
import Derived.Test.YtmdimhcjogjcgaaGreatDoorProg
import Derived.KernelRfl
import Derived.Lib.ItoaLen
import Derived.Lib.ConvBytes
import Derived.Laws.BytesArg
import Derived.Laws.Slices
import Derived.Laws.Rows
import Derived.Deep.LoopGhost
import Derived.BigQuiet
import Derived.Test.YtmdimhcjogjcgaaGreatDoorGac
import Derived.Lib.Bytealg
set_option linter.all false
set_option maxRecDepth 100000
set_option maxHeartbeats 2000000
noncomputable section
namespace Go.Proofs.YtmdimhcjogjcgaaGreatDoor.Nam
open Go.RowKit Go.Proofs.YtmdimhcjogjcgaaGreatDoor.Abs
structure iv (p : Prop) : Prop where
 out : p
theorem adk {w W : World} {n : Nat} (h : Below n w W) (o : Obj) (hn : n ≤ W.heap.size := by omega) : Below n w (W.alloc o) := h.alloc hn o
abbrev B := ByteArray
def word (k : Nat) : B := match k with
 | 0 => ⟨#[97, 110, 121]⟩
 | 1 => ⟨#[98, 111, 111, 108]⟩
 | 2 => ⟨#[99, 111, 109, 112, 117, 116, 101, 100]⟩
 | 3 => ⟨#[102, 97, 108, 115, 101]⟩
 | 4 => ⟨#[105, 110, 116]⟩
 | 5 => ⟨#[110, 111, 110, 101]⟩
 | 6 => ⟨#[114, 101, 115, 111, 117, 114, 99, 101]⟩
 | 7 => ⟨#[115, 116, 114, 105, 110, 103]⟩
 | _ => ⟨#[116, 114, 117, 101]⟩
def xi : Array Value := #[.string (word 0), .string (word 1), .string (word 2), .string (word 3), .string (word 4), .string (word 5), .string (word 6), .string (word 7), .string (word 8)]
def agv (w : World) : Prop := w.rangeAt 0 0 xi.toList
def kg (l : List UInt8) : Int :=
 if l = [97, 110, 121] then 1 else if l = [98, 111, 111, 108] then 2 else if l = [99, 111, 109, 112, 117, 116, 101, 100] then 3 else if l = [102, 97, 108, 115, 101] then 4 else if l = [105, 110, 116] then 5 else if l = [110, 111, 110, 101] then 6 else if l = [114, 101, 115, 111, 117, 114, 99, 101] then 7 else if l = [115, 116, 114, 105, 110, 103] then 8 else if l = [116, 114, 117, 101] then 9 else 0
theorem ix (k : Nat) (hk : k < 9) (w : World) : (Instr.index 231 (.agg xi) (.int .i64 (k : Int))).run Tryz.prog w = .ok (.string (word k)) w := by
 rcases (by omega : k = 0 ∨ k = 1 ∨ k = 2 ∨ k = 3 ∨ k = 4 ∨ k = 5 ∨ k = 6 ∨ k = 7 ∨ k = 8) with rfl | rfl | rfl | rfl | rfl | rfl | rfl | rfl | rfl <;> kernel_rfl
theorem aun (s : B) (k : Nat) (hk : k < 9) (h : (word k).toList = s.toList) (hb : ∀ j, j < k → (word j).toList ≠ s.toList) : kg s.toList = (k : Int) + 1 := by
 rw [← h]
 rcases (by omega : k = 0 ∨ k = 1 ∨ k = 2 ∨ k = 3 ∨ k = 4 ∨ k = 5 ∨ k = 6 ∨ k = 7 ∨ k = 8) with rfl | rfl | rfl | rfl | rfl | rfl | rfl | rfl | rfl <;> decide +kernel
theorem auo (s : B) (hb : ∀ j, j < 9 → (word j).toList ≠ s.toList) : kg s.toList = 0 := by
 have h0 := hb 0 (by omega)
 have h1 := hb 1 (by omega)
 have h2 := hb 2 (by omega)
 have h3 := hb 3 (by omega)
 have h4 := hb 4 (by omega)
 have h5 := hb 5 (by omega)
 have h6 := hb 6 (by omega)
 have h7 := hb 7 (by omega)
 have h8 := hb 8 (by omega)
 rw [Lib.toList_data] at h0 h1 h2 h3 h4 h5 h6 h7 h8
 unfold kg
 rw [if_neg fun e => h0 e.symm, if_neg fun e => h1 e.symm, if_neg fun e => h2 e.symm, if_neg fun e => h3 e.symm, if_neg fun e => h4 e.symm, if_neg fun e => h5 e.symm, if_neg fun e => h6 e.symm, if_neg fun e => h7 e.symm, if_neg fun e => h8 e.symm]
theorem aw5 {a b : Int} (h : a = b) : Ending.returned (.int .i64 a) = .returned (.int .i64 b) := by rw [h]
theorem akp (s : B) (w : World) (hW : agv w) :
  Calls Tryz.prog 133 #[.string s] w fun e w' => e = .returned (.int .i64 (kg s.toList)) ∧ w = w' := by
 have hsz : (Tryz.prog.info? 231).map (·.size) = some xi.toList.length := by kernel_rfl
 have HG := Lib.hid hW
 clear hW
 go_enter Tryz.func133, Tryz.ntmps133
 go_wp2_with (refine wpList_load_mid rfl 231 _ rfl 0 0 rfl xi.toList _ HG.out Tryz.underlying231 rfl hsz ?_)
 go_loop [6] (fun i => ∃ k : Nat, k ≤ 9 ∧ i = .int .i64 k ∧ iv (∀ j, j < k → (word j).toList ≠ s.toList)) (fun i => 9 - (intOf i).toNat)
 case atStart => exact ⟨0, by omega, rfl, ⟨fun j hj => by omega⟩⟩
 case round =>
  obtain ⟨k, hk, rfl, HB⟩ := hrel
  by_cases hlt : k < 9
  ·have hi := ix k hlt
   by_cases he : (word k).toList = s.toList
   ·have HV := Lib.hid (aun s k hlt he HB.out)
    have he1 : ((word k).toList == s.toList) = true := beq_iff_eq.mpr he
    have HE := Lib.hid he
    clear he
    generalize word k = x at hi he1
    go_wp2
    go_ret
    exact ⟨aw5 HV.out.symm, rfl⟩
   ·have he1 : ((word k).toList == s.toList) = false := beq_eq_false_iff_ne.mpr he
    have HN : iv (∀ j, j < k + 1 → (word j).toList ≠ s.toList) := ⟨fun j hj => by
     by_cases e : j = k
     ·subst e; exact he
     ·exact HB.out j (by omega)⟩
    clear he
    generalize word k = x at hi he1
    go_wp2
    go_round
    case rel => exact ⟨k + 1, by omega, by go_num, HN⟩
    case measure => simp [intOf]; omega
  ·obtain rfl : k = 9 := by omega
   have HV := Lib.hid (auo s HB.out)
   go_wp2
   go_ret
   exact ⟨aw5 HV.out.symm, rfl⟩
def xj (n : Nat) : Bool := decide (97 ≤ n) && decide (n ≤ 122)
def chB (first : Bool) (n : Nat) : Bool := xj n || (!first && (n == 95 || (decide (48 ≤ n) && decide (n ≤ 57))))
def ym (l : List UInt8) : Bool := l.all fun c => chB false c.toNat
def aal : List UInt8 → Bool
 | [] => true
 | c :: r => chB true c.toNat && ym r
def ek (l : List UInt8) : Bool := decide (1 ≤ l.length) && decide (l.length ≤ 16) && (kg l == 0) && aal l
theorem ard (n : Nat) (w : World) (h : 97 ≤ n ∧ n ≤ 122) : Calls Tryz.prog 134 #[.int .i32 (n : Int)] w fun e w' => e = .returned (.bool true) ∧ w = w' := by
 have h1 := h.1
 have h2 := h.2
 clear h
 go_enter Tryz.func134, Tryz.ntmps134
 go_wp2
 go_ret
 exact ⟨by simp; omega, rfl⟩
theorem aup (n : Nat) (w : World) (h : ¬ (97 ≤ n ∧ n ≤ 122)) : Calls Tryz.prog 134 #[.int .i32 (n : Int)] w fun e w' => e = .returned (.bool false) ∧ w = w' := by
 by_cases h1 : 97 ≤ n
 ·have h2 : ¬ n ≤ 122 := by omega
  clear h
  go_enter Tryz.func134, Tryz.ntmps134
  go_wp2
  go_ret
  exact ⟨by simp; omega, rfl⟩
 ·clear h
  go_enter Tryz.func134, Tryz.ntmps134
  go_wp2
  go_ret
  exact ⟨rfl, rfl⟩
def kx (l : List UInt8) (j : Nat) : Bool := match l[j]? with
 | some c => chB (decide (j = 0)) c.toNat
 | none => true
theorem auq (l : List UInt8) : ym l = true ↔ ∀ j, j < l.length → kx (0 :: l) (j + 1) = true := by
 unfold ym
 rw [List.all_eq_true]
 constructor
 ·intro h j hj
  unfold kx
  rw [List.getElem?_cons_succ, List.getElem?_eq_getElem hj]
  exact h _ (List.getElem_mem hj)
 ·intro h c hc
  obtain ⟨j, hj, rfl⟩ := List.mem_iff_getElem.1 hc
  have := h j hj
  unfold kx at this
  rw [List.getElem?_cons_succ, List.getElem?_eq_getElem hj] at this
  exact this
theorem akq (l : List UInt8) : aal l = true ↔ ∀ j, j < l.length → kx l j = true := by
 cases l with
 | nil => simp [aal]
 | cons c r =>
  rw [aal, Bool.and_eq_true, auq]
  constructor
  ·rintro ⟨h1, h2⟩ j hj
   cases j with
   | zero => exact h1
   | succ j => have := h2 j (by rw [List.length_cons] at hj; omega); unfold kx at this ⊢; rw [List.getElem?_cons_succ] at this ⊢; exact this
  ·intro h
   refine ⟨h 0 (by simp), fun j hj => ?_⟩
   have := h (j + 1) (by rw [List.length_cons]; omega)
   unfold kx at this ⊢
   rw [List.getElem?_cons_succ] at this ⊢
   exact this
theorem aam (s : B) : s.data.toList.length = s.size := by rw [Array.length_toList]; rfl
theorem ax9 (s : B) (pos : Nat) (h : pos < s.size) : kx s.data.toList pos = chB (decide (pos = 0)) (Utf8.decode s pos).1 ∧ (kx s.data.toList pos = true → (Utf8.decode s pos).2 = 1) ∧ 1 ≤ (Utf8.decode s pos).2 := by
 have hc : s.data.toList[pos]? = some (s[pos]'h) := by
  rw [Array.getElem?_toList, Array.getElem?_eq_getElem (h := h)]; rfl
 have ho : kx s.data.toList pos = chB (decide (pos = 0)) (s[pos]'h).toNat := by unfold kx; rw [hc]
 by_cases ha : (s[pos]'h).toNat < 128
 ·rw [decode_ascii s pos h ha]
  exact ⟨ho, fun _ => rfl, Nat.le_refl _⟩
 ·have hd := decode_high s pos h (by omega)
  have hf : ∀ (b : Bool) (n : Nat), 128 ≤ n → chB b n = false := by
   intro b n hn
   unfold chB xj
   rw [decide_eq_false (by omega : ¬ n ≤ 122), decide_eq_false (by omega : ¬ n ≤ 57), beq_eq_false_iff_ne.2 (by omega : n ≠ 95)]
   simp
  rw [ho, hf _ _ hd.1, hf _ _ (by omega)]
  exact ⟨rfl, (fun e => by cases e), hd.2⟩
theorem are (s : B) (h : s.size = 0) : ek s.data.toList = false := by
 unfold ek
 rw [aam, decide_eq_false (by omega)]; rfl
theorem arf (s : B) (h : 16 < s.size) : ek s.data.toList = false := by
 unfold ek
 rw [aam, decide_eq_false (by omega : ¬ s.size ≤ 16), Bool.and_false]; rfl
theorem arh (s : B) (h : kg s.toList ≠ 0) : ek s.data.toList = false := by
 unfold ek
 rw [Lib.toList_data] at h
 rw [beq_eq_false_iff_ne.2 h, Bool.and_false]; rfl
theorem ari (s : B) (pos : Nat) (h : pos < s.size) (hf : kx s.data.toList pos = false) : ek s.data.toList = false := by
 unfold ek
 have : aal s.data.toList = false := by
  rw [Bool.eq_false_iff]
  intro hb
  have := (akq _).1 hb pos (by rw [aam]; exact h)
  rw [hf] at this; cases this
 rw [this, Bool.and_false]
theorem arj (s : B) (h1 : 1 ≤ s.size) (h2 : s.size ≤ 16) (h3 : kg s.toList = 0) (h4 : ∀ j, j < s.size → kx s.data.toList j = true) : ek s.data.toList = true := by
 unfold ek
 rw [Lib.toList_data] at h3
 have hb : aal s.data.toList = true := (akq _).2 (fun j hj => h4 j (by rw [aam] at hj; exact hj))
 rw [aam, decide_eq_true h1, decide_eq_true h2, h3, hb]; rfl
theorem aan {a b : Bool} (h : a = b) : Ending.returned (.bool a) = .returned (.bool b) := by rw [h]
theorem afa (w : World) (s : B) (pos : Nat) : Below w.heap.size w (w.iter s pos) := adk (Below.refl _ _) _
theorem ao9 (s : B) (h : s.size = 0) : s.toList = [] := by rw [Lib.toList_data]; exact List.eq_nil_of_length_eq_zero (by rw [aam]; exact h)
theorem ac6 (s : B) (h : ¬ s.size = 0) : s.toList ≠ [] := by
 rw [Lib.toList_data]
 intro e
 exact h (by rw [← aam, e]; rfl)
theorem vr (s : B) (w : World) (hW : agv w) (h1 : 1 ≤ s.size) (h2 : s.size ≤ 16) (h3 : kg s.toList = 0) :
  Calls Tryz.prog 101 #[.string s] w fun e w' => e = .returned (.bool (ek s.data.toList)) ∧ Below w.heap.size w w' := by
 have C1 := Lib.hid (akp s w hW)
 have HY := Lib.hid (arj s h1 h2 h3)
 have H3 := Lib.hid h3
 have he : (s.toList == ([] : List UInt8)) = false := beq_eq_false_iff_ne.2 (ac6 s (by omega))
 have he2 : s.toList.isEmpty = false := by have := ac6 s (by omega); cases hh : s.toList with | nil => exact absurd hh this | cons a b => rfl
 clear h3
 go_enter Tryz.func101, Tryz.ntmps101
 go_wp2_with fail
 refine C1.out.mono ?_
 rintro e w1 ⟨rfl, rfl⟩
 rw [H3.out]
 go_wp2_with fail
 go_loopw [3] (fun v wr => ∃ pos : Nat, wr = w.iter s pos ∧ pos ≤ s.size ∧ iv (∀ j, j < pos → kx s.data.toList j = true)) (fun _ wr => s.size - wr.iterPos w.heap.size)
 case atStart => exact ⟨0, rfl, Nat.zero_le _, ⟨fun j hj => by omega⟩⟩
 case round =>
  obtain ⟨pos, rfl, hps, HP⟩ := hrel
  by_cases hp : pos < s.size
  ·have hr := ax9 s pos hp
   have hnx := fun ty => run_next_any (P := Tryz.prog) w s pos ty hp
   have HF := Lib.hid (ari s pos hp)
   generalize (Utf8.decode s pos).1 = n at hr hnx
   generalize (Utf8.decode s pos).2 = wd at hr hnx
   have HBel := Lib.hid (afa w s (pos + wd))
   obtain ⟨hr1, hr2, hr3⟩ := hr
   have HR1 := Lib.hid hr1
   have HR2 := Lib.hid hr2
   clear hr1 hr2
   by_cases hs : 97 ≤ n ∧ n ≤ 122
   ·have C2 := Lib.hid fun w => ard n w hs
    have hok : kx s.data.toList pos = true := by rw [HR1.out]; unfold chB xj; rw [decide_eq_true hs.1, decide_eq_true hs.2]; rfl
    have hw1 : wd = 1 := HR2.out hok
    have HN : iv (∀ j, j < pos + 1 → kx s.data.toList j = true) := ⟨fun j hj => by
     by_cases e : j = pos
     ·subst e; exact hok
     ·exact HP.out j (by omega)⟩
    subst hw1
    clear hs hok
    go_wp2_with fail
    refine (C2.out _).mono ?_
    rintro e w1 ⟨rfl, rfl⟩
    go_wp2_with fail
    go_roundw
    case rel => exact ⟨pos + 1, rfl, by omega, HN⟩
    case measure => simp; omega
   ·have C2 := Lib.hid fun w => aup n w hs
    have hsm : xj n = false := by
     unfold xj
     rw [Bool.and_eq_false_iff, decide_eq_false_iff_not, decide_eq_false_iff_not]; omega
    by_cases h0 : pos = 0
    ·have hok : kx s.data.toList pos = false := by rw [HR1.out]; unfold chB; rw [hsm, decide_eq_true h0]; rfl
     have HV := Lib.hid (HF.out hok)
     have h01 : ((pos : Int) == 0) = true := by rw [beq_iff_eq]; omega
     clear hs h0 hok hsm
     go_wp2_with fail
     refine (C2.out _).mono ?_
     rintro e w1 ⟨rfl, rfl⟩
     go_wp2_with fail
     go_ret
     exact ⟨aan HV.out.symm, HBel.out⟩
    ·have h01 : ((pos : Int) == 0) = false := by rw [beq_eq_false_iff_ne]; omega
     by_cases h95 : n = 95
     ·subst h95
      have hok : kx s.data.toList pos = true := by rw [HR1.out]; unfold chB; rw [hsm, decide_eq_false h0]; rfl
      have hw1 : wd = 1 := HR2.out hok
      have HN : iv (∀ j, j < pos + 1 → kx s.data.toList j = true) := ⟨fun j hj => by
       by_cases e : j = pos
       ·subst e; exact hok
       ·exact HP.out j (by omega)⟩
      subst hw1
      clear hs h0 hok hsm
      go_wp2_with fail
      refine (C2.out _).mono ?_
      rintro e w1 ⟨rfl, rfl⟩
      go_wp2_with fail
      go_roundw
      case rel => exact ⟨pos + 1, rfl, by omega, HN⟩
      case measure => simp; omega
     ·have h951 : ((n : Int) != 95) = true := by rw [bne_iff_ne]; omega
      have h952 : (n == 95) = false := beq_eq_false_iff_ne.2 h95
      by_cases hd : 48 ≤ n ∧ n ≤ 57
      ·have hok : kx s.data.toList pos = true := by rw [HR1.out]; unfold chB; rw [hsm, decide_eq_false h0, decide_eq_true hd.1, decide_eq_true hd.2]; simp
       have hw1 : wd = 1 := HR2.out hok
       have HN : iv (∀ j, j < pos + 1 → kx s.data.toList j = true) := ⟨fun j hj => by
        by_cases e : j = pos
        ·subst e; exact hok
        ·exact HP.out j (by omega)⟩
       subst hw1
       have hd1 : decide ((n : Int) < 48) = false := decide_eq_false (by omega)
       have hd2 : decide ((57 : Int) < (n : Int)) = false := decide_eq_false (by omega)
       have hd3 := hd.1
       have hd4 := hd.2
       clear hs h0 hok hsm h95 hd h952
       go_wp2_with fail
       refine (C2.out _).mono ?_
       rintro e w1 ⟨rfl, rfl⟩
       go_wp2_with fail
       go_roundw
       case rel => exact ⟨pos + 1, rfl, by omega, HN⟩
       case measure => simp; omega
      ·have hok : kx s.data.toList pos = false := by
        rw [HR1.out]; unfold chB; rw [hsm, h952, Bool.false_or, Bool.false_or]
        rw [Bool.and_eq_false_iff, Bool.and_eq_false_iff, decide_eq_false_iff_not, decide_eq_false_iff_not]
        exact .inr (by omega)
       have HV := Lib.hid (HF.out hok)
       by_cases hlo : n < 48
       ·have hd1 : decide ((n : Int) < 48) = true := decide_eq_true (by omega)
        clear hs h0 hok hsm h95 hd h952
        go_wp2_with fail
        refine (C2.out _).mono ?_
        rintro e w1 ⟨rfl, rfl⟩
        go_wp2_with fail
        go_ret
        exact ⟨aan HV.out.symm, HBel.out⟩
       ·have hd1 : decide ((n : Int) < 48) = false := decide_eq_false (by omega)
        have hhi : 57 < n := by omega
        have hd2 : decide ((57 : Int) < (n : Int)) = true := decide_eq_true (by omega)
        clear hs h0 hok hsm h95 hd h952
        go_wp2_with fail
        refine (C2.out _).mono ?_
        rintro e w1 ⟨rfl, rfl⟩
        go_wp2_with fail
        go_ret
        exact ⟨aan HV.out.symm, HBel.out⟩
  ·have hpe : pos = s.size := by omega
   have hnx := fun ty => run_next_end (P := Tryz.prog) w s pos ty hp
   have HV := Lib.hid (HY.out (fun j hj => HP.out j (by omega)))
   have HBel := Lib.hid (afa w s pos)
   have HPE := Lib.hid hpe
   clear hpe
   go_wp2_with fail
   go_ret
   exact ⟨aan HV.out.symm, HBel.out⟩
theorem ark (s : B) (w : World) (hW : agv w) :
  Calls Tryz.prog 101 #[.string s] w fun e w' => e = .returned (.bool (ek s.data.toList)) ∧ Below w.heap.size w w' := by
 by_cases h0 : s.size = 0
 ·have HV := Lib.hid (are s h0)
  have he : (s.toList == ([] : List UInt8)) = true := beq_iff_eq.2 (ao9 s h0)
  have he2 : s.toList.isEmpty = true := by rw [ao9 s h0]; rfl
  have he3 : s.toList = [] := ao9 s h0
  clear h0
  go_enter Tryz.func101, Tryz.ntmps101
  go_wp2_with fail
  go_ret
  exact ⟨aan HV.out.symm, Below.refl _ _⟩
 ·by_cases h16 : 16 < s.size
  ·have HV := Lib.hid (arf s h16)
   have he : (s.toList == ([] : List UInt8)) = false := beq_eq_false_iff_ne.2 (ac6 s h0)
   have he2 : s.toList.isEmpty = false := by have := ac6 s h0; cases hh : s.toList with | nil => exact absurd hh this | cons a b => rfl
   clear h0
   go_enter Tryz.func101, Tryz.ntmps101
   go_wp2_with fail
   go_ret
   exact ⟨aan HV.out.symm, Below.refl _ _⟩
  ·by_cases h3 : kg s.toList = 0
   ·exact vr s w hW (by omega) (by omega) h3
   ·have HV := Lib.hid (arh s h3)
    have C1 := Lib.hid (akp s w hW)
    have he : (s.toList == ([] : List UInt8)) = false := beq_eq_false_iff_ne.2 (ac6 s h0)
    have he2 : s.toList.isEmpty = false := by have := ac6 s h0; cases hh : s.toList with | nil => exact absurd hh this | cons a b => rfl
    have h31 : (kg s.toList != 0) = true := bne_iff_ne.2 h3
    have h16' : s.size ≤ 16 := by omega
    generalize kg s.toList = wv at C1 h31
    clear h0 h16 h3
    go_enter Tryz.func101, Tryz.ntmps101
    go_wp2_with fail
    refine C1.out.mono ?_
    rintro e w1 ⟨rfl, rfl⟩
    go_wp2_with fail
    go_ret
    exact ⟨aan HV.out.symm, Below.refl _ _⟩
end Go.Proofs.YtmdimhcjogjcgaaGreatDoor.Nam
namespace Go.Proofs.YtmdimhcjogjcgaaGreatDoor.NT
open Go.RowKit Go.Proofs.YtmdimhcjogjcgaaGreatDoor.Abs Go.Proofs.YtmdimhcjogjcgaaGreatDoor.Nam
theorem add_plain (g j : Nat) : (⟨g, 0, none⟩ : Addr).add j = ⟨g, j, none⟩ := by unfold Addr.add; split <;> simp_all
theorem aya {w : World} {g : Nat} {t : TypeId} {cs : Array Value} (h : w.heap[g]? = some (.cells cs t (0, 0))) (i : Nat) (u : Value) : (w.setCell ⟨g, i, none⟩ u).heap[g]? = some (.cells (cs.setIfInBounds i u) t (0, 0)) := heap_setCell_same w g i cs t u h
theorem ad3 {w : World} {g : Nat} {t : TypeId} {cs : Array Value} (h : w.heap[g]? = some (.cells cs t (0, 0))) (i : Nat) : w.cell? ⟨g, i, none⟩ = cs[i]? := cell_of h i
theorem afb {w : World} {g : Nat} {t : TypeId} {cs : Array Value} (h : w.heap[g]? = some (.cells cs t (0, 0))) (i : Nat) : w.frozen? ⟨g, i, none⟩ = false := by simp [World.frozen?, h]
def arr (u : Nat) (k : Nat) : List Int := (List.range 20).map fun j => if 20 ≤ j + k then ((48 + u / 10 ^ (19 - j) % 10 : Nat) : Int) else 0
def left (n : Int) : Int := if n < 0 then IntKind.u64.wrap (-(IntKind.u64.wrap n)) else IntKind.u64.wrap n
theorem zo (u k j : Nat) (hj : j < 20) : (arr u k)[j]? = some (if 20 ≤ j + k then ((48 + u / 10 ^ (19 - j) % 10 : Nat) : Int) else 0) := by
 unfold arr
 rw [List.getElem?_map, List.getElem?_range hj]; rfl
theorem zq (u k : Nat) : (arr u k).length = 20 := by simp [arr]
theorem ayb (u k a : Nat) (ha : a + 1 + k = 20) : (arr u k).set a ((48 + u / 10 ^ k % 10 : Nat) : Int) = arr u (k + 1) := by
 apply List.ext_getElem?
 intro j
 by_cases hj : j < 20
 ·rw [List.getElem?_set, zo u (k + 1) j hj]
  by_cases e : a = j
  ·subst e
   rw [if_pos rfl, if_pos (by rw [zq]; exact hj), if_pos (by omega)]
   rw [show 19 - a = k from by omega]
  ·rw [if_neg e, zo u k j hj]
   by_cases h1 : 20 ≤ j + k
   ·rw [if_pos h1, if_pos (by omega)]
   ·rw [if_neg h1, if_neg (by omega)]
 ·rw [List.getElem?_eq_none (by rw [List.length_set, zq]; omega), List.getElem?_eq_none (by rw [zq]; omega)]
def xk (l : List Int) : List Value := l.map fun x => .int .u8 x
theorem anw (B a : Nat) (ha : a < 20) (W : World) :
  (Instr.sliceAt 262 (.pointer (some ⟨B, 0, none⟩)) (some (.int .i64 (a : Int))) none none).run Tryz.prog W = .ok (.slice (some ⟨B, a, none⟩) (20 - a) (20 - a)) W := by
 have hp : Tryz.prog.arrayLen 262 = 20 := by kernel_rfl
 have he : ∀ W : World, (sizeOf (Tryz.prog.elem 262)).run Tryz.prog W = .ok 1 W := fun W => by kernel_rfl
 rw [run_sliceAt_array_l (P := Tryz.prog) (w := W) 262 ⟨B, 0, none⟩ (by kernel_rfl) .i64 (a : Int) (by omega) (by rw [hp]; omega), he, hp]
 simp only [Result.andThen, slicedAt, Int.toNat_natCast]
 rw [if_neg (by omega), Nat.mul_one, add_plain]
theorem aur (u K a : Nat) (h : a + K = 20) : (arr u K).drop a = (List.range K).map fun t => ((48 + u / 10 ^ (K - 1 - t) % 10 : Nat) : Int) := by
 apply List.ext_getElem?
 intro t
 rw [List.getElem?_drop]
 by_cases ht : t < K
 ·rw [zo u K (a + t) (by omega), if_pos (by omega), List.getElem?_map, List.getElem?_range ht]
  rw [show 19 - (a + t) = K - 1 - t from by omega]; rfl
 ·rw [List.getElem?_eq_none (by rw [zq]; omega), List.getElem?_eq_none (by simp; omega)]
theorem a0g (u K a : Nat) (h : a + K = 20) : (strOfNums ((arr u K).drop a)) = ⟨((List.range K).map fun t => Lib.dg u (K - 1 - t)).toArray⟩ := by
 rw [aur u K a h]
 unfold strOfNums
 rw [List.map_map]
 congr 2
theorem arl (u K a B : Nat) (h : a + K = 20) (W : World) (hb : W.heap[B]? = some (.cells (xk (arr u K)).toArray 262 (0, 0))) :
  (convert 91 9 (.slice (some ⟨B, a, none⟩) (20 - a) (20 - a))).run Tryz.prog W = .ok (.string ⟨((List.range K).map fun t => Lib.dg u (K - 1 - t)).toArray⟩) W := by
 rw [← a0g u K a h]
 refine run_convert_bytes_arg W 91 5 Tryz.underlying91 Tryz.underlying5 B a _ _ ((arr u K).drop a) (by rw [List.length_drop, zq]) (fun i hi => ?_) 9 Tryz.underlying9
 have hat := zo u K (a + i) (by omega)
 rw [ad3 hb, List.getElem?_toArray, xk, List.getElem?_map, hat, List.getD_eq_getElem?_getD, List.getElem?_drop, hat]
 rfl
theorem a4f (u k : Nat) (h1 : ∀ j, 1 ≤ j → j ≤ k → u / 10 ^ j ≠ 0) (h2 : u / 10 ^ (k + 1) = 0) : Lib.nDigits u = k + 1 := by
 have hlt : u < 10 ^ (k + 1) := by
  rcases Nat.lt_or_ge u (10 ^ (k + 1)) with h | h
  ·exact h
  ·exact absurd h2 (Nat.ne_of_gt (Nat.div_pos h (Nat.pow_pos (by omega))))
 rcases Nat.eq_zero_or_pos k with rfl | hk
 ·exact Lib.nDigits_small (by simpa using hlt)
 ·refine Lib.nDigits_unique k u ?_ hlt
  rcases Nat.lt_or_ge u (10 ^ k) with h | h
  ·exact absurd (Nat.div_eq_of_lt h) (h1 k hk (Nat.le_refl _))
  ·exact h
theorem arn (u k : Nat) (h1 : ∀ j, 1 ≤ j → j ≤ k → u / 10 ^ j ≠ 0) (h2 : u / 10 ^ (k + 1) = 0) : (List.range (k + 1)).map (fun t => Lib.dg u (k + 1 - 1 - t)) = Lib.decDigits u := by
 rw [Lib.decDigits_eq, a4f u k h1 h2]
theorem aao (u k q : Nat) (h : q = u / 10 ^ k) : q / 10 = u / 10 ^ (k + 1) := by
 rw [h, Nat.div_div_eq_div_mul, Nat.pow_succ]
theorem aus (n : Int) (u : Nat) (h0 : n < 0) (hn : -9223372036854775808 ≤ n) (h : left n = (u : Int)) : n.natAbs = u := by
 unfold left at h
 rw [if_pos h0] at h
 simp [IntKind.wrap, IntKind.bits, IntKind.signed] at h
 omega
theorem akr (n : Int) (u : Nat) (h0 : ¬ n < 0) (hn : n ≤ 9223372036854775807) (h : left n = (u : Int)) : n.toNat = u := by
 unfold left at h
 rw [if_neg h0] at h
 simp [IntKind.wrap, IntKind.bits, IntKind.signed] at h
 omega
theorem ayc (n : Int) (hn : -9223372036854775808 ≤ n ∧ n ≤ 9223372036854775807) : ∃ u : Nat, left n = (u : Int) ∧ u < 18446744073709551616 := by
 refine ⟨(left n).toNat, ?_, ?_⟩ <;> unfold left <;> split <;> simp [IntKind.wrap, IntKind.bits, IntKind.signed] <;> omega
theorem itoa_neg (n : Int) (h0 : n < 0) : Lib.itoa n = 45 :: Lib.decDigits n.natAbs := by unfold Lib.itoa; rw [if_pos h0]
theorem aut (n : Int) (h0 : ¬ n < 0) : Lib.itoa n = Lib.decDigits n.toNat := by unfold Lib.itoa; rw [if_neg h0]
theorem cat (a b : List UInt8) : (⟨a.toArray⟩ : ByteArray) ++ ⟨b.toArray⟩ = ⟨(a ++ b).toArray⟩ := by
 apply ByteArray.ext
 rw [ByteArray.data_append]
 simp
theorem anx {a b : ByteArray} (h : a = b) : Ending.returned (.string a) = .returned (.string b) := by rw [h]
theorem agw (wr : World) (B u k a q : Nat) (h : a + 1 + k = 20) (hq : q = u / 10 ^ k) (hb : wr.heap[B]? = some (.cells (xk (arr u k)).toArray 262 (0, 0))) :
  (wr.setCell ⟨B, a, none⟩ (.int .u8 (48 + (q : Int) % 10))).heap[B]? = some (.cells (xk (arr u (k + 1))).toArray 262 (0, 0)) := by
 rw [aya hb, List.setIfInBounds_toArray]
 congr 3
 rw [← ayb u k a h]
 unfold xk
 rw [List.map_set, hq]
 rfl
def Loop (u : Nat) (w : World) (l at_ i : Value) (wr : World) : Prop :=
 ∃ k a q : Nat, a + k = 20 ∧ l = .int .u64 q ∧ at_ = .int .i64 a ∧ i = .int .i64 k ∧ iv (q = u / 10 ^ k) ∧ q < 18446744073709551616 ∧ iv (∀ j, 1 ≤ j → j ≤ k → u / 10 ^ j ≠ 0) ∧ iv (wr.heap[w.heap.size]? = some (.cells (xk (arr u k)).toArray 262 (0, 0))) ∧ iv (Below w.heap.size w wr)
theorem afc (u : Nat) (w : World) (hu : u < 18446744073709551616) (cs : Array Value) (hc : cs = (xk (arr u 0)).toArray) : Loop u w (.int .u64 (u : Int)) (.int .i64 20) (.int .i64 0) (w.alloc (.cells cs 262 (0, 0))) := by
 subst hc
 exact ⟨0, 20, u, rfl, rfl, rfl, rfl, ⟨by simp⟩, hu, ⟨fun j h1 h2 => by omega⟩, ⟨heap_alloc_new _ _⟩, ⟨adk (Below.refl _ _) _⟩⟩
theorem a0h (u : Nat) : (xk (arr u 0)).toArray = #[.int .u8 0, .int .u8 0, .int .u8 0, .int .u8 0, .int .u8 0, .int .u8 0, .int .u8 0, .int .u8 0, .int .u8 0, .int .u8 0, .int .u8 0, .int .u8 0, .int .u8 0, .int .u8 0, .int .u8 0, .int .u8 0, .int .u8 0, .int .u8 0, .int .u8 0, .int .u8 0] := by
 rfl
theorem ah5 (u k a q : Nat) (w wr : World) (hak : a + 1 + k = 20) (HQ : q = u / 10 ^ k) (hq : q < 18446744073709551616) (hz : ¬ q / 10 = 0) (HJ : ∀ j, 1 ≤ j → j ≤ k → u / 10 ^ j ≠ 0)
  (HB : wr.heap[w.heap.size]? = some (.cells (xk (arr u k)).toArray 262 (0, 0))) (HW : Below w.heap.size w wr) :
  Loop u w (.int .u64 ((q : Int) / 10)) (.int .i64 (a : Int)) (.int .i64 ((k : Int) + 1)) (wr.setCell ⟨w.heap.size, a, none⟩ (.int .u8 (48 + (q : Int) % 10))) := by
 refine ⟨k + 1, a, q / 10, by omega, rfl, rfl, rfl, ⟨aao u k q HQ⟩, by omega, ⟨fun j h1 h2 => ?_⟩, ⟨agw wr w.heap.size u k a q hak HQ HB⟩, ⟨HW.setCell (Nat.le_refl _) _⟩⟩
 by_cases e : j = k + 1
 ·subst e; rw [← aao u k q HQ]; exact hz
 ·exact HJ j h1 (by omega)
theorem auu (n : Int) (u : Nat) (w : World) (hn : -9223372036854775808 ≤ n ∧ n ≤ 9223372036854775807) (hu : left n = (u : Int)) (hu2 : u < 18446744073709551616) (h0 : n < 0) :
  Calls Tryz.prog 183 #[.int .i64 n] w fun e w' => e = .returned (.string ⟨(Lib.itoa n).toArray⟩) ∧ Below w.heap.size w w' := by
 have HN := iv.mk hu
 have HU2 := iv.mk hu2
 have HL : Hid (IntKind.u64.wrap (-(IntKind.u64.wrap n)) = (u : Int)) := by unfold left at hu; rw [if_pos h0] at hu; exact hu
 clear hu hu2
 go_enter Tryz.func183, Tryz.ntmps183
 go_wp2
 rw [HL.out]
 go_loopw [3, 5, 12] (fun l at_ i wr => Loop u w l at_ i wr) (fun _ _ i _ => 20 - (intOf i).toNat)
 case atStart => exact afc u w HU2.out _ (a0h u).symm
 case round =>
  obtain ⟨k, a, q, hak, rfl, rfl, rfl, HQ, hq, HJ, HB, HW⟩ := hrel
  by_cases hk : k < 20
  ·obtain ⟨a, rfl⟩ : ∃ a', a = a' + 1 := ⟨a - 1, by omega⟩
   have hcell : wr.cell? ⟨w.heap.size, a, none⟩ = some (.int .u8 (if 20 ≤ a + k then ((48 + u / 10 ^ (19 - a) % 10 : Nat) : Int) else 0)) := by
    rw [ad3 HB.out, List.getElem?_toArray, xk, List.getElem?_map, zo u k a (by omega)]; rfl
   rw [if_neg (by omega)] at hcell
   have hfr : wr.frozen? ⟨w.heap.size, a, none⟩ = false := afb HB.out a
   by_cases hz : q / 10 = 0
   ·have hz1 : ((q : Int) / 10 == 0) = true := by rw [beq_iff_eq]; omega
    have HS := iv.mk (agw wr w.heap.size u k a q hak HQ.out HB.out)
    have hsl := anw w.heap.size a (by omega)
    have hcv := arl u (k + 1) a w.heap.size (by omega) (wr.setCell ⟨w.heap.size, a, none⟩ (.int .u8 (48 + (q : Int) % 10))) HS.out
    rw [arn u k HJ.out (by rw [← aao u k q HQ.out]; exact hz)] at hcv
    have HBW := iv.mk (HW.out.setCell (p := ⟨w.heap.size, a, none⟩) (Nat.le_refl _) (.int .u8 (48 + (q : Int) % 10)))
    have hzz := Lib.hid hz
    have hlen : ¬ 9223372036854775807 < 1 + (Lib.decDigits u).length := by rw [Lib.decDigits_length]; have := Lib.nDigits_le20 u HU2.out; omega
    clear hz
    go_wp2
    go_ret
    exact ⟨anx (by rw [itoa_neg n h0, aus n u h0 hn.1 HN.out]; exact cat [45] _), HBW.out⟩
   ·have hz1 : ((q : Int) / 10 == 0) = false := by rw [beq_eq_false_iff_ne]; omega
    have HX := iv.mk (ah5 u k a q w wr hak HQ.out hq hz HJ.out HB.out HW.out)
    have hzz := Lib.hid hz
    clear hz
    go_wp2
    go_roundw
    case rel => exact HX.out
    case measure => simp [intOf]; omega
  ·exact absurd (HJ.out 20 (by omega) (by omega)) (by simp only [ne_eq, Decidable.not_not]; exact Nat.div_eq_of_lt (Nat.lt_trans HU2.out (by decide)))
theorem auv (n : Int) (u : Nat) (w : World) (hn : -9223372036854775808 ≤ n ∧ n ≤ 9223372036854775807) (hu : left n = (u : Int)) (hu2 : u < 18446744073709551616) (h0 : ¬ n < 0) :
  Calls Tryz.prog 183 #[.int .i64 n] w fun e w' => e = .returned (.string ⟨(Lib.itoa n).toArray⟩) ∧ Below w.heap.size w w' := by
 have HN := iv.mk hu
 have HU2 := iv.mk hu2
 have h9 : decide ((u : Int) < 0) = false := decide_eq_false (by omega)
 have hn2 : u ≤ 9223372036854775807 := by have := akr n u h0 hn.2 hu; omega
 obtain rfl : (u : Int) = n := by have := akr n u h0 hn.2 hu; omega
 have H0 := Lib.hid h0
 clear hu hu2 h0
 go_enter Tryz.func183, Tryz.ntmps183
 go_wp2
 go_loopw [3, 5, 12] (fun l at_ i wr => Loop u w l at_ i wr) (fun _ _ i _ => 20 - (intOf i).toNat)
 case atStart => exact afc u w HU2.out _ (a0h u).symm
 case round =>
  obtain ⟨k, a, q, hak, rfl, rfl, rfl, HQ, hq, HJ, HB, HW⟩ := hrel
  by_cases hk : k < 20
  ·obtain ⟨a, rfl⟩ : ∃ a', a = a' + 1 := ⟨a - 1, by omega⟩
   have hcell : wr.cell? ⟨w.heap.size, a, none⟩ = some (.int .u8 (if 20 ≤ a + k then ((48 + u / 10 ^ (19 - a) % 10 : Nat) : Int) else 0)) := by
    rw [ad3 HB.out, List.getElem?_toArray, xk, List.getElem?_map, zo u k a (by omega)]; rfl
   rw [if_neg (by omega)] at hcell
   have hfr : wr.frozen? ⟨w.heap.size, a, none⟩ = false := afb HB.out a
   by_cases hz : q / 10 = 0
   ·have hz1 : ((q : Int) / 10 == 0) = true := by rw [beq_iff_eq]; omega
    have HS := iv.mk (agw wr w.heap.size u k a q hak HQ.out HB.out)
    have hsl := anw w.heap.size a (by omega)
    have hcv := arl u (k + 1) a w.heap.size (by omega) (wr.setCell ⟨w.heap.size, a, none⟩ (.int .u8 (48 + (q : Int) % 10))) HS.out
    rw [arn u k HJ.out (by rw [← aao u k q HQ.out]; exact hz)] at hcv
    have HBW := iv.mk (HW.out.setCell (p := ⟨w.heap.size, a, none⟩) (Nat.le_refl _) (.int .u8 (48 + (q : Int) % 10)))
    have hzz := Lib.hid hz
    clear hz
    go_wp2
    go_ret
    exact ⟨anx (by rw [aut _ (by omega)]; simp), HBW.out⟩
   ·have hz1 : ((q : Int) / 10 == 0) = false := by rw [beq_eq_false_iff_ne]; omega
    have HX := iv.mk (ah5 u k a q w wr hak HQ.out hq hz HJ.out HB.out HW.out)
    have hzz := Lib.hid hz
    clear hz
    go_wp2
    go_roundw
    case rel => exact HX.out
    case measure => simp [intOf]; omega
  ·exact absurd (HJ.out 20 (by omega) (by omega)) (by simp only [ne_eq, Decidable.not_not]; exact Nat.div_eq_of_lt (Nat.lt_trans HU2.out (by decide)))
theorem auw (n : Int) (w : World) (hn : -9223372036854775808 ≤ n ∧ n ≤ 9223372036854775807) :
  Calls Tryz.prog 183 #[.int .i64 n] w fun e w' => e = .returned (.string ⟨(Lib.itoa n).toArray⟩) ∧ Below w.heap.size w w' := by
 obtain ⟨u, h1, h2⟩ := ayc n hn
 by_cases h0 : n < 0
 ·exact auu n u w hn h1 h2 h0
 ·exact auv n u w hn h1 h2 h0
end Go.Proofs.YtmdimhcjogjcgaaGreatDoor.NT
namespace Go.Proofs.YtmdimhcjogjcgaaGreatDoor.Abs
def xl : List AV := [.str [97, 110, 121], .str [98, 111, 111, 108], .str [99, 111, 109, 112, 117, 116, 101, 100], .str [102, 97, 108, 115, 101], .str [105, 110, 116], .str [110, 111, 110, 101], .str [114, 101, 115, 111, 117, 114, 99, 101], .str [115, 116, 114, 105, 110, 103], .str [116, 114, 117, 101]]
def aap : List AV → Option AV
 | [.int .i64 n] => if -9223372036854775808 ≤ n ∧ n ≤ 9223372036854775807 then some (.str (Lib.itoa n)) else none
 | _ => none
def vt : List AV → Option AV
 | [.str s] => some (.bool (Nam.ek s))
 | _ => none
def apa : List AV → Option AV
 | [.str a, .str b] => some (.int .i64 (Lib.compareBytes a b))
 | _ => none
def jl : List AV → Option AV := fun _ => none
end Go.Proofs.YtmdimhcjogjcgaaGreatDoor.Abs
