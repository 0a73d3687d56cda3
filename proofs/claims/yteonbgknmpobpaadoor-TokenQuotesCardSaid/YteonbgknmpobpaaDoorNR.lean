/- The program's names: what Right tells. -/
import Derived.Test.YteonbgknmpobpaaDoorNW
namespace Go.Proofs.YteonbgknmpobpaaDoor.NR
open Go.RowKit Go.Proofs.YteonbgknmpobpaaDoorW.PrintWords Go.Proofs.YteonbgknmpobpaaDoorW.PrintLast Go.Proofs.YteonbgknmpobpaaDoorW.PrintMore
open Go.Proofs.YteonbgknmpobpaaDoor.NW
set_option linter.unusedVariables false

def okAt (l : List UInt8) (j : Nat) : Bool := match l[j]? with
  | some c => chB (decide (j = 0)) c.toNat
  | none => true
theorem tail_iff (l : List UInt8) : tailB l = true ↔ ∀ j, j < l.length → okAt (0 :: l) (j + 1) = true := by
  unfold tailB
  rw [List.all_eq_true]
  constructor
  · intro h j hj
    unfold okAt
    rw [List.getElem?_cons_succ, List.getElem?_eq_getElem hj]
    exact h _ (List.getElem_mem hj)
  · intro h c hc
    obtain ⟨j, hj, rfl⟩ := List.mem_iff_getElem.1 hc
    have := h j hj
    unfold okAt at this
    rw [List.getElem?_cons_succ, List.getElem?_eq_getElem hj] at this
    exact this
theorem body_iff (l : List UInt8) : bodyB l = true ↔ ∀ j, j < l.length → okAt l j = true := by
  cases l with
  | nil => simp [bodyB]
  | cons c r =>
    rw [bodyB, Bool.and_eq_true, tail_iff]
    constructor
    · rintro ⟨h1, h2⟩ j hj
      cases j with
      | zero => exact h1
      | succ j => have := h2 j (by rw [List.length_cons] at hj; omega); unfold okAt at this ⊢; rw [List.getElem?_cons_succ] at this ⊢; exact this
    · intro h
      refine ⟨h 0 (by simp), fun j hj => ?_⟩
      have := h (j + 1) (by rw [List.length_cons]; omega)
      unfold okAt at this ⊢
      rw [List.getElem?_cons_succ] at this ⊢
      exact this
theorem sizeL (s : B) : s.data.toList.length = s.size := by rw [Array.length_toList]; rfl
/-- The rune at a place tells of the byte there. -/
theorem rune_at (s : B) (pos : Nat) (h : pos < s.size) : okAt s.data.toList pos = chB (decide (pos = 0)) (Utf8.decode s pos).1 ∧ (okAt s.data.toList pos = true → (Utf8.decode s pos).2 = 1) ∧ 1 ≤ (Utf8.decode s pos).2 := by
  have hc : s.data.toList[pos]? = some (s[pos]'h) := by
    rw [Array.getElem?_toList, Array.getElem?_eq_getElem (h := h)]; rfl
  have ho : okAt s.data.toList pos = chB (decide (pos = 0)) (s[pos]'h).toNat := by unfold okAt; rw [hc]
  by_cases ha : (s[pos]'h).toNat < 128
  · rw [decode_ascii s pos h ha]
    exact ⟨ho, fun _ => rfl, Nat.le_refl _⟩
  · have hd := decode_high s pos h (by omega)
    have hf : ∀ (b : Bool) (n : Nat), 128 ≤ n → chB b n = false := by
      intro b n hn
      unfold chB smallB
      rw [decide_eq_false (by omega : ¬ n ≤ 122), decide_eq_false (by omega : ¬ n ≤ 57), beq_eq_false_iff_ne.2 (by omega : n ≠ 95)]
      simp
    rw [ho, hf _ _ hd.1, hf _ _ (by omega)]
    exact ⟨rfl, (fun e => by cases e), hd.2⟩
theorem right_no1 (s : B) (h : s.size = 0) : rightV s.data.toList = false := by
  unfold rightV
  rw [sizeL, decide_eq_false (by omega)]; rfl
theorem right_no2 (s : B) (h : 16 < s.size) : rightV s.data.toList = false := by
  unfold rightV
  rw [sizeL, decide_eq_false (by omega : ¬ s.size ≤ 16), Bool.and_false]; rfl
theorem right_no3 (s : B) (h : wordV s.toList ≠ 0) : rightV s.data.toList = false := by
  unfold rightV
  rw [Lib.toList_data] at h
  rw [beq_eq_false_iff_ne.2 h, Bool.and_false]; rfl
theorem right_no4 (s : B) (pos : Nat) (h : pos < s.size) (hf : okAt s.data.toList pos = false) : rightV s.data.toList = false := by
  unfold rightV
  have : bodyB s.data.toList = false := by
    rw [Bool.eq_false_iff]
    intro hb
    have := (body_iff _).1 hb pos (by rw [sizeL]; exact h)
    rw [hf] at this; cases this
  rw [this, Bool.and_false]
theorem right_yes (s : B) (h1 : 1 ≤ s.size) (h2 : s.size ≤ 16) (h3 : wordV s.toList = 0) (h4 : ∀ j, j < s.size → okAt s.data.toList j = true) : rightV s.data.toList = true := by
  unfold rightV
  rw [Lib.toList_data] at h3
  have hb : bodyB s.data.toList = true := (body_iff _).2 (fun j hj => h4 j (by rw [sizeL] at hj; exact hj))
  rw [sizeL, decide_eq_true h1, decide_eq_true h2, h3, hb]; rfl
theorem ret_b {a b : Bool} (h : a = b) : Ending.returned (.bool a) = .returned (.bool b) := by rw [h]
theorem iter_below (w : World) (s : B) (pos : Nat) : Below w.heap.size w (w.iter s pos) := below_alloc (Below.refl _ _) _
theorem size0 (s : B) (h : s.size = 0) : s.toList = [] := by rw [Lib.toList_data]; exact List.eq_nil_of_length_eq_zero (by rw [sizeL]; exact h)
theorem sizeN (s : B) (h : ¬ s.size = 0) : s.toList ≠ [] := by
  rw [Lib.toList_data]
  intro e
  exact h (by rw [← sizeL, e]; rfl)

set_option maxRecDepth 100000 in
set_option maxHeartbeats 2000000 in
theorem right_loop (s : B) (w : World) (hW : WordsAt w) (h1 : 1 ≤ s.size) (h2 : s.size ≤ 16) (h3 : wordV s.toList = 0) :
    Calls Tryd.prog 21 #[.string s] w fun e w' => e = .returned (.bool (rightV s.data.toList)) ∧ Below w.heap.size w w' := by
  have C1 := Lib.hid (word_any s w hW)
  have HY := Lib.hid (right_yes s h1 h2 h3)
  have H3 := Lib.hid h3
  have he : (s.toList == ([] : List UInt8)) = false := beq_eq_false_iff_ne.2 (sizeN s (by omega))
  have he2 : s.toList.isEmpty = false := by have := sizeN s (by omega); cases hh : s.toList with | nil => exact absurd hh this | cons a b => rfl
  clear h3
  go_enter Tryd.func21, Tryd.ntmps21
  go_wp2_with fail
  refine C1.out.mono ?_
  rintro e w1 ⟨rfl, rfl⟩
  rw [H3.out]
  go_wp2_with fail
  go_loopw [3] (fun v wr => ∃ pos : Nat, wr = w.iter s pos ∧ pos ≤ s.size ∧ Aside0 (∀ j, j < pos → okAt s.data.toList j = true)) (fun _ wr => s.size - wr.iterPos w.heap.size)
  case atStart => exact ⟨0, rfl, Nat.zero_le _, ⟨fun j hj => by omega⟩⟩
  case round =>
    obtain ⟨pos, rfl, hps, HP⟩ := hrel
    by_cases hp : pos < s.size
    · have hr := rune_at s pos hp
      have hnx := fun ty => run_next_any (P := Tryd.prog) w s pos ty hp
      have HF := Lib.hid (right_no4 s pos hp)
      generalize (Utf8.decode s pos).1 = n at hr hnx
      generalize (Utf8.decode s pos).2 = wd at hr hnx
      have HBel := Lib.hid (iter_below w s (pos + wd))
      obtain ⟨hr1, hr2, hr3⟩ := hr
      have HR1 := Lib.hid hr1
      have HR2 := Lib.hid hr2
      clear hr1 hr2
      by_cases hs : 97 ≤ n ∧ n ≤ 122
      · have C2 := Lib.hid fun w => small_yes n w hs
        have hok : okAt s.data.toList pos = true := by rw [HR1.out]; unfold chB smallB; rw [decide_eq_true hs.1, decide_eq_true hs.2]; rfl
        have hw1 : wd = 1 := HR2.out hok
        have HN : Aside0 (∀ j, j < pos + 1 → okAt s.data.toList j = true) := ⟨fun j hj => by
          by_cases e : j = pos
          · subst e; exact hok
          · exact HP.out j (by omega)⟩
        subst hw1
        clear hs hok
        go_wp2_with fail
        refine (C2.out _).mono ?_
        rintro e w1 ⟨rfl, rfl⟩
        go_wp2_with fail
        go_roundw
        case rel => exact ⟨pos + 1, rfl, by omega, HN⟩
        case measure => simp; omega
      · have C2 := Lib.hid fun w => small_no n w hs
        have hsm : smallB n = false := by
          unfold smallB
          rw [Bool.and_eq_false_iff, decide_eq_false_iff_not, decide_eq_false_iff_not]; omega
        by_cases h0 : pos = 0
        · have hok : okAt s.data.toList pos = false := by rw [HR1.out]; unfold chB; rw [hsm, decide_eq_true h0]; rfl
          have HV := Lib.hid (HF.out hok)
          have h01 : ((pos : Int) == 0) = true := by rw [beq_iff_eq]; omega
          clear hs h0 hok hsm
          go_wp2_with fail
          refine (C2.out _).mono ?_
          rintro e w1 ⟨rfl, rfl⟩
          go_wp2_with fail
          go_ret
          exact ⟨ret_b HV.out.symm, HBel.out⟩
        · have h01 : ((pos : Int) == 0) = false := by rw [beq_eq_false_iff_ne]; omega
          by_cases h95 : n = 95
          · subst h95
            have hok : okAt s.data.toList pos = true := by rw [HR1.out]; unfold chB; rw [hsm, decide_eq_false h0]; rfl
            have hw1 : wd = 1 := HR2.out hok
            have HN : Aside0 (∀ j, j < pos + 1 → okAt s.data.toList j = true) := ⟨fun j hj => by
              by_cases e : j = pos
              · subst e; exact hok
              · exact HP.out j (by omega)⟩
            subst hw1
            clear hs h0 hok hsm
            go_wp2_with fail
            refine (C2.out _).mono ?_
            rintro e w1 ⟨rfl, rfl⟩
            go_wp2_with fail
            go_roundw
            case rel => exact ⟨pos + 1, rfl, by omega, HN⟩
            case measure => simp; omega
          · have h951 : ((n : Int) != 95) = true := by rw [bne_iff_ne]; omega
            have h952 : (n == 95) = false := beq_eq_false_iff_ne.2 h95
            by_cases hd : 48 ≤ n ∧ n ≤ 57
            · have hok : okAt s.data.toList pos = true := by rw [HR1.out]; unfold chB; rw [hsm, decide_eq_false h0, decide_eq_true hd.1, decide_eq_true hd.2]; simp
              have hw1 : wd = 1 := HR2.out hok
              have HN : Aside0 (∀ j, j < pos + 1 → okAt s.data.toList j = true) := ⟨fun j hj => by
                by_cases e : j = pos
                · subst e; exact hok
                · exact HP.out j (by omega)⟩
              subst hw1
              have hd1 : decide ((n : Int) < 48) = false := decide_eq_false (by omega)
              have hd2 : decide ((57 : Int) < (n : Int)) = false := decide_eq_false (by omega)
              have hd3 := hd.1
              have hd4 := hd.2
              clear hs h0 hok hsm h95 hd h952
              go_wp2_with fail
              refine (C2.out _).mono ?_
              rintro e w1 ⟨rfl, rfl⟩
              go_wp2_with fail
              go_roundw
              case rel => exact ⟨pos + 1, rfl, by omega, HN⟩
              case measure => simp; omega
            · have hok : okAt s.data.toList pos = false := by
                rw [HR1.out]; unfold chB; rw [hsm, h952, Bool.false_or, Bool.false_or]
                rw [Bool.and_eq_false_iff, Bool.and_eq_false_iff, decide_eq_false_iff_not, decide_eq_false_iff_not]
                exact .inr (by omega)
              have HV := Lib.hid (HF.out hok)
              by_cases hlo : n < 48
              · have hd1 : decide ((n : Int) < 48) = true := decide_eq_true (by omega)
                clear hs h0 hok hsm h95 hd h952
                go_wp2_with fail
                refine (C2.out _).mono ?_
                rintro e w1 ⟨rfl, rfl⟩
                go_wp2_with fail
                go_ret
                exact ⟨ret_b HV.out.symm, HBel.out⟩
              · have hd1 : decide ((n : Int) < 48) = false := decide_eq_false (by omega)
                have hhi : 57 < n := by omega
                have hd2 : decide ((57 : Int) < (n : Int)) = true := decide_eq_true (by omega)
                clear hs h0 hok hsm h95 hd h952
                go_wp2_with fail
                refine (C2.out _).mono ?_
                rintro e w1 ⟨rfl, rfl⟩
                go_wp2_with fail
                go_ret
                exact ⟨ret_b HV.out.symm, HBel.out⟩
    · have hpe : pos = s.size := by omega
      have hnx := fun ty => run_next_end (P := Tryd.prog) w s pos ty hp
      have HV := Lib.hid (HY.out (fun j hj => HP.out j (by omega)))
      have HBel := Lib.hid (iter_below w s pos)
      have HPE := Lib.hid hpe
      clear hpe
      go_wp2_with fail
      go_ret
      exact ⟨ret_b HV.out.symm, HBel.out⟩

set_option maxHeartbeats 1000000 in
theorem right_any (s : B) (w : World) (hW : WordsAt w) :
    Calls Tryd.prog 21 #[.string s] w fun e w' => e = .returned (.bool (rightV s.data.toList)) ∧ Below w.heap.size w w' := by
  by_cases h0 : s.size = 0
  · have HV := Lib.hid (right_no1 s h0)
    have he : (s.toList == ([] : List UInt8)) = true := beq_iff_eq.2 (size0 s h0)
    have he2 : s.toList.isEmpty = true := by rw [size0 s h0]; rfl
    have he3 : s.toList = [] := size0 s h0
    clear h0
    go_enter Tryd.func21, Tryd.ntmps21
    go_wp2_with fail
    go_ret
    exact ⟨ret_b HV.out.symm, Below.refl _ _⟩
  · by_cases h16 : 16 < s.size
    · have HV := Lib.hid (right_no2 s h16)
      have he : (s.toList == ([] : List UInt8)) = false := beq_eq_false_iff_ne.2 (sizeN s h0)
      have he2 : s.toList.isEmpty = false := by have := sizeN s h0; cases hh : s.toList with | nil => exact absurd hh this | cons a b => rfl
      clear h0
      go_enter Tryd.func21, Tryd.ntmps21
      go_wp2_with fail
      go_ret
      exact ⟨ret_b HV.out.symm, Below.refl _ _⟩
    · by_cases h3 : wordV s.toList = 0
      · exact right_loop s w hW (by omega) (by omega) h3
      · have HV := Lib.hid (right_no3 s h3)
        have C1 := Lib.hid (word_any s w hW)
        have he : (s.toList == ([] : List UInt8)) = false := beq_eq_false_iff_ne.2 (sizeN s h0)
        have he2 : s.toList.isEmpty = false := by have := sizeN s h0; cases hh : s.toList with | nil => exact absurd hh this | cons a b => rfl
        have h31 : (wordV s.toList != 0) = true := bne_iff_ne.2 h3
        have h16' : s.size ≤ 16 := by omega
        generalize wordV s.toList = wv at C1 h31
        clear h0 h16 h3
        go_enter Tryd.func21, Tryd.ntmps21
        go_wp2_with fail
        refine C1.out.mono ?_
        rintro e w1 ⟨rfl, rfl⟩
        go_wp2_with fail
        go_ret
        exact ⟨ret_b HV.out.symm, Below.refl _ _⟩
end Go.Proofs.YteonbgknmpobpaaDoor.NR
