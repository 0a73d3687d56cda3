/- The program's die: what each of its methods tells, what it leaves of the state, and that all else is kept. -/
import Derived.Test.YteonbgknmpobpaaDT
namespace Go.Proofs.Yteonbgknmpobpaa.DP
open Go.RowKit Go.Proofs.YteonbgknmpobpaaW.PrintWords Go.Proofs.YteonbgknmpobpaaW.PrintLast Go.Proofs.YteonbgknmpobpaaW.PrintMore
open Go.Proofs.Yteonbgknmpobpaa.Dice Go.Proofs.Yteonbgknmpobpaa.NT Go.Proofs.Yteonbgknmpobpaa.Txt Go.Proofs.Yteonbgknmpobpaa.DT
open Go.Proofs.Yteonbgknmpobpaa.PDiceRolls
set_option linter.unusedVariables false

/-- The state at block g is s in w', and from w on nothing else that was there has changed. -/
structure Dst (w0 w w' : World) (g : Nat) (s : Int) : Prop where
  st : IsS52 w0 w' g s
  bel : Below w0.heap.size w0 w'
  keep : KeepBut w w' g none
theorem Dst.self {w0 w w' : World} {g : Nat} {s : Int} (h : Dst w0 w w' g s) : Dst w0 w' w' g s := ⟨h.st, h.bel, KeepBut.refl _ _ _⟩
theorem Dst.trans {w0 w w1 w2 : World} {g : Nat} {s s2 : Int} (h : Dst w0 w w1 g s) (k : Dst w0 w1 w2 g s2) : Dst w0 w w2 g s2 := ⟨k.st, k.bel, h.keep.trans k.keep (.inl rfl)⟩
theorem Dst.below {w0 w w1 w2 : World} {g : Nat} {s : Int} (h : Dst w0 w w1 g s) (hB : Below w1.heap.size w1 w2) : Dst w0 w w2 g s :=
  ⟨h.st.below hB, below_then h.bel h.bel.size hB, h.keep.trans (KeepBut.of_below hB g none) (.inl rfl)⟩
theorem Dst.alloc {w0 w w1 : World} {g : Nat} {s : Int} (h : Dst w0 w w1 g s) (o : Obj) : Dst w0 w (w1.alloc o) g s := h.below (below_alloc (Below.refl _ _) o)
theorem Dst.set {w0 w w1 : World} {g : Nat} {s : Int} (h : Dst w0 w w1 g s) (s2 : Int) : Dst w0 w (w1.setCell ⟨g, 0, none⟩ (.int .u64 s2)) g s2 :=
  ⟨h.st.set_0 s2, h.bel.setCell (p := ⟨g, 0, none⟩) h.st.2 _, h.keep.set_ 0 _⟩
theorem Dst.draw {w0 w w1 : World} {g : Nat} {s : Int} (h : Dst w0 w w1 g s) (n : Nat) : Dst w0 w (w1.drewN n) g s := ⟨h.st.drewN n, pw_below_drewN h.bel n, keep_drewN h.keep n⟩

set_option maxHeartbeats 400000 in
theorem roll_d (w0 w : World) (g : Nat) (s : Int) (h : Dst w0 w w g s) :
    Calls Try.prog 12 #[.pointer (some ⟨g, 0, none⟩)] w fun e w' => e = .returned (.int .u64 (rollV s)) ∧ Dst w0 w w' g (rollS s) := by
  have HS := Lib.hid (h.set (rollS s))
  have hb := h.st.1
  have hc := cellS52_0 hb
  have hf : w.frozen? ⟨g, 0, none⟩ = false := by simp [World.frozen?, hb]
  clear h hb
  go_enter Try.func12, Try.ntmps12
  go_wp2
  go_ret
  exact ⟨rfl, HS.out⟩
set_option maxHeartbeats 400000 in
theorem upto_d (w0 w : World) (g : Nat) (s n : Int) (h : Dst w0 w w g s) (h1 : 1 ≤ n) (h2 : n ≤ 1000) :
    Calls Try.prog 14 #[.pointer (some ⟨g, 0, none⟩), .int .i64 n] w fun e w' => e = .returned (.int .i64 (uptoV s n)) ∧ Dst w0 w w' g (uptoS s n) := by
  have HV : Hid (uptoV s n = wrap64 (Int.tmod (rollV s) (IntKind.u64.wrap n))) := by unfold uptoV; rw [if_neg (by omega)]; exact rfl
  have HS : Hid (uptoS s n = rollS s) := by unfold uptoS; rw [if_neg (by omega)]; exact rfl
  have H := Lib.hid h
  have hz' : ¬ IntKind.u64.wrap n = 0 := by rw [IntWalk.u64_in n (by omega)]; omega
  have e : IntKind.u64.wrap n = n := IntWalk.u64_in n (by omega)
  rw [e] at hz'
  have HE := Lib.hid e
  have hz2 : (n == 0) = false := beq_eq_false_iff_ne.mpr hz'
  clear h e hz'
  go_enter Try.func14, Try.ntmps14
  go_wp2_with fail
  refine (roll_d w0 _ g s H.out).mono ?_
  rintro e w' ⟨rfl, hD⟩
  have HD := Lib.hid hD
  clear hD
  go_wp2_with fail
  go_ret
  exact ⟨ret_i64 (by rw [HV.out, HE.out]), by rw [HS.out]; exact HD.out⟩
set_option maxHeartbeats 400000 in
theorem digit_d (w0 w : World) (g : Nat) (s n : Int) (h : Dst w0 w w g s) (h1 : 1 ≤ n) (h2 : n ≤ 1000) :
    Calls Try.prog 42 #[.pointer (some ⟨g, 0, none⟩), .int .i64 n] w fun e w' => e = .returned (.string (digitT s n)) ∧ Dst w0 w w' g (uptoS s n) := by
  have H := Lib.hid h
  clear h
  go_enter Try.func42, Try.ntmps42
  go_wp2_with fail
  refine (upto_d w0 _ g s n H.out h1 h2).mono ?_
  rintro e w1 ⟨rfl, hD⟩
  have HD := Lib.hid hD
  clear hD
  go_wp2_with fail
  refine (text_any _ _ (upto_bd s n h1 h2)).mono ?_
  rintro e w2 ⟨rfl, hB⟩
  have HD2 := Lib.hid (HD.out.below hB)
  clear hB
  go_wp2_with fail
  go_ret
  exact ⟨rfl, HD2.out⟩
theorem cell_of_blk {w : World} {B : Nat} {cs : Array Value} {t : TypeId} (h : w.heap[B]? = some (.cells cs t (0, 0))) (i : Nat) {v : Value} (hv : cs[i]? = some v) : w.cell? ⟨B, i, none⟩ = some v := by
  rw [blk_cell h]; exact hv
set_option maxHeartbeats 400000 in
theorem name_d (w0 w : World) (g : Nat) (s : Int) (h : Dst w0 w w g s) :
    Calls Try.prog 52 #[.pointer (some ⟨g, 0, none⟩)] w fun e w' => e = .returned (.string (nameT s)) ∧ Dst w0 w w' g (uptoS s 4) := by
  have hr := upto_range s 4 (by omega) (by omega)
  have hgl := h.st.lt
  have H := Lib.hid fun o => upto_d w0 (w.alloc o) g s 4 (h.alloc o).self (by omega) (by omega)
  have HA := Lib.hid fun o => h.alloc o
  unfold nameT
  generalize uptoS s 4 = t at H
  generalize uptoV s 4 = k at hr H
  clear h
  go_enter Try.func52, Try.ntmps52
  go_wp2_with fail
  refine (H.out _).mono ?_
  rintro e w1 ⟨rfl, hD⟩
  have HD := Lib.hid ((HA.out _).trans hD)
  have hblk := hD.keep.blk (heap_alloc_new w _) (by omega) (by simp)
  have hc0 := cell_of_blk hblk 0 rfl
  have hc1 := cell_of_blk hblk 1 rfl
  have hc2 := cell_of_blk hblk 2 rfl
  have hc3 := cell_of_blk hblk 3 rfl
  clear hD hblk
  rcases (by omega : k = 0 ∨ k = 1 ∨ k = 2 ∨ k = 3) with rfl | rfl | rfl | rfl
  all_goals
    go_wp2_with fail
    go_ret
    exact ⟨rfl, HD.out⟩
theorem ret_s {a b : B} (h : a = b) : Ending.returned (.string a) = .returned (.string b) := by rw [h]
theorem partK_ret (k t : Int) (x : B) (y : Int) (h : partK k t = (y, x)) : Ending.returned (.string x) = .returned (.string (partK k t).2) ∧ (partK k t).1 = y := by rw [h]; exact ⟨rfl, rfl⟩
theorem partK_0 (t : Int) : partK 0 t = (uptoS t 10, digitT t 10) := by unfold partK; rw [if_pos rfl]
theorem partK_1 (t : Int) : partK 1 t = (uptoS t 4, nameT t) := by unfold partK; rw [if_neg (by omega), if_pos rfl]
theorem partK_2 (t : Int) : partK 2 t = (t, ⟨#[99, 111, 109, 112, 117, 116, 101, 100, 32, 38, 32, 105, 110, 116]⟩) := by unfold partK; rw [if_neg (by omega), if_neg (by omega), if_pos rfl]
theorem partK_3 (t : Int) : partK 3 t = (t, ⟨#[49, 32, 124, 32, 50]⟩) := by unfold partK; rw [if_neg (by omega), if_neg (by omega), if_neg (by omega), if_pos rfl]
theorem partK_4 (t : Int) : partK 4 t = (uptoS t 4, nameT t ++ ⟨#[46, 110]⟩) := by unfold partK; rw [if_neg (by omega), if_neg (by omega), if_neg (by omega), if_neg (by omega), if_pos rfl]
theorem partK_5 (t : Int) : partK 5 t = (uptoS (uptoS t 10) 10, digitT t 10 ++ ⟨#[32, 43, 32]⟩ ++ digitT (uptoS t 10) 10) := by unfold partK; rw [if_neg (by omega), if_neg (by omega), if_neg (by omega), if_neg (by omega), if_neg (by omega)]
set_option maxHeartbeats 1000000 in
theorem part_d (w0 w : World) (g : Nat) (s : Int) (h : Dst w0 w w g s) :
    Calls Try.prog 48 #[.pointer (some ⟨g, 0, none⟩)] w fun e w' => e = .returned (.string (partV s).2) ∧ Dst w0 w w' g (partV s).1 := by
  have hr := upto_range s 6 (by omega) (by omega)
  have C1 := Lib.hid (upto_d w0 w g s 6 h (by omega) (by omega))
  have d3 : ∀ t, (nameT t).size = 1 := fun t => nm_sz _
  unfold partV
  generalize uptoS s 6 = t at C1
  generalize uptoV s 6 = k at hr C1
  have d1 := digit_sz t 10 (by omega) (by omega)
  have d2 := digit_sz (uptoS t 10) 10 (by omega) (by omega)
  have d4 := d3 t
  clear h d3
  rcases (by omega : k = 0 ∨ k = 1 ∨ k = 2 ∨ k = 3 ∨ k = 4 ∨ k = 5) with rfl | rfl | rfl | rfl | rfl | rfl
  · rw [partK_0]
    have C2 := Lib.hid fun w1 (h : Dst w0 w1 w1 g t) => digit_d w0 w1 g t 10 h (by omega) (by omega)
    show Calls Try.prog 48 #[.pointer (some ⟨g, 0, none⟩)] w fun e w' => e = .returned (.string (digitT t 10)) ∧ Dst w0 w w' g (uptoS t 10)
    generalize uptoS t 10 = u at C2
    generalize digitT t 10 = x at C2
    go_enter Try.func48, Try.ntmps48
    go_wp2_with fail
    refine C1.out.mono ?_
    rintro e w1 ⟨rfl, hD⟩
    have HD := Lib.hid hD
    clear hD
    go_wp2_with fail
    refine (C2.out _ HD.out.self).mono ?_
    rintro e w2 ⟨rfl, hD⟩
    have HD2 := Lib.hid (HD.out.trans hD)
    clear hD
    go_wp2_with fail
    go_ret
    exact ⟨rfl, HD2.out⟩
  · rw [partK_1]
    have C2 := Lib.hid fun w1 (h : Dst w0 w1 w1 g t) => name_d w0 w1 g t h
    show Calls Try.prog 48 #[.pointer (some ⟨g, 0, none⟩)] w fun e w' => e = .returned (.string (nameT t)) ∧ Dst w0 w w' g (uptoS t 4)
    generalize uptoS t 4 = u at C2
    generalize nameT t = x at C2
    go_enter Try.func48, Try.ntmps48
    go_wp2_with fail
    refine C1.out.mono ?_
    rintro e w1 ⟨rfl, hD⟩
    have HD := Lib.hid hD
    clear hD
    go_wp2_with fail
    refine (C2.out _ HD.out.self).mono ?_
    rintro e w2 ⟨rfl, hD⟩
    have HD2 := Lib.hid (HD.out.trans hD)
    clear hD
    go_wp2_with fail
    go_ret
    exact ⟨rfl, HD2.out⟩
  · rw [partK_2]
    go_enter Try.func48, Try.ntmps48
    go_wp2_with fail
    refine C1.out.mono ?_
    rintro e w1 ⟨rfl, hD⟩
    have HD := Lib.hid hD
    clear hD
    go_wp2_with fail
    go_ret
    exact ⟨rfl, HD.out⟩
  · rw [partK_3]
    go_enter Try.func48, Try.ntmps48
    go_wp2_with fail
    refine C1.out.mono ?_
    rintro e w1 ⟨rfl, hD⟩
    have HD := Lib.hid hD
    clear hD
    go_wp2_with fail
    go_ret
    exact ⟨rfl, HD.out⟩
  · rw [partK_4]
    have C2 := Lib.hid fun w1 (h : Dst w0 w1 w1 g t) => name_d w0 w1 g t h
    show Calls Try.prog 48 #[.pointer (some ⟨g, 0, none⟩)] w fun e w' => e = .returned (.string (nameT t ++ ⟨#[46, 110]⟩)) ∧ Dst w0 w w' g (uptoS t 4)
    generalize uptoS t 4 = u at C2
    generalize nameT t = x at C2 d4
    have hs : ¬ 9223372036854775807 < x.size + 2 := by omega
    clear d4
    go_enter Try.func48, Try.ntmps48
    go_wp2_with fail
    refine C1.out.mono ?_
    rintro e w1 ⟨rfl, hD⟩
    have HD := Lib.hid hD
    clear hD
    go_wp2_with fail
    refine (C2.out _ HD.out.self).mono ?_
    rintro e w2 ⟨rfl, hD⟩
    have HD2 := Lib.hid (HD.out.trans hD)
    clear hD
    go_wp2_with fail
    go_ret
    exact ⟨rfl, HD2.out⟩
  · rw [partK_5]
    have C2 := Lib.hid fun w1 (h : Dst w0 w1 w1 g t) => digit_d w0 w1 g t 10 h (by omega) (by omega)
    have C3 := Lib.hid fun w1 (h : Dst w0 w1 w1 g (uptoS t 10)) => digit_d w0 w1 g (uptoS t 10) 10 h (by omega) (by omega)
    show Calls Try.prog 48 #[.pointer (some ⟨g, 0, none⟩)] w fun e w' => e = .returned (.string (digitT t 10 ++ ⟨#[32, 43, 32]⟩ ++ digitT (uptoS t 10) 10)) ∧ Dst w0 w w' g (uptoS (uptoS t 10) 10)
    generalize uptoS (uptoS t 10) 10 = u2 at C3
    generalize digitT (uptoS t 10) 10 = x2 at C3 d2
    generalize uptoS t 10 = u at C2 C3
    generalize digitT t 10 = x at C2 d1
    go_enter Try.func48, Try.ntmps48
    go_wp2_with fail
    refine C1.out.mono ?_
    rintro e w1 ⟨rfl, hD⟩
    have HD := Lib.hid hD
    clear hD
    go_wp2_with fail
    refine (C2.out _ HD.out.self).mono ?_
    rintro e w2 ⟨rfl, hD⟩
    have HD2 := Lib.hid (HD.out.trans hD)
    clear hD
    go_wp2_with fail
    refine (C3.out _ HD2.out.self).mono ?_
    rintro e w3 ⟨rfl, hD⟩
    have HD3 := Lib.hid (HD2.out.trans hD)
    clear hD
    go_wp2_with fail
    go_ret
    exact ⟨rfl, HD3.out⟩
end Go.Proofs.Yteonbgknmpobpaa.DP
