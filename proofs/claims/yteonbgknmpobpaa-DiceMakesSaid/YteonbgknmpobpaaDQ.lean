/- The program's die, further: declarations and lines. -/
import Derived.Test.YteonbgknmpobpaaDP
namespace Go.Proofs.Yteonbgknmpobpaa.DQ
open Go.RowKit Go.Proofs.YteonbgknmpobpaaW.PrintWords Go.Proofs.YteonbgknmpobpaaW.PrintLast Go.Proofs.YteonbgknmpobpaaW.PrintMore
open Go.Proofs.Yteonbgknmpobpaa.Dice Go.Proofs.Yteonbgknmpobpaa.NT Go.Proofs.Yteonbgknmpobpaa.Txt Go.Proofs.Yteonbgknmpobpaa.DT Go.Proofs.Yteonbgknmpobpaa.DP
open Go.Proofs.Yteonbgknmpobpaa.PDiceRolls
set_option linter.unusedVariables false

set_option maxHeartbeats 1000000 in
theorem decl_d (w0 w : World) (g : Nat) (s : Int) (n : B) (hn : n.size ≤ 1) (h : Dst w0 w w g s) :
    Calls Try.prog 41 #[.pointer (some ⟨g, 0, none⟩), .string n] w fun e w' => e = .returned (.string (declV s n).2) ∧ Dst w0 w w' g (declV s n).1 := by
  have C1 := Lib.hid (part_d w0 w g s h)
  have hp : (partV s).2.size ≤ 60 := partK_sz _ _
  show Calls Try.prog 41 #[.pointer (some ⟨g, 0, none⟩), .string n] w fun e w' => e = .returned (.string (declK (uptoV (partV s).1 3) n (partV s).2)) ∧ Dst w0 w w' g (uptoS (partV s).1 3)
  generalize (partV s).2 = p at C1 hp
  generalize (partV s).1 = t at C1
  have C2 := Lib.hid fun w1 (h : Dst w0 w1 w1 g t) => upto_d w0 w1 g t 3 h (by omega) (by omega)
  generalize uptoS t 3 = u at C2
  generalize uptoV t 3 = k at C2
  clear h
  by_cases hk : k = 0
  · have HK : Hid (declK k n p = n ++ ⟨#[58, 32]⟩ ++ p ++ ⟨#[59]⟩) := by unfold declK; rw [if_pos hk]; exact rfl
    have hk1 : (k == 0) = true := beq_iff_eq.mpr hk
    clear hk
    go_enter Try.func41, Try.ntmps41
    go_wp2_with fail
    refine C1.out.mono ?_
    rintro e w1 ⟨rfl, hD⟩
    have HD := Lib.hid hD
    clear hD
    go_wp2_with fail
    refine (C2.out _ HD.out.self).mono ?_
    rintro e w2 ⟨rfl, hD⟩
    have HD2 := Lib.hid (HD.out.trans hD)
    clear hD
    go_wp2_with fail
    go_ret
    exact ⟨by rw [HK.out]; rfl, HD2.out⟩
  · have HK : Hid (declK k n p = ⟨#[114, 101, 115, 111, 117, 114, 99, 101, 32]⟩ ++ n ++ ⟨#[58, 32, 123, 110, 58, 32]⟩ ++ p ++ ⟨#[59, 125, 59]⟩) := by unfold declK; rw [if_neg hk]; exact rfl
    have hk1 : (k == 0) = false := beq_eq_false_iff_ne.mpr hk
    clear hk
    go_enter Try.func41, Try.ntmps41
    go_wp2_with fail
    refine C1.out.mono ?_
    rintro e w1 ⟨rfl, hD⟩
    have HD := Lib.hid hD
    clear hD
    go_wp2_with fail
    refine (C2.out _ HD.out.self).mono ?_
    rintro e w2 ⟨rfl, hD⟩
    have HD2 := Lib.hid (HD.out.trans hD)
    clear hD
    go_wp2_with fail
    go_ret
    exact ⟨by rw [HK.out]; rfl, HD2.out⟩
set_option maxHeartbeats 1000000 in
theorem edit_d (w0 w : World) (g : Nat) (s : Int) (h : Dst w0 w w g s) :
    Calls Try.prog 34 #[.pointer (some ⟨g, 0, none⟩)] w fun e w' => e = .returned (.string (editV s).2) ∧ Dst w0 w w' g (editV s).1 := by
  have C1 := Lib.hid (upto_d w0 w g s 2 h (by omega) (by omega))
  unfold editV editK
  generalize uptoS s 2 = u at C1
  generalize uptoV s 2 = c at C1
  clear h
  by_cases hc : c = 1
  · have d1 := decl_sz u ⟨#[99]⟩ (by decide)
    have d2 := decl_sz (declV u ⟨#[99]⟩).1 ⟨#[100]⟩ (by decide)
    have C3 := Lib.hid fun w1 (h : Dst w0 w1 w1 g u) => decl_d w0 w1 g u ⟨#[99]⟩ (by decide) h
    have C4 := Lib.hid fun w1 (h : Dst w0 w1 w1 g (declV u ⟨#[99]⟩).1) => decl_d w0 w1 g (declV u ⟨#[99]⟩).1 ⟨#[100]⟩ (by decide) h
    rw [if_pos hc]
    generalize declV (declV u ⟨#[99]⟩).1 ⟨#[100]⟩ = y at d2 C4
    generalize declV u ⟨#[99]⟩ = x at d1 C3 C4
    have hc1 : (c == 1) = true := beq_iff_eq.mpr hc
    clear hc
    go_enter Try.func34, Try.ntmps34
    go_wp2_with fail
    refine C1.out.mono ?_
    rintro e w1 ⟨rfl, hD⟩
    have HD := Lib.hid hD
    clear hD
    go_wp2_with fail
    refine (C3.out _ HD.out.self).mono ?_
    rintro e w2 ⟨rfl, hD⟩
    have HD2 := Lib.hid (HD.out.trans hD)
    clear hD
    go_wp2_with fail
    refine (C4.out _ HD2.out.self).mono ?_
    rintro e w3 ⟨rfl, hD⟩
    have HD3 := Lib.hid (HD2.out.trans hD)
    clear hD
    go_wp2_with fail
    go_ret
    exact ⟨rfl, HD3.out⟩
  · have d1 := decl_sz u ⟨#[97]⟩ (by decide)
    have d2 := decl_sz (declV u ⟨#[97]⟩).1 ⟨#[98]⟩ (by decide)
    have C3 := Lib.hid fun w1 (h : Dst w0 w1 w1 g u) => decl_d w0 w1 g u ⟨#[97]⟩ (by decide) h
    have C4 := Lib.hid fun w1 (h : Dst w0 w1 w1 g (declV u ⟨#[97]⟩).1) => decl_d w0 w1 g (declV u ⟨#[97]⟩).1 ⟨#[98]⟩ (by decide) h
    rw [if_neg hc]
    generalize declV (declV u ⟨#[97]⟩).1 ⟨#[98]⟩ = y at d2 C4
    generalize declV u ⟨#[97]⟩ = x at d1 C3 C4
    have hc1 : (c == 1) = false := beq_eq_false_iff_ne.mpr hc
    clear hc
    go_enter Try.func34, Try.ntmps34
    go_wp2_with fail
    refine C1.out.mono ?_
    rintro e w1 ⟨rfl, hD⟩
    have HD := Lib.hid hD
    clear hD
    go_wp2_with fail
    refine (C3.out _ HD.out.self).mono ?_
    rintro e w2 ⟨rfl, hD⟩
    have HD2 := Lib.hid (HD.out.trans hD)
    clear hD
    go_wp2_with fail
    refine (C4.out _ HD2.out.self).mono ?_
    rintro e w3 ⟨rfl, hD⟩
    have HD3 := Lib.hid (HD2.out.trans hD)
    clear hD
    go_wp2_with fail
    go_ret
    exact ⟨rfl, HD3.out⟩
set_option maxHeartbeats 400000 in
theorem run_d (w0 w : World) (g : Nat) (s : Int) (h : Dst w0 w w g s) :
    Calls Try.prog 35 #[.pointer (some ⟨g, 0, none⟩)] w fun e w' => e = .returned (.string ⟨#[114, 117, 110]⟩) ∧ Dst w0 w w' g s := by
  have H := Lib.hid h
  clear h
  go_enter Try.func35, Try.ntmps35
  go_wp2_with fail
  go_ret
  exact ⟨rfl, H.out⟩
set_option maxHeartbeats 400000 in
theorem apply_d (w0 w : World) (g : Nat) (s : Int) (h : Dst w0 w w g s) :
    Calls Try.prog 36 #[.pointer (some ⟨g, 0, none⟩)] w fun e w' => e = .returned (.string (applyV s).2) ∧ Dst w0 w w' g (applyV s).1 := by
  have C1 := Lib.hid (digit_d w0 w g s 10 h (by omega) (by omega))
  have d1 := digit_sz s 10 (by omega) (by omega)
  unfold applyV
  generalize uptoS s 10 = u at C1
  generalize digitT s 10 = x at C1 d1
  clear h
  go_enter Try.func36, Try.ntmps36
  go_wp2_with fail
  refine C1.out.mono ?_
  rintro e w1 ⟨rfl, hD⟩
  have HD := Lib.hid hD
  clear hD
  go_wp2_with fail
  go_ret
  exact ⟨rfl, HD.out⟩
set_option maxHeartbeats 400000 in
theorem wake_d (w0 w : World) (g : Nat) (s : Int) (h : Dst w0 w w g s) :
    Calls Try.prog 38 #[.pointer (some ⟨g, 0, none⟩)] w fun e w' => e = .returned (.string (wakeV s).2) ∧ Dst w0 w w' g (wakeV s).1 := by
  have C1 := Lib.hid (digit_d w0 w g s 100 h (by omega) (by omega))
  have d1 := digit_sz s 100 (by omega) (by omega)
  unfold wakeV
  generalize uptoS s 100 = u at C1
  generalize digitT s 100 = x at C1 d1
  clear h
  go_enter Try.func38, Try.ntmps38
  go_wp2_with fail
  refine C1.out.mono ?_
  rintro e w1 ⟨rfl, hD⟩
  have HD := Lib.hid hD
  clear hD
  go_wp2_with fail
  go_ret
  exact ⟨rfl, HD.out⟩
set_option maxHeartbeats 400000 in
theorem fuse_d (w0 w : World) (g : Nat) (s : Int) (h : Dst w0 w w g s) :
    Calls Try.prog 37 #[.pointer (some ⟨g, 0, none⟩)] w fun e w' => e = .returned (.string (fuseV s).2) ∧ Dst w0 w w' g (fuseV s).1 := by
  have C1 := Lib.hid (digit_d w0 w g s 6 h (by omega) (by omega))
  have C2 := Lib.hid fun w1 (h : Dst w0 w1 w1 g (uptoS s 6)) => digit_d w0 w1 g (uptoS s 6) 80 h (by omega) (by omega)
  have d1 := digit_sz s 6 (by omega) (by omega)
  have d2 := digit_sz (uptoS s 6) 80 (by omega) (by omega)
  unfold fuseV
  generalize uptoS (uptoS s 6) 80 = u2 at C2
  generalize digitT (uptoS s 6) 80 = x2 at C2 d2
  generalize uptoS s 6 = u at C1 C2
  generalize digitT s 6 = x at C1 d1
  clear h
  go_enter Try.func37, Try.ntmps37
  go_wp2_with fail
  refine C1.out.mono ?_
  rintro e w1 ⟨rfl, hD⟩
  have HD := Lib.hid hD
  clear hD
  go_wp2_with fail
  refine (C2.out _ HD.out.self).mono ?_
  rintro e w2 ⟨rfl, hD⟩
  have HD2 := Lib.hid (HD.out.trans hD)
  clear hD
  go_wp2_with fail
  go_ret
  exact ⟨rfl, HD2.out⟩
end Go.Proofs.Yteonbgknmpobpaa.DQ
