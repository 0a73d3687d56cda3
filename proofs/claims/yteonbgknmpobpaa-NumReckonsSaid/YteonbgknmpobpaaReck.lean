/- The walk of NumReckons. -/
import Derived.Test.YteonbgknmpobpaaMul
namespace Go.Proofs.Yteonbgknmpobpaa.Reck
open Go.RowKit Go.Proofs.YteonbgknmpobpaaW.PrintWords Go.Proofs.YteonbgknmpobpaaW.PrintLast Go.Proofs.YteonbgknmpobpaaW.PrintMore
open Go.Proofs.Yteonbgknmpobpaa.Num Go.Proofs.Yteonbgknmpobpaa.NT Go.Proofs.Yteonbgknmpobpaa.Txt Go.Proofs.Yteonbgknmpobpaa.Back Go.Proofs.Yteonbgknmpobpaa.BackWalk Go.Proofs.Yteonbgknmpobpaa.Mul
set_option linter.unusedVariables false
theorem sub_of {a b : Int} {r : Int × Int} {w : World} (e : subV a b = r) : Calls Try.prog 22 #[.int .i64 a, .int .i64 b] w fun e w' => e = .returned (.tuple #[.int .i64 r.1, .int .i64 r.2]) ∧ Drawn0 w w' := by
  subst e; exact sub_any a b w

set_option maxHeartbeats 2000000 in
theorem walk (a0 a1 : Int) (w : World) (w0 : (Lit.int .i64 a0).wf = true) (w1 : (Lit.int .i64 a1).wf = true) :
    Calls Try.prog 7 #[.int .i64 a0, .int .i64 a1] w fun e w' => e = .returned (.bool true) ∧ Below w.heap.size w w' := by
  have c1 := fun w => add_any a0 a1 w
  have c2 := fun w => refAdd_any a0 a1 w
  have c3 := fun w => mul_any a0 a1 w
  have c4 := fun w => refMul_any a0 a1 w
  generalize addV a0 a1 = v1 at c1 c2
  generalize mulV a0 a1 = v2 at c3 c4
  obtain ⟨x1, f1⟩ := v1
  obtain ⟨x2, f2⟩ := v2
  simp only at c1 c2 c3 c4
  have C1 := Lib.hid c1
  have C2 := Lib.hid c2
  have C3 := Lib.hid c3
  have C4 := Lib.hid c4
  clear c1 c2 c3 c4 w0 w1
  by_cases ha : inB a0 = true
  · have ba := in_iff.1 ha
    have C6 := Lib.hid fun w => bool_of (in_any a0 w) ha
    have C7 := Lib.hid fun w => bool_of (refIn_any a0 w) ha
    by_cases hb : inB a1 = true
    · have bb := in_iff.1 hb
      have C8 := Lib.hid fun w => bool_of (refIn_any a1 w) hb
      by_cases hs : inB (a0 - a1) = true
      · have C9 := Lib.hid fun w => bool_of (refIn_any (a0 - a1) w) hs
        have C5 := Lib.hid fun w => sub_of (w := w) (r := (a0 - a1, 0)) (show subV a0 a1 = _ by unfold subV; rw [ha, hb, hs]; rfl)
        clear ha hb hs
        go_enter Try.func7, Try.ntmps7
        go_wp2_with fail
        refine (C1.out _).mono ?_
        rintro e w1 ⟨rfl, ⟨n1, rfl⟩⟩
        go_wp2_with fail
        refine (C2.out _).mono ?_
        rintro e w1 ⟨rfl, ⟨n2, rfl⟩⟩
        go_wp2_with fail
        refine (C3.out _).mono ?_
        rintro e w1 ⟨rfl, ⟨n3, rfl⟩⟩
        go_wp2_with fail
        refine (C4.out _).mono ?_
        rintro e w1 ⟨rfl, ⟨n4, rfl⟩⟩
        go_wp2_with fail
        refine (C5.out _).mono ?_
        rintro e w1 ⟨rfl, ⟨n5, rfl⟩⟩
        go_wp2_with fail
        refine (C6.out _).mono ?_
        rintro e w1 ⟨rfl, ⟨n6, rfl⟩⟩
        go_wp2_with fail
        refine (C7.out _).mono ?_
        rintro e w1 ⟨rfl, ⟨n7, rfl⟩⟩
        go_wp2_with fail
        refine (C7.out _).mono ?_
        rintro e w1 ⟨rfl, ⟨n7, rfl⟩⟩
        go_wp2_with fail
        refine (C8.out _).mono ?_
        rintro e w1 ⟨rfl, ⟨n7, rfl⟩⟩
        go_wp2_with fail
        refine (C9.out _).mono ?_
        rintro e w1 ⟨rfl, ⟨n7, rfl⟩⟩
        go_wp2_with fail
        refine (awake_any _).mono ?_
        rintro e w1 ⟨rfl, hB⟩
        go_wp2_with fail
        go_ret
        exact ⟨by first | rfl | simp, below_dr hB⟩
      · rw [Bool.not_eq_true] at hs
        have C9 := Lib.hid fun w => bool_of (refIn_any (a0 - a1) w) hs
        have C5 := Lib.hid fun w => sub_of (w := w) (r := (0, 25)) (show subV a0 a1 = _ by unfold subV; rw [ha, hb, hs]; rfl)
        clear ha hb hs
        go_enter Try.func7, Try.ntmps7
        go_wp2_with fail
        refine (C1.out _).mono ?_
        rintro e w1 ⟨rfl, ⟨n1, rfl⟩⟩
        go_wp2_with fail
        refine (C2.out _).mono ?_
        rintro e w1 ⟨rfl, ⟨n2, rfl⟩⟩
        go_wp2_with fail
        refine (C3.out _).mono ?_
        rintro e w1 ⟨rfl, ⟨n3, rfl⟩⟩
        go_wp2_with fail
        refine (C4.out _).mono ?_
        rintro e w1 ⟨rfl, ⟨n4, rfl⟩⟩
        go_wp2_with fail
        refine (C5.out _).mono ?_
        rintro e w1 ⟨rfl, ⟨n5, rfl⟩⟩
        go_wp2_with fail
        refine (C6.out _).mono ?_
        rintro e w1 ⟨rfl, ⟨n6, rfl⟩⟩
        go_wp2_with fail
        refine (C7.out _).mono ?_
        rintro e w1 ⟨rfl, ⟨n7, rfl⟩⟩
        go_wp2_with fail
        refine (C7.out _).mono ?_
        rintro e w1 ⟨rfl, ⟨n7, rfl⟩⟩
        go_wp2_with fail
        refine (C8.out _).mono ?_
        rintro e w1 ⟨rfl, ⟨n7, rfl⟩⟩
        go_wp2_with fail
        refine (C9.out _).mono ?_
        rintro e w1 ⟨rfl, ⟨n7, rfl⟩⟩
        go_wp2_with fail
        refine (awake_any _).mono ?_
        rintro e w1 ⟨rfl, hB⟩
        go_wp2_with fail
        go_ret
        exact ⟨by first | rfl | simp, below_dr hB⟩
    · rw [Bool.not_eq_true] at hb
      have C8 := Lib.hid fun w => bool_of (refIn_any a1 w) hb
      have C5 := Lib.hid fun w => sub_of (w := w) (r := (0, 9)) (show subV a0 a1 = _ by unfold subV; rw [ha, hb]; rfl)
      clear ha hb
      go_enter Try.func7, Try.ntmps7
      go_wp2_with fail
      refine (C1.out _).mono ?_
      rintro e w1 ⟨rfl, ⟨n1, rfl⟩⟩
      go_wp2_with fail
      refine (C2.out _).mono ?_
      rintro e w1 ⟨rfl, ⟨n2, rfl⟩⟩
      go_wp2_with fail
      refine (C3.out _).mono ?_
      rintro e w1 ⟨rfl, ⟨n3, rfl⟩⟩
      go_wp2_with fail
      refine (C4.out _).mono ?_
      rintro e w1 ⟨rfl, ⟨n4, rfl⟩⟩
      go_wp2_with fail
      refine (C5.out _).mono ?_
      rintro e w1 ⟨rfl, ⟨n5, rfl⟩⟩
      go_wp2_with fail
      refine (C6.out _).mono ?_
      rintro e w1 ⟨rfl, ⟨n6, rfl⟩⟩
      go_wp2_with fail
      refine (C7.out _).mono ?_
      rintro e w1 ⟨rfl, ⟨n7, rfl⟩⟩
      go_wp2_with fail
      refine (C7.out _).mono ?_
      rintro e w1 ⟨rfl, ⟨n7, rfl⟩⟩
      go_wp2_with fail
      refine (C8.out _).mono ?_
      rintro e w1 ⟨rfl, ⟨n7, rfl⟩⟩
      go_wp2_with fail
      refine (awake_any _).mono ?_
      rintro e w1 ⟨rfl, hB⟩
      go_wp2_with fail
      go_ret
      exact ⟨by first | rfl | simp, below_dr hB⟩
  · rw [Bool.not_eq_true] at ha
    have C6 := Lib.hid fun w => bool_of (in_any a0 w) ha
    have C7 := Lib.hid fun w => bool_of (refIn_any a0 w) ha
    have C5 := Lib.hid fun w => sub_of (w := w) (r := (0, 9)) (show subV a0 a1 = _ by unfold subV; rw [ha]; rfl)
    clear ha
    go_enter Try.func7, Try.ntmps7
    go_wp2_with fail
    refine (C1.out _).mono ?_
    rintro e w1 ⟨rfl, ⟨n1, rfl⟩⟩
    go_wp2_with fail
    refine (C2.out _).mono ?_
    rintro e w1 ⟨rfl, ⟨n2, rfl⟩⟩
    go_wp2_with fail
    refine (C3.out _).mono ?_
    rintro e w1 ⟨rfl, ⟨n3, rfl⟩⟩
    go_wp2_with fail
    refine (C4.out _).mono ?_
    rintro e w1 ⟨rfl, ⟨n4, rfl⟩⟩
    go_wp2_with fail
    refine (C5.out _).mono ?_
    rintro e w1 ⟨rfl, ⟨n5, rfl⟩⟩
    go_wp2_with fail
    refine (C6.out _).mono ?_
    rintro e w1 ⟨rfl, ⟨n6, rfl⟩⟩
    go_wp2_with fail
    refine (C7.out _).mono ?_
    rintro e w1 ⟨rfl, ⟨n7, rfl⟩⟩
    go_wp2_with fail
    refine (C7.out _).mono ?_
    rintro e w1 ⟨rfl, ⟨n7, rfl⟩⟩
    go_wp2_with fail
    refine (awake_any _).mono ?_
    rintro e w1 ⟨rfl, hB⟩
    go_wp2_with fail
    go_ret
    exact ⟨by first | rfl | simp, below_dr hB⟩
end Go.Proofs.Yteonbgknmpobpaa.Reck
