/- The walk of NumBack. -/
import Derived.Test.YteonbgknmpobpaaBack
import Derived.Test.YteonbgknmpobpaaPNumBackx
namespace Go.Proofs.Yteonbgknmpobpaa.BackWalk
open Go.RowKit Go.Proofs.YteonbgknmpobpaaW.PrintWords Go.Proofs.YteonbgknmpobpaaW.PrintLast Go.Proofs.YteonbgknmpobpaaW.PrintMore
open Go.Proofs.Yteonbgknmpobpaa.Num Go.Proofs.Yteonbgknmpobpaa.NT Go.Proofs.Yteonbgknmpobpaa.Txt Go.Proofs.Yteonbgknmpobpaa.Back
set_option linter.unusedVariables false

theorem in2_is (n : Int) : PNumBack.num_In.f n = some (inB n) := in_is n
theorem fit2_is (n : Int) : PNumBack.num_fit.f n = some (if inB n then (n, 0) else (0, 25)) := fit_is n
theorem refIn_is (n : Int) : PNumBack.treillageref01_In.f n = some (inB n) := in_is n
theorem sub_is (a b : Int) : PNumBack.num_Sub.f a b = some (subV a b) := by
  unfold PNumBack.num_Sub.f subV
  rw [in2_is, in2_is]
  simp only [Option.bind_some]
  by_cases ha : inB a = true
  · by_cases hb : inB b = true
    · have h1 := in_iff.1 ha
      have h2 := in_iff.1 hb
      rw [if_pos ha, if_pos hb, fit2_is, wrap_in (by omega), ha, hb]; rfl
    · rw [if_pos ha, if_neg hb]; simp [ha, hb]
  · rw [if_neg ha]; simp [ha]
theorem sub_any (a b : Int) (w : World) : Calls Try.prog 22 #[.int .i64 a, .int .i64 b] w fun e w' => e = .returned (.tuple #[.int .i64 (subV a b).1, .int .i64 (subV a b).2]) ∧ Drawn0 w w' :=
  PNumBack.num_Sub.calls a b _ _ w (sub_is a b)
theorem refIn_any (a : Int) (w : World) : Calls Try.prog 20 #[.int .i64 a] w fun e w' => e = .returned (.bool (inB a)) ∧ Drawn0 w w' :=
  PNumBack.treillageref01_In.calls a _ w (refIn_is a)

theorem add_back (n m : Int) (h : (addV n m).2 = 0) : (subV (addV n m).1 m).2 = 0 ∧ (subV (addV n m).1 m).1 = n := by
  unfold addV at h ⊢
  by_cases ha : (inB n && inB m) = true
  · rw [if_pos ha] at h ⊢
    by_cases hb : inB (n + m) = true
    · rw [if_pos hb]
      rw [Bool.and_eq_true] at ha
      unfold subV
      rw [hb, ha.2]
      have e : n + m - m = n := by omega
      simp only [Bool.and_self, if_true]
      rw [e, if_pos ha.1]
      exact ⟨rfl, rfl⟩
    · rw [if_neg hb] at h; cases h
  · rw [if_neg ha] at h; cases h

theorem below_to {w W w1 : World} {n : Nat} (h : Below w.heap.size w W) (k : Below (W.drewN n).heap.size (W.drewN n) w1) : Below w.heap.size w w1 :=
  below_then (pw_below_drewN h n) h.size k
set_option maxHeartbeats 2000000 in
theorem walk (a0 a1 : Int) (a2 : ByteArray) (w : World) (w0 : (Lit.int .i64 a0).wf = true) (w1 : (Lit.int .i64 a1).wf = true) (w2 : a2.size ≤ 140737488351232) :
    Calls Try.prog 5 #[.int .i64 a0, .int .i64 a1, .string a2] w fun e w' => e = .returned (.bool true) ∧ Below w.heap.size w w' := by
  have hb0 := bounds_i64 w0
  have HB := Aside0.mk hb0
  clear w0 w1
  by_cases hl : a2.size > 60
  · clear hb0
    go_enter Try.func5, Try.ntmps5
    go_wp2_with fail
    refine (awake_any _).mono ?_
    rintro e w1 ⟨rfl, hB⟩
    go_wp2_with fail
    go_ret
    exact ⟨rfl, hB⟩
  · have c1 := fun w => text_any a0 w hb0
    have c2 : ∀ w, Calls Try.prog 16 #[.string ⟨(Lib.itoa a0).toArray⟩] w fun e w' => e = .returned (.tuple #[.int .i64 (if inB a0 then (a0, (0 : Int)) else (0, 25)).1, .int .i64 (if inB a0 then (a0, (0 : Int)) else (0, 25)).2]) ∧ Drawn0 w w' := by
      intro w
      have hs := itoa_small a0 a0.natAbs rfl (by omega)
      have := read_any ⟨(Lib.itoa a0).toArray⟩ w (by rw [size_mk]; omega)
      rw [show (⟨(Lib.itoa a0).toArray⟩ : ByteArray).data.toList = Lib.itoa a0 from by simp, read_itoa] at this
      exact this
    generalize (⟨(Lib.itoa a0).toArray⟩ : ByteArray) = tx at c1 c2
    have c3 := fun w => refIn_any a0 w
    have c4 := fun w => read_any a2 w w2
    have hy := itoa_read a2.data.toList
    have c5 := fun w => add_any a0 a1 w
    have c6 := fun w => sub_any (addV a0 a1).1 a1 w
    have hab := add_back a0 a1
    have c7 : (readV a2.data.toList).2 = 0 → ∀ w, Calls Try.prog 18 #[.int .i64 (readV a2.data.toList).1] w fun e w' => e = .returned (.string a2) ∧ Below w.heap.size w w' := by
      intro h w
      have h1 := hy h
      have h2 := in_iff.1 h1.2
      have := text_any (readV a2.data.toList).1 w (by omega)
      rw [h1.1] at this
      exact this
    generalize readV a2.data.toList = rv at c4 hy c7
    generalize subV (addV a0 a1).1 a1 = sv at c6 hab
    generalize addV a0 a1 = av at c5 c6 hab
    obtain ⟨y, f⟩ := rv
    obtain ⟨bk, h⟩ := sv
    obtain ⟨sm, g⟩ := av
    generalize inB a0 = b at c2 c3
    simp only at c4 c5 c6 c7 hab
    have C1 := Lib.hid c1
    have C3 := Lib.hid c3
    have C4 := Lib.hid c4
    have C5 := Lib.hid c5
    have C6 := Lib.hid c6
    have C7 := Lib.hid c7
    have HAB := Lib.hid hab
    clear c1 c3 c4 c5 c6 c7 hab hy hb0
    cases b
    all_goals
      simp only [if_true, if_false, Bool.false_eq_true] at c2
      have C2 := Lib.hid c2
      clear c2
      by_cases hf : f = 0
      · subst hf
        have C8 := Lib.hid (C7.out rfl)
        clear C7
        by_cases hg : g = 0
        · subst hg
          obtain ⟨rfl, rfl⟩ := HAB.out rfl
          go_enter Try.func5, Try.ntmps5
          go_wp2_with fail
          refine (C1.out _).mono ?_
          rintro e w1 ⟨rfl, hB1⟩
          have HB1 := Aside0.mk hB1
          clear hB1
          go_wp2_with fail
          refine (C2.out _).mono ?_
          rintro e w2 ⟨rfl, ⟨n2, rfl⟩⟩
          go_wp2_with (go_at_call 20; (with_reducible refine (C3.out _).mono ?_); rintro e w3 ⟨rfl, ⟨n3, rfl⟩⟩)
          refine (C4.out _).mono ?_
          rintro e w3 ⟨rfl, ⟨n3, rfl⟩⟩
          go_wp2_with fail
          refine (C8.out _).mono ?_
          rintro e w4 ⟨rfl, hB4⟩
          have HB4 := Aside0.mk (below_to HB1.out hB4)
          clear hB4
          go_wp2_with fail
          refine (C5.out _).mono ?_
          rintro e w5 ⟨rfl, ⟨n5, rfl⟩⟩
          go_wp2_with fail
          refine (C6.out _).mono ?_
          rintro e w6 ⟨rfl, ⟨n6, rfl⟩⟩
          go_wp2_with fail
          refine (awake_any _).mono ?_
          rintro e w7 ⟨rfl, hB7⟩
          have HB7 := Aside0.mk (below_to HB4.out hB7)
          clear hB7
          go_wp2_with fail
          go_ret
          exact ⟨by first | rfl | simp, HB7.out⟩
        · have hg1 : (g == 0) = false := beq_eq_false_iff_ne.mpr hg
          have hg2 : (g != 0) = true := bne_iff_ne.mpr hg
          clear hg
          go_enter Try.func5, Try.ntmps5
          go_wp2_with fail
          refine (C1.out _).mono ?_
          rintro e w1 ⟨rfl, hB1⟩
          have HB1 := Aside0.mk hB1
          clear hB1
          go_wp2_with fail
          refine (C2.out _).mono ?_
          rintro e w2 ⟨rfl, ⟨n2, rfl⟩⟩
          go_wp2_with (go_at_call 20; (with_reducible refine (C3.out _).mono ?_); rintro e w3 ⟨rfl, ⟨n3, rfl⟩⟩)
          refine (C4.out _).mono ?_
          rintro e w3 ⟨rfl, ⟨n3, rfl⟩⟩
          go_wp2_with fail
          refine (C8.out _).mono ?_
          rintro e w4 ⟨rfl, hB4⟩
          have HB4 := Aside0.mk (below_to HB1.out hB4)
          clear hB4
          go_wp2_with fail
          refine (C5.out _).mono ?_
          rintro e w5 ⟨rfl, ⟨n5, rfl⟩⟩
          go_wp2_with fail
          refine (C6.out _).mono ?_
          rintro e w6 ⟨rfl, ⟨n6, rfl⟩⟩
          go_wp2_with fail
          refine (awake_any _).mono ?_
          rintro e w7 ⟨rfl, hB7⟩
          have HB7 := Aside0.mk (below_to HB4.out hB7)
          clear hB7
          go_wp2_with fail
          go_ret
          exact ⟨by first | rfl | simp, HB7.out⟩
      · have hf1 : (f == 0) = false := beq_eq_false_iff_ne.mpr hf
        clear hf
        by_cases hg : g = 0
        · subst hg
          obtain ⟨rfl, rfl⟩ := HAB.out rfl
          go_enter Try.func5, Try.ntmps5
          go_wp2_with fail
          refine (C1.out _).mono ?_
          rintro e w1 ⟨rfl, hB1⟩
          have HB1 := Aside0.mk hB1
          clear hB1
          go_wp2_with fail
          refine (C2.out _).mono ?_
          rintro e w2 ⟨rfl, ⟨n2, rfl⟩⟩
          go_wp2_with (go_at_call 20; (with_reducible refine (C3.out _).mono ?_); rintro e w3 ⟨rfl, ⟨n3, rfl⟩⟩)
          refine (C4.out _).mono ?_
          rintro e w3 ⟨rfl, ⟨n3, rfl⟩⟩
          have HB4 := HB1
          go_wp2_with fail
          refine (C5.out _).mono ?_
          rintro e w5 ⟨rfl, ⟨n5, rfl⟩⟩
          go_wp2_with fail
          refine (C6.out _).mono ?_
          rintro e w6 ⟨rfl, ⟨n6, rfl⟩⟩
          go_wp2_with fail
          refine (awake_any _).mono ?_
          rintro e w7 ⟨rfl, hB7⟩
          have HB7 := Aside0.mk (below_to HB4.out hB7)
          clear hB7
          go_wp2_with fail
          go_ret
          exact ⟨by first | rfl | simp, HB7.out⟩
        · have hg1 : (g == 0) = false := beq_eq_false_iff_ne.mpr hg
          have hg2 : (g != 0) = true := bne_iff_ne.mpr hg
          clear hg
          go_enter Try.func5, Try.ntmps5
          go_wp2_with fail
          refine (C1.out _).mono ?_
          rintro e w1 ⟨rfl, hB1⟩
          have HB1 := Aside0.mk hB1
          clear hB1
          go_wp2_with fail
          refine (C2.out _).mono ?_
          rintro e w2 ⟨rfl, ⟨n2, rfl⟩⟩
          go_wp2_with (go_at_call 20; (with_reducible refine (C3.out _).mono ?_); rintro e w3 ⟨rfl, ⟨n3, rfl⟩⟩)
          refine (C4.out _).mono ?_
          rintro e w3 ⟨rfl, ⟨n3, rfl⟩⟩
          have HB4 := HB1
          go_wp2_with fail
          refine (C5.out _).mono ?_
          rintro e w5 ⟨rfl, ⟨n5, rfl⟩⟩
          go_wp2_with fail
          refine (C6.out _).mono ?_
          rintro e w6 ⟨rfl, ⟨n6, rfl⟩⟩
          go_wp2_with fail
          refine (awake_any _).mono ?_
          rintro e w7 ⟨rfl, hB7⟩
          have HB7 := Aside0.mk (below_to HB4.out hB7)
          clear hB7
          go_wp2_with fail
          go_ret
          exact ⟨by first | rfl | simp, HB7.out⟩
end Go.Proofs.Yteonbgknmpobpaa.BackWalk
