/- Rising names; the document's paths; which lists are short. -/
import Derived.Test.YteonbgknmpobpaaDoorNP
namespace Go.Proofs.YteonbgknmpobpaaDoor.NQ
open Go.RowKit Go.Proofs.YteonbgknmpobpaaDoorW.PrintWords Go.Proofs.YteonbgknmpobpaaDoorW.PrintLast Go.Proofs.YteonbgknmpobpaaDoorW.PrintMore
open Go.Proofs.YteonbgknmpobpaaDoor.NX Go.Proofs.YteonbgknmpobpaaDoor.NW Go.Proofs.YteonbgknmpobpaaDoor.NR Go.Proofs.YteonbgknmpobpaaDoor.NP
set_option linter.unusedVariables false

theorem rise_no (l : List B) (k : Nat) (hk : k < l.length) (h : riseF l k = false) : risingV l = false := upTo_false (f := riseF l) hk h
theorem rise_succ (l : List B) (k : Nat) (h : upTo (riseF l) k = true) (h2 : riseF l k = true) : upTo (riseF l) (k + 1) = true := by rw [upTo_succ, h, h2]; rfl
theorem rise_0 (l : List B) : riseF l 0 = rightV (nth l 0).data.toList := by unfold riseF; simp
theorem rise_s (l : List B) (k : Nat) : riseF l (k + 1) = (rightV (nth l (k + 1)).data.toList && lessB (nth l k) (nth l (k + 1))) := by unfold riseF; simp
theorem rise_k (l : List B) (k : Nat) (h : 0 < k) : riseF l k = (rightV (nth l k).data.toList && lessB (nth l (k - 1)) (nth l k)) := by
  obtain ⟨q, rfl⟩ : ∃ q, k = q + 1 := ⟨k - 1, by omega⟩
  exact rise_s l q
theorem tri (a b : B) : (Op.bytesLess b.toList a.toList || b.toList == a.toList) = !lessB a b := less_tri a.toList b.toList
set_option maxHeartbeats 2000000 in
theorem rising_any (A : Option Addr) (c : Nat) (l : List B) (w : World) (hW : WordsAt w) (hr : Reads w A l.length l) :
    Calls Tryd.prog 25 #[.slice A l.length c] w fun e w' => e = .returned (.bool (risingV l)) ∧ Below w.heap.size w w' := by
  have HR := Lib.hid hr
  have HW := Lib.hid hW
  have hlen : l.length ≤ 9223372036854775807 := hr.2.1
  clear hr hW
  go_enter Tryd.func25, Tryd.ntmps25
  go_wp2_with fail
  go_loopw [7] (fun i wr => ∃ k : Nat, k ≤ l.length ∧ i = .int .i64 k ∧ Aside0 (upTo (riseF l) k = true) ∧ Aside0 (Below w.heap.size w wr)) (fun i _ => l.length - (intOf i).toNat)
  case atStart => exact ⟨0, Nat.zero_le _, rfl, ⟨rfl⟩, ⟨Below.refl _ _⟩⟩
  case round =>
    obtain ⟨k, hk, rfl, HU, HB⟩ := hrel
    by_cases hlt : k < l.length
    · obtain ⟨ad, rfl, hcell⟩ := reads_at (HR.out.below HB.out) k hlt
      have C1 := Lib.hid fun wx (h : Below w.heap.size w wx) => right_any (nth l k) wx (HW.out.below h)
      by_cases h0 : k = 0
      · have HF := Lib.hid (show riseF l k = rightV (nth l k).data.toList from by subst h0; exact rise_0 l)
        have HNo := Lib.hid (rise_no l k hlt)
        have HSu := Lib.hid (rise_succ l k HU.out)
        have h01 : decide (0 < (k : Int)) = false := decide_eq_false (by omega)
        have h02 : ¬ 0 < k := by omega
        clear h0
        generalize hrv : rightV (nth l k).data.toList = r at C1 HF
        clear hrv
        generalize nth l k = x at hcell C1
        cases r
        · have HV := Lib.hid (HNo.out HF.out)
          clear HNo HSu
          go_wp2_with fail
          refine (C1.out _ HB.out).mono ?_
          rintro e w1 ⟨rfl, hB⟩
          have HB1 := Lib.hid (below_on HB.out hB)
          clear hB
          go_wp2_with fail
          go_ret
          exact ⟨ret_b HV.out.symm, HB1.out⟩
        · have HU1 := Lib.hid (HSu.out HF.out)
          clear HNo HSu
          go_wp2_with fail
          refine (C1.out _ HB.out).mono ?_
          rintro e w1 ⟨rfl, hB⟩
          have HB1 := Aside0.mk (below_on HB.out hB)
          clear hB
          go_wp2_with fail
          go_roundw
          case rel => exact ⟨k + 1, by omega, by go_num, ⟨HU1.out⟩, HB1⟩
          case measure => simp [intOf]; omega
      · have HF := Lib.hid (rise_k l k (by omega))
        have HNo := Lib.hid (rise_no l k hlt)
        have HSu := Lib.hid (rise_succ l k HU.out)
        have ht := tri (nth l (k - 1)) (nth l k)
        have HR2 := Lib.hid fun wx (h : Below w.heap.size w wx) => reads_at (HR.out.below h) (k - 1) (by omega)
        have h01 : decide (0 < (k : Int)) = true := decide_eq_true (by omega)
        have h02 : 0 < k := by omega
        clear h0
        generalize hrv : rightV (nth l k).data.toList = r at C1 HF
        clear hrv
        generalize nth l k = x at hcell C1 ht HF
        generalize nth l (k - 1) = y at ht HR2 HF
        cases r
        · have HV := Lib.hid (HNo.out (by rw [HF.out]; rfl))
          clear HNo HSu ht
          go_wp2_with fail
          refine (C1.out _ HB.out).mono ?_
          rintro e w1 ⟨rfl, hB⟩
          have HB1 := Lib.hid (below_on HB.out hB)
          clear hB
          go_wp2_with fail
          go_ret
          exact ⟨ret_b HV.out.symm, HB1.out⟩
        · cases hlb : lessB y x
          · have HV := Lib.hid (HNo.out (by rw [HF.out, hlb]; rfl))
            rw [hlb] at ht
            have ht2 : (Op.bytesLess x.toList y.toList || x.toList == y.toList) = true := ht
            clear HNo HSu ht hlb
            go_wp2_with fail
            refine (C1.out _ HB.out).mono ?_
            rintro e w1 ⟨rfl, hB⟩
            have HB1 := Lib.hid (below_on HB.out hB)
            obtain ⟨ad2, hae, hcell2⟩ := HR2.out w1 (below_on HB.out hB)
            injection hae with hae
            subst hae
            clear hB
            go_wp2_with fail
            go_ret
            exact ⟨ret_b HV.out.symm, HB1.out⟩
          · have HU1 := Lib.hid (HSu.out (by rw [HF.out, hlb]; rfl))
            rw [hlb] at ht
            have ht2 : (Op.bytesLess x.toList y.toList || x.toList == y.toList) = false := ht
            clear HNo HSu ht hlb
            go_wp2_with fail
            refine (C1.out _ HB.out).mono ?_
            rintro e w1 ⟨rfl, hB⟩
            have HB1 := Aside0.mk (below_on HB.out hB)
            obtain ⟨ad2, hae, hcell2⟩ := HR2.out w1 (below_on HB.out hB)
            injection hae with hae
            subst hae
            clear hB
            go_wp2_with fail
            go_roundw
            case rel => exact ⟨k + 1, by omega, by go_num, ⟨HU1.out⟩, HB1⟩
            case measure => simp [intOf]; omega
    · have he : k = l.length := by omega
      have HV := Lib.hid (show risingV l = true from by unfold risingV; rw [← he]; exact HU.out)
      clear he
      go_wp2_with fail
      go_ret
      exact ⟨ret_b HV.out.symm, HB.out⟩
end Go.Proofs.YteonbgknmpobpaaDoor.NQ
