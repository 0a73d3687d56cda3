/- The document's Rising. -/
import Derived.Test.YteonbgknmpobpaaDoorND
import Derived.Deep.QuietTactic
import Derived.BigQuiet
namespace Go.Proofs.YteonbgknmpobpaaDoor.NE
open Go.RowKit Go.Proofs.YteonbgknmpobpaaDoorW.PrintWords Go.Proofs.YteonbgknmpobpaaDoorW.PrintLast Go.Proofs.YteonbgknmpobpaaDoorW.PrintMore
open Go.Proofs.YteonbgknmpobpaaDoor.NX Go.Proofs.YteonbgknmpobpaaDoor.NW Go.Proofs.YteonbgknmpobpaaDoor.NR Go.Proofs.YteonbgknmpobpaaDoor.NP Go.Proofs.YteonbgknmpobpaaDoor.NQ Go.Proofs.YteonbgknmpobpaaDoor.NS Go.Proofs.YteonbgknmpobpaaDoor.NC Go.Proofs.YteonbgknmpobpaaDoor.ND
set_option linter.unusedVariables false

theorem drawn_on {w W : World} (h : Drawn0 w W) (n : Nat) : Drawn0 w (W.drewN n) := by
  obtain ⟨m, e⟩ := h
  exact ⟨m + n, by rw [e, World.drewN_drewN]⟩
theorem drawn_below {w W : World} (h : Drawn0 w W) : Below w.heap.size w W := by
  obtain ⟨m, e⟩ := h
  rw [e]
  exact pw_below_drewN (Below.refl _ _) m
set_option maxHeartbeats 2000000 in
theorem refRising_any (A : Option Addr) (c : Nat) (l : List B) (w : World) (hs : ∀ i, i < l.length → (nth l i).size ≤ 400) (hl : l.length ≤ 400) (hr : Reads w A l.length l) :
    Calls Tryd.prog 26 #[.slice A l.length c] w fun e w' => e = .returned (.bool (risingV l)) ∧ Drawn0 w w' := by
  have HR := Lib.hid hr
  have HS := Lib.hid hs
  clear hr hs
  go_enter Tryd.func26, Tryd.ntmps26
  go_wp2
  go_loopw [3] (fun i wr => ∃ k : Nat, k ≤ l.length ∧ i = .int .i64 k ∧ Aside0 (Drawn0 w wr) ∧ Aside0 (upTo (riseF l) k = true)) (fun i _ => l.length - (intOf i).toNat)
  case atStart => exact ⟨0, Nat.zero_le _, rfl, ⟨Drawn0.refl _⟩, ⟨rfl⟩⟩
  case round =>
    obtain ⟨k, hk, rfl, HD, HU⟩ := hrel
    by_cases hlt : k < l.length
    · obtain ⟨ad, rfl, hcell⟩ := reads_at (HR.out.below (drawn_below HD.out)) k hlt
      have C1 := Lib.hid fun wx => (refRight_any (nth l k) wx (by have := HS.out k hlt; omega)).mono fun e w' (h : _ ∧ _) => (⟨h.1, h.2.out⟩ : e = _ ∧ ∃ m, w' = wx.drewN m)
      by_cases h0 : k = 0
      · have HF := Lib.hid (show riseF l k = rightV (nth l k).data.toList from by subst h0; exact rise_0 l)
        have HNo := Lib.hid (rise_no l k hlt)
        have HSu := Lib.hid (rise_succ l k HU.out)
        have h01 : decide (0 < (k : Int)) = false := decide_eq_false (by omega)
        have h02 : ¬ 0 < k := by omega
        clear h0
        generalize hrv : rightV (nth l k).data.toList = r at C1 HF
        clear hrv
        generalize nth l k = x at hcell C1
        cases r
        · have HV := Lib.hid (HNo.out HF.out)
          clear HNo HSu
          go_wp2
          go_quiet ((go_at_call 22; exact Calls.quiet_of (C1.out _)))
          go_wp2
          go_ret
          exact ⟨ret_b HV.out.symm, drawn_on HD.out _⟩
        · have HU1 := Lib.hid (HSu.out HF.out)
          clear HNo HSu
          go_wp2
          go_quiet ((go_at_call 22; exact Calls.quiet_of (C1.out _)))
          go_wp2
          go_roundw
          case rel => exact ⟨k + 1, by omega, by go_num, ⟨drawn_on HD.out _⟩, ⟨HU1.out⟩⟩
          case measure => simp [intOf]; omega
      · have HF := Lib.hid (rise_k l k (by omega))
        have HNo := Lib.hid (rise_no l k hlt)
        have HSu := Lib.hid (rise_succ l k HU.out)
        obtain ⟨ad2, hae, hcell2⟩ := reads_at (HR.out.below (drawn_below HD.out)) (k - 1) (by omega)
        injection hae with hae
        subst hae
        have h01 : decide (0 < (k : Int)) = true := decide_eq_true (by omega)
        have h02 : 0 < k := by omega
        clear h0
        generalize hrv : rightV (nth l k).data.toList = r at C1 HF
        clear hrv
        generalize nth l k = x at hcell C1 HF
        generalize nth l (k - 1) = y at hcell2 HF
        cases r
        · have HV := Lib.hid (HNo.out (by rw [HF.out]; rfl))
          clear HNo HSu
          go_wp2
          go_quiet ((go_at_call 22; exact Calls.quiet_of (C1.out _)))
          go_wp2
          go_ret
          exact ⟨ret_b HV.out.symm, drawn_on HD.out _⟩
        · cases hlb : lessB y x
          · have HV := Lib.hid (HNo.out (by rw [HF.out, hlb]; rfl))
            have ht2 : Op.bytesLess y.toList x.toList = false := hlb
            clear HNo HSu hlb
            go_wp2
            go_quiet ((go_at_call 22; exact Calls.quiet_of (C1.out _)))
            go_wp2
            go_ret
            exact ⟨ret_b HV.out.symm, drawn_on HD.out _⟩
          · have HU1 := Lib.hid (HSu.out (by rw [HF.out, hlb]; rfl))
            have ht2 : Op.bytesLess y.toList x.toList = true := hlb
            clear HNo HSu hlb
            go_wp2
            go_quiet ((go_at_call 22; exact Calls.quiet_of (C1.out _)))
            go_wp2
            go_roundw
            case rel => exact ⟨k + 1, by omega, by go_num, ⟨drawn_on HD.out _⟩, ⟨HU1.out⟩⟩
            case measure => simp [intOf]; omega
    · have he : k = l.length := by omega
      have HV := Lib.hid (show risingV l = true from by unfold risingV; rw [← he]; exact HU.out)
      clear he
      go_wp2
      go_ret
      exact ⟨ret_b HV.out.symm, HD.out⟩
end Go.Proofs.YteonbgknmpobpaaDoor.NE
