/- What a die rolls: contracts of the program's functions of package dice, and of the document's rolls. -/
import Derived.Test.YteonbgknmpobpaaPDiceRollsx
import Derived.OpenShut
import Derived.Lib.Hide
namespace Go.Proofs.Yteonbgknmpobpaa.Dice
open Go.RowKit Go.Proofs.YteonbgknmpobpaaW.PrintWords Go.Proofs.YteonbgknmpobpaaW.PrintLast Go.Proofs.YteonbgknmpobpaaW.PrintMore
open Go.Proofs.Yteonbgknmpobpaa.PDiceRolls
set_option linter.unusedVariables false

/-- The state behind a roll. -/
def rollS (s : Int) : Int := IntKind.u64.wrap (s + 11400714819323198485)
def mix (x c m : Int) : Int := IntKind.u64.wrap (bits .xor .u64 x (x / c) * m)
def rollW (x : Int) : Int := bits .xor .u64 (mix (mix x 1073741824 13787848793156543929) 134217728 10723151780598845931) (mix (mix x 1073741824 13787848793156543929) 134217728 10723151780598845931 / 2147483648)
/-- What a roll tells. -/
def rollV (s : Int) : Int := rollW (rollS s)
def uptoS (s n : Int) : Int := if n < 1 then s else rollS s
def uptoV (s n : Int) : Int := if n < 1 then 0 else wrap64 (Int.tmod (rollV s) (IntKind.u64.wrap n))

theorem ret_u64 {a b : Int} (h : a = b) : Ending.returned (.int .u64 a) = .returned (.int .u64 b) := by rw [h]
theorem ret_i64 {a b : Int} (h : a = b) : Ending.returned (.int .i64 a) = .returned (.int .i64 b) := by rw [h]

theorem below_setCell {w0 W : World} {g : Nat} {v : Value} (hB : Below w0.heap.size w0 W) (hg : w0.heap.size ≤ g) : Below w0.heap.size w0 (W.setCell ⟨g, 0, none⟩ v) := hB.setCell hg _

set_option maxHeartbeats 400000 in
theorem roll_any (w0 w : World) (g : Nat) (s : Int) (hB : Below w0.heap.size w0 w) (h : IsS52 w0 w g s) :
    Calls Try.prog 12 #[.pointer (some ⟨g, 0, none⟩)] w fun e w' => e = .returned (.int .u64 (rollV s)) ∧ IsS52 w0 w' g (rollS s) ∧ Below w0.heap.size w0 w' := by
  have hS := h.set_0 (rollS s)
  have hg := h.2
  have hb := h.1
  have hc := cellS52_0 hb
  have hf : w.frozen? ⟨g, 0, none⟩ = false := by simp [World.frozen?, hb]
  have HB := Aside0.mk (below_setCell (v := .int .u64 (rollS s)) hB hg)
  have HS := Aside0.mk hS
  clear hB hS h hb hg
  go_enter Try.func12, Try.ntmps12
  go_wp2
  go_ret
  exact ⟨rfl, HS.out, HB.out⟩

set_option maxHeartbeats 400000 in
theorem roll_nil (w : World) :
    Calls Try.prog 12 #[.pointer none] w fun e w' => e = .returned (.int .u64 0) ∧ w = w' := by
  go_enter Try.func12, Try.ntmps12
  go_wp2
  go_ret
  exact ⟨rfl, rfl⟩

set_option maxHeartbeats 400000 in
theorem upto_any (w0 w : World) (g : Nat) (s n : Int) (hB : Below w0.heap.size w0 w) (h : IsS52 w0 w g s) (hn : (Lit.int .i64 n).wf = true) :
    Calls Try.prog 14 #[.pointer (some ⟨g, 0, none⟩), .int .i64 n] w fun e w' => e = .returned (.int .i64 (uptoV s n)) ∧ IsS52 w0 w' g (uptoS s n) ∧ Below w0.heap.size w0 w' := by
  by_cases hn1 : n < 1
  · have HV : Hid (uptoV s n = 0) := by unfold uptoV; rw [if_pos hn1]; exact rfl
    have HS : Hid (uptoS s n = s) := by unfold uptoS; rw [if_pos hn1]; exact rfl
    have HB := Aside0.mk hB
    have HI := Aside0.mk h
    clear hB h
    go_enter Try.func14, Try.ntmps14
    go_wp2
    go_ret
    exact ⟨ret_i64 HV.out.symm, by rw [HS.out]; exact HI.out, HB.out⟩
  · have HV : Hid (uptoV s n = wrap64 (Int.tmod (rollV s) (IntKind.u64.wrap n))) := by unfold uptoV; rw [if_neg hn1]; exact rfl
    have HS : Hid (uptoS s n = rollS s) := by unfold uptoS; rw [if_neg hn1]; exact rfl
    have HB := Aside0.mk hB
    have HI := Aside0.mk h
    have hbd := bounds_i64 hn
    have hz : (IntKind.u64.wrap n == 0) = false := by rw [IntWalk.u64_in n (by omega)]; exact beq_eq_false_iff_ne.mpr (by omega)
    have hz' : ¬ IntKind.u64.wrap n = 0 := by rw [IntWalk.u64_in n (by omega)]; omega
    have hz2 := Aside0.mk (And.intro hbd hn)
    clear hB h hbd hn hz
    go_enter Try.func14, Try.ntmps14
    go_wp2_with (go_at_call 12; refine (roll_any w0 _ g s HB.out HI.out).mono ?_; rintro e w' ⟨rfl, hI, hB⟩)
    go_ret
    exact ⟨ret_i64 HV.out.symm, by rw [HS.out]; exact hI, hB⟩

set_option maxHeartbeats 400000 in
theorem upto_nil (n : Int) (w : World) (hw : n = 5) :
    Calls Try.prog 14 #[.pointer none, .int .i64 n] w fun e w' => e = .returned (.int .i64 0) ∧ w = w' := by
  subst hw
  go_enter Try.func14, Try.ntmps14
  go_wp2_with (go_at_call 12; refine (roll_nil _).mono ?_; rintro e w' ⟨rfl, rfl⟩)
  go_ret
  exact ⟨rfl, rfl⟩

theorem wrap_ge (x : Int) : 0 ≤ IntKind.u64.wrap x ∧ IntKind.u64.wrap x ≤ 18446744073709551615 := by
  simp [IntKind.wrap, IntKind.bits, IntKind.signed]; omega
theorem quo (x c : Int) (hc : 1 ≤ c) : IntKind.u64.wrap (Int.tdiv (IntKind.u64.wrap x) c) = IntKind.u64.wrap x / c :=
  IntWalk.u64_quo _ _ ⟨(wrap_ge x).1, (wrap_ge x).2, hc⟩

theorem refRoll_f (s : Int) : treillageref43_Roll.f s = some (rollS s, rollV s) := by
  unfold treillageref43_Roll.f rollV rollW mix rollS
  rw [quo _ _ (by omega), quo _ _ (by omega), quo _ _ (by omega)]
theorem refRoll_any (s : Int) (w : World) :
    Calls Try.prog 11 #[.int .u64 s] w fun e w' => e = .returned (.tuple #[.int .u64 (rollS s), .int .u64 (rollV s)]) ∧ Drawn0 w w' :=
  treillageref43_Roll.calls s _ _ w (refRoll_f s)
theorem refUpto_f (s n : Int) (hn : (Lit.int .i64 n).wf = true) : treillageref43_Upto.f s n = some (uptoS s n, uptoV s n) := by
  have hb := bounds_i64 hn
  unfold treillageref43_Upto.f uptoS uptoV
  by_cases h : n < 1
  · rw [if_pos h, if_pos h, if_pos h]
  · rw [if_neg h, if_neg h, if_neg h, refRoll_f]
    simp only [Option.bind_some]
    rw [if_neg (by rw [IntWalk.u64_in n (by omega)]; omega)]
theorem refUpto_any (s n : Int) (w : World) (hn : (Lit.int .i64 n).wf = true) :
    Calls Try.prog 13 #[.int .u64 s, .int .i64 n] w fun e w' => e = .returned (.tuple #[.int .u64 (uptoS s n), .int .i64 (uptoV s n)]) ∧ Drawn0 w w' :=
  treillageref43_Upto.calls s n _ _ w (refUpto_f s n hn)

theorem roll0 : rollV 0 = 16294208416658607535 := by decide +kernel
set_option maxHeartbeats 400000 in
theorem awake_any (w : World) :
    Calls Try.prog 9 #[] w fun e w' => e = .returned (.bool true) ∧ Below w.heap.size w w' := by
  have HR : Hid (rollV 0 = 16294208416658607535) := Lib.hid roll0
  go_enter Try.func9, Try.ntmps9
  go_wp2_with (first | (go_at_call 10; refine (dice_New.calls 0 0 w _ (Below.refl _ _) rfl).mono ?_; rintro e w' ⟨g, rfl, hI, hB, hB2⟩; clear hB2) | (go_at_call 12; refine (roll_any w _ g 0 hB hI).mono ?_; clear hB hI; rintro e w' ⟨rfl, hI, hB⟩; rw [HR.out]))
  go_ret
  exact ⟨rfl, hB⟩

set_option maxHeartbeats 1000000 in
theorem walk (a0 : Int) (a1 : Option Addr) (len1 cap1 : Nat) (z1 : List Int) (w : World) (w0 : (Lit.int .u64 a0).wf = true)
    (w1 : (a1 = none ∧ len1 = 0 ∧ cap1 = 0 ∧ z1 = []) ∨ ∃ x, a1 = some x ∧ len1 ≤ cap1 ∧ cap1 ≤ maxLen ∧ z1.length = cap1 ∧ (∀ i, i < z1.length → w.cell? (x.add i) = some (.int .i64 (z1.getD i 0))) ∧ ∀ n ∈ z1, (Lit.int .i64 n).wf = true)
    (y1 : len1 * 8 ≤ 140737488351232) :
    Calls Try.prog 3 #[.int .u64 a0, .slice a1 len1 cap1] w fun e w' => e = .returned (.bool true) ∧ Below w.heap.size w w' := by
  obtain ⟨l, rfl, hr, hm, hwf, hc⟩ := ReadsInt.ofRowC w1
  clear w1 w0
  have HR := Aside0.mk hr
  have HW := Aside0.mk hwf
  clear hr hwf hm hc
  by_cases hl : l.length > 100
  · go_enter Try.func3, Try.ntmps3
    go_wp2_with (go_at_call 9; refine (awake_any _).mono ?_; rintro e w' ⟨rfl, hB⟩)
    go_ret
    exact ⟨rfl, hB⟩
  · go_enter Try.func3, Try.ntmps3
    go_wp2_with (go_at_call 10; refine (dice_New.calls a0 a0 w _ (Below.refl _ _) rfl).mono ?_; rintro e w' ⟨g, rfl, hI, hB, hB2⟩; clear hB2)
    go_loopw [6, 7] (fun s i wr => ∃ (x : Int) (k : Nat), k ≤ l.length ∧ s = .int .u64 x ∧ i = .int .i64 k ∧ Aside0 (IsS52 w wr g x) ∧ Aside0 (Below w.heap.size w wr)) (fun _ i _ => l.length - (intOf i).toNat)
    case atStart => exact ⟨_, 0, Nat.zero_le _, rfl, rfl, ⟨hI⟩, ⟨hB⟩⟩
    case round =>
      obtain ⟨x, k, hk, rfl, rfl, HI, HB⟩ := hrel
      clear hI hB
      by_cases hlt : k < l.length
      · obtain ⟨ad, rfl, hcell⟩ := (HR.out.below HB.out).at_ (k : Int) (by omega) (by omega)
        rw [Int.toNat_natCast] at hcell
        have hwk : (Lit.int .i64 (rd l k)).wf = true := HW.out _ (by unfold rd; rw [Int.toNat_natCast, List.getD_eq_getElem?_getD, List.getElem?_eq_getElem hlt]; exact List.getElem_mem hlt)
        generalize rd l (k : Int) = n at hcell hwk
        have HN := Aside0.mk hwk
        clear hwk
        by_cases hn : n = 0
        · have hn0 : (n == 0) = true := beq_iff_eq.mpr hn
          clear hn
          go_wp2_with (first | (go_at_call 11; refine (refRoll_any _ _).mono ?_; rintro e w' ⟨rfl, ⟨nd, rfl⟩⟩) | (go_at_call 12; refine (roll_any w _ g x (pw_below_drewN HB.out _) (HI.out.drewN _)).mono ?_; rintro e w'' ⟨rfl, hI, hB⟩; have HI2 := Aside0.mk hI; have HB2 := Aside0.mk hB; clear hI hB))
          go_roundw
          case rel => exact ⟨_, k + 1, by omega, rfl, by go_num, HI2, HB2⟩
          case measure => simp [intOf]; omega
        · have hn0 : (n == 0) = false := beq_eq_false_iff_ne.mpr hn
          clear hn
          go_wp2_with (first | (go_at_call 13; refine (refUpto_any _ _ _ HN.out).mono ?_; rintro e w' ⟨rfl, ⟨nd, rfl⟩⟩) | (go_at_call 14; refine (upto_any w _ g x n (pw_below_drewN HB.out _) (HI.out.drewN _) HN.out).mono ?_; rintro e w'' ⟨rfl, hI, hB⟩; have HI2 := Aside0.mk hI; have HB2 := Aside0.mk hB; clear hI hB))
          go_roundw
          case rel => exact ⟨_, k + 1, by omega, rfl, by go_num, HI2, HB2⟩
          case measure => simp [intOf]; omega
      · go_wp2_with (first | (go_at_call 9; refine (awake_any _).mono ?_; rintro e w' ⟨rfl, hB2⟩; have HB2 := Aside0.mk (below_then HB.out HB.out.size hB2); clear hB2) | (go_at_call 12; refine (roll_nil _).mono ?_; rintro e w' ⟨rfl, rfl⟩) | (go_at_call 14; refine (upto_nil _ _ rfl).mono ?_; rintro e w' ⟨rfl, rfl⟩))
        go_ret
        exact ⟨rfl, HB2.out⟩
end Go.Proofs.Yteonbgknmpobpaa.Dice
