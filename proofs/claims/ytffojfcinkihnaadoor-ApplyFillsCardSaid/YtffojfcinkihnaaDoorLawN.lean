/- The law of Fill: true. -/
import Derived.Test.YtffojfcinkihnaaDoorSy
import Derived.Test.YtffojfcinkihnaaDoorLawL
set_option linter.unusedVariables false
set_option linter.unusedSimpArgs false
set_option linter.unusedSectionVars false
set_option linter.deprecated false
set_option linter.unnecessarySimpa false
namespace Go.Proofs.YtffojfcinkihnaaDoor.Lat
open Go.Proofs.YtffojfcinkihnaaDoor.Abs
set_option linter.unusedVariables false
theorem asT3_ {α : Type} (a b c : AV) (k : AV → AV → AV → Option α) : asT3 (.tup [a, b, c]) k = k a b c := rfl
theorem asC1 {α : Type} (c : List AV) (k : List AV → Option α) : asC 1 (.agg 1 c) k = k c := rfl
def awk : List Tm × List Int := ([.mk 4 0 0 [] false false false [.mk [105, 100] [.mk 3 0 0 [] true true false []]]], [7])
theorem awk_good : Good awk := ⟨by decide, by decide, fun x hx => by simp [awk] at hx; subst hx; unfold inI; omega⟩
theorem awk_ok : (okV Rn awk.1 && seL true awk.1) = true := by decide +kernel
theorem Ni7 : Ni 7 = [55] := by rw [Ni_in (by unfold inI; omega), itoa_pos' _ (by omega), show (7 : Int).toNat = 7 from rfl, dec_small' (by omega)]; rfl
theorem awk_fi : fiL Ni awk.1 awk.2 = ([.mk 4 0 0 [] false false false [.mk [105, 100] [.mk 3 0 0 [116, 55] false false false []]]], []) := by
  have h : ∀ x : Bs, x = Ni 7 → fiL Ni awk.1 awk.2 = ([.mk 4 0 0 [] false false false [.mk [105, 100] [.mk 3 0 0 (116 :: x) false false false []]]], []) := fun x hx => by subst hx; rfl
  exact h [55] Ni7.symm
theorem awake_is : u_law35_awake = some (.bool true) := by
  rw [u_law35_awake.f_eq]
  have e := u_fill awk_good
  have e2 : fr awk = .tup [.agg 1 [.sl 8 (encV [.mk 4 0 0 [] false false false [.mk [105, 100] [.mk 3 0 0 [116, 55] false false false []]]])], .int .i64 1, .int .i64 0] := by
    unfold fr
    rw [if_pos awk_ok, awk_fi]; rfl
  rw [e2] at e
  exact (congrArg (fun x => Option.bind x _) e).trans rfl
theorem law_true (v : List Tm) (p : List Int) (hr : ∀ x ∈ p, inI x) : ωκ S1 3 [.agg 1 [.sl 8 (encV v)], .sl 1 (encP p)] = some (.bool true) := by
  show u_law35_ApplyFills (.agg 1 [.sl 8 (encV v)]) (.sl 1 (encP p)) = some (.bool true)
  rw [u_law35_ApplyFills.f_eq]
  obtain ⟨b, hb, hz⟩ := few_is v
  have hb1 : u_law09_Few (.agg 1 [.sl 8 (encV v)]) = some (.bool b) := up hb
  rw [hb1]
  simp only [someB, asB_, orK, awake_is, List.length_map]
  by_cases hc : b = true ∧ p.length ≤ 60
  · obtain ⟨rfl, hp⟩ := hc
    have hv := hz rfl
    have hg : Good (v, p) := ⟨hv, by simp only; omega, hr⟩
    rw [decide_eq_false (by omega), Bool.or_false, Bool.not_true, ifF]
    have e1 : u_apply_Fill (.agg 1 [.sl 8 (encV v)]) (.sl 1 (encP p)) = some (fr (v, p)) := u_fill hg
    have e2 : u_ref35_Fill (.agg 1 [.sl 8 (encV v)]) (.sl 1 (encP p)) = some (fr (v, p)) := by
      have := Fill35_is p hg.2.1 hr v hv
      refine up (this.trans ?_)
      unfold fr
      simp only
      split <;> rfl
    rw [e1, e2]
    cases hok : okV Rn v && seL true v with
    | true =>
      have hok' := hok
      rw [Bool.and_eq_true] at hok
      have hs := szV_fi v p
      have e3 : u_ref08_Same (.agg 1 [.sl 8 (encV (fiL Ni v p).1)]) (.agg 1 [.sl 8 (encV (fiL Ni v p).1)]) = some (.bool true) := by
        refine up ((same8_is (by omega)).trans ?_)
        rw [cmpV_self]; rfl
      have e4 : u_ref11_Refines (.agg 1 [.sl 8 (encV (fiL Ni v p).1)]) (.agg 1 [.sl 8 (encV v)]) = some (.bool true) := up ((refines_is _ v (by omega) hv).trans (by rw [filled_ok hok.1 hok.2]))
      have ef : fr (v, p) = .tup [.agg 1 [.sl 8 (encV (fiL Ni v p).1)], .int .i64 ((p.length - (fiL Ni v p).2.length : Nat) : Int), .int .i64 0] := by
        unfold fr
        rw [if_pos hok']
      rw [ef]
      simp only [someB, asT3_, asC1, asI_, e3, e4, asB_, decide_true, Bool.not_true, Bool.or_false, Bool.or_self, ifF, ifT]
    | false =>
      have e3 : u_ref08_Same (.agg 1 [.sl 8 (encV [])]) (.agg 1 [.sl 8 (encV [])]) = some (.bool true) := up (same8_is (by simp [szV]))
      have ef : fr (v, p) = .tup [.agg 1 [.sl 8 (encV [])], .int .i64 0, .int .i64 1] := by
        unfold fr
        rw [if_neg (by simp [hok])]; rfl
      rw [ef]
      simp only [someB, asT3_, asC1, asI_, e3, asB_, decide_true, Bool.not_true, Bool.or_false, Bool.or_self, ifF, ifT]
      rfl
  · have : (!b || decide ((60 : Int) < (p.length : Int))) = true := by
      cases b with
      | false => rfl
      | true => simp at hc ⊢; omega
    rw [this, ifT]
end Go.Proofs.YtffojfcinkihnaaDoor.Lat
