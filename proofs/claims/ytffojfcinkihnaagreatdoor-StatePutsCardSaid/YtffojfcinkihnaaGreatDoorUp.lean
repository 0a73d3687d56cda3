/- A system with one more oracle tells no less. -/
import Derived.Test.YtffojfcinkihnaaGreatDoorMF
set_option linter.unusedVariables false
set_option linter.unusedSimpArgs false
set_option linter.unusedSectionVars false
set_option linter.deprecated false
set_option linter.unnecessarySimpa false
namespace Go.Proofs.YtffojfcinkihnaaGreatDoor.Abs
set_option linter.unusedVariables false
/-- Function k by g. -/
noncomputable def withO (S : Sys) (k : Nat) (g : List AV → Option AV) : Sys := ⟨S.τ, S.ann, fun f => pick2 (Nat.beq f k) (some g) (S.O f), S.F⟩
theorem withO_at (S : Sys) (k : Nat) (g : List AV → Option AV) : (withO S k g).O k = some g := by
  show pick2 (Nat.beq k k) (some g) (S.O k) = some g
  rw [Nat.beq_refl]; rfl
theorem withO_ne (S : Sys) (k : Nat) (g : List AV → Option AV) {f : Nat} (h : f ≠ k) : (withO S k g).O f = S.O f := by
  show pick2 (Nat.beq f k) (some g) (S.O f) = S.O f
  have : Nat.beq f k = false := by cases hb : Nat.beq f k with | false => rfl | true => exact absurd (Nat.eq_of_beq_eq_true hb) h
  rw [this]; rfl
theorem acall_le (S : Sys) (k : Nat) (g : List AV → Option AV) (hk : S.O k = some fun _ => none) : ∀ n f l, Le (acall S n f l) (acall (withO S k g) n f l)
  | 0, _, _ => fun v h => by cases h
  | n + 1, f, l => by
    by_cases hf : f = k
    · subst hf
      intro v h
      unfold acall at h
      rw [hk] at h; cases h
    · unfold acall
      rw [withO_ne S k g hf]
      cases S.O f with
      | some g' => exact Le.refl _
      | none =>
        show Le (match S.F f with | some d => bodyRun S (acall S n) (iter n) f d l | none => none) (match S.F f with | some d => bodyRun (withO S k g) (acall (withO S k g) n) (iter n) f d l | none => none)
        cases S.F f with
        | none => exact Le.refl _
        | some d => exact run_le S.τ _ _ (fun f l => acall_le S k g hk n f l) (iter_lle (Nat.le_refl _)) (iter_lle (Nat.le_refl _)) _ _ _ _ fun _ _ => Le.refl _
theorem ω_up (S : Sys) (k : Nat) (g : List AV → Option AV) (hk : S.O k = some fun _ => none) {f : Nat} {l : List AV} {v : AV} (h : ωκ S f l = some v) : ωκ (withO S k g) f l = some v := by
  rw [ωκ_eq] at h ⊢
  obtain ⟨n, hn⟩ := ω_some.1 h
  exact ω_some.2 ⟨n, acall_le S k g hk n f l v hn⟩
end Go.Proofs.YtffojfcinkihnaaGreatDoor.Abs
