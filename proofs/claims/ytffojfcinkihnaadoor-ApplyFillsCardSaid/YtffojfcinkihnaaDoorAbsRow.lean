/- A law's call, as a row asks for it. -/
import Derived.Test.YtffojfcinkihnaaDoorAbsOp
set_option linter.unusedVariables false
set_option linter.unusedSimpArgs false
set_option linter.unusedSectionVars false
set_option linter.deprecated false
set_option linter.unnecessarySimpa false
namespace Go.Proofs.YtffojfcinkihnaaDoor.Abs
open Go.RowKit
set_option linter.unusedVariables false
section
variable {P : Program} {S : Sys} {w : World} {H : Type} {enc : TypeId × Value → H} {spare : Nat → Bool} {D : Nat → Prop}
theorem Ext.below {c c' : Cls} {w' : World} (h : Ext w.heap.size w c w' c') : Below w.heap.size w w' := ⟨h.os, h.tape, h.output, h.size, fun k hk => (h.old k hk hk).1⟩
/-- A law that answers true. -/
theorem law_calls (hS : SysOK P S) {f : Nat} {l : List AV} {t : Bool} (h : ωκ S f l = some (.bool t)) {vs : Array Value} {fn : Func} {cd : Code} (hf : P.funcs[f]? = some fn) (hb : fn.body = some cd) (hnm : ¬ fn.name = "runtime.NumGoroutine") (hG : GOK S.τ w allFrz)
    (hsz : vs.size = l.length) (hargs : ∀ (i : Nat) (v : Value) (a : AV), vs[i]? = some v → l[i]? = some a → ArgR w allFrz v a) : Calls P f vs w fun e w' => e = .returned (.bool t) ∧ Below w.heap.size w w' := by
  have hent : (callFunc f vs).run P w = .ok (.enter f vs) w := by simp [callFunc, hf, hnm, hb]
  rcases contract hS h w allFrz vs hG hsz hargs with ⟨_, hc⟩ | ⟨v, w', hc, _⟩
  · refine hc.mono fun e w' hv => ?_
    obtain ⟨v, rfl, c', hx, hr⟩ := hv
    obtain rfl : v = .bool t := rep_bool hr
    exact ⟨rfl, hx.below⟩
  · rw [hent] at hc; cases hc
/-- An argument that is no struct. -/
theorem open_one (hT : TabOK P S.τ) (hD : DataT S.τ D) {t : Nat} {v : Value} {d : DataW H} {p : List MemPlace} (hDt : D t) (hv : ∀ cs, v ≠ .agg cs) (h : DataW.Trod enc P w 0 spare true t v d p) : ∃ a, HasTy S.τ t [a] ∧ Rep w allFrz v a := by
  obtain ⟨fuel, h⟩ := h
  obtain ⟨as_, h1, h2, h3⟩ := trod_open hT hD fuel t _ d p hDt h
  have hc : v.cells = #[v] := by cases v <;> first | rfl | exact absurd rfl (hv _)
  rw [hc] at h1 h3
  obtain ⟨a, rfl⟩ : ∃ a, as_ = [a] := List.length_eq_one_iff.1 (by simpa using h1)
  exact ⟨a, h2, h3 0 v a rfl rfl⟩
/-- A struct. -/
theorem open_agg (hT : TabOK P S.τ) (hD : DataT S.τ D) {t : Nat} {cs : Array Value} {d : DataW H} {p : List MemPlace} {ti : TI} (hDt : D t) (ht : S.τ.T t = some ti) (hl : cs.size = ti.sz) (h : DataW.Trod enc P w 0 spare true t (.agg cs) d p) :
    ∃ as_, HasTy S.τ t as_ ∧ as_.length = ti.sz ∧ ArgR w allFrz (.agg cs) (.agg ti.sz as_) := by
  obtain ⟨fuel, h⟩ := h
  obtain ⟨as_, h1, h2, h3⟩ := trod_open hT hD fuel t _ d p hDt h
  have h1 : as_.length = cs.size := by simpa [Value.cells] using h1
  exact ⟨as_, h2, by omega, .inl ⟨cs, rfl, hl, by omega, fun j a u ha hu => h3 j u a (by simpa [Value.cells] using hu) ha⟩⟩
theorem argR_of {v : Value} {a : AV} (h : Rep w allFrz v a) : ArgR w allFrz v a := .inr h
end
end Go.Proofs.YtffojfcinkihnaaDoor.Abs
