/- The oracles hold. -/
import Derived.Test.YtmdimhcjogjcgaaGreatDoorAbsT
import Derived.Test.YtmdimhcjogjcgaaGreatDoorMA
import Derived.Test.YtmdimhcjogjcgaaGreatDoorMF
set_option linter.unusedVariables false
set_option linter.unusedSimpArgs false
set_option linter.unusedSectionVars false
set_option linter.deprecated false
set_option linter.unnecessarySimpa false
namespace Go.Proofs.YtmdimhcjogjcgaaGreatDoor.Abs
open Go.RowKit
theorem ext_cut {w W : World} (c : Cls) (h : Below w.heap.size w W) : Ext w.heap.size w c W (fun b => if b < w.heap.size then c b else .frz) :=
  ⟨h.os, h.tape, h.output, h.size, fun b hb _ => ⟨h.block b hb, by simp [hb]⟩, fun b i v hv hs => by
    have hb := cell_lt hv
    exact ⟨by rw [cell_heap (w := w) (h.block b hb)]; exact hv, by unfold stab at *; simpa [hb] using hs⟩⟩
theorem pc_of {P : Program} {τ : Tab} {f : Nat} {l : List AV} {r : AV} {fn : Func} {cd : Code} (hf : P.funcs[f]? = some fn) (hb : fn.body = some cd) (hnm : ¬ fn.name = "runtime.NumGoroutine")
    (h : ∀ (w : World) (c : Cls) (vs : Array Value), GOK τ w c → vs.size = l.length → (∀ (i : Nat) (v : Value) (a : AV), vs[i]? = some v → l[i]? = some a → ArgR w c v a) →
      Calls P f vs w fun e w' => ∃ v, e = .returned v ∧ Below w.heap.size w w' ∧ ∀ c', ResR w.heap.size w' c' v r) : PC P τ f l r := by
  intro w c vs hG hsz ha
  refine .inl ⟨by simp [callFunc, hf, hnm, hb], (h w c vs hG hsz ha).mono fun e w' ⟨v, he, hB, hr⟩ => ⟨v, he, _, ext_cut c hB, hr _⟩⟩
theorem one_arg {w : World} {c : Cls} {vs : Array Value} {x : AV} (hsz : vs.size = [x].length) (ha : ∀ (i : Nat) (v : Value) (a : AV), vs[i]? = some v → [x][i]? = some a → ArgR w c v a) : ∃ v, vs = #[v] ∧ ArgR w c v x := by
  obtain ⟨l⟩ := vs
  match l, hsz with
  | [v], _ => exact ⟨v, rfl, ha 0 v x rfl rfl⟩
theorem arg_int {w : World} {c : Cls} {v : Value} {k : IntKind} {n : Int} (h : ArgR w c v (.int k n)) : v = .int k n := by rcases h with h | h <;> exact rep_int h
theorem arg_str {w : World} {c : Cls} {v : Value} {s : List UInt8} (h : ArgR w c v (.str s)) : ∃ b : ByteArray, v = .string b ∧ b.data.toList = s := by rcases h with h | h <;> exact rep_str h
theorem words_at {w : World} {c : Cls} {g : Nat} (hg : τ.G g = some wordsL) (hG : GOK τ w c) : w.rangeAt g 0 Nam.wordsA.toList := by
  obtain ⟨b, o, h1, _, f, h2, _, h4⟩ := rep_eptr (hG g _ hg)
  simp only [Nat.add_zero, Value.pointer.injEq, Option.some.injEq, Addr.mk.injEq, and_true] at h1
  obtain ⟨rfl, rfl⟩ := h1
  intro j v hv
  have hj : j < 9 := by have := (List.getElem?_eq_some_iff.1 hv).1; simpa [Nam.wordsA] using this
  rw [h2 j hj]
  obtain ⟨a, ha⟩ : ∃ a, wordsL[j]? = some a := ⟨_, List.getElem?_eq_getElem (by simpa [wordsL] using hj)⟩
  have h5 := h4 j a ha
  have key : ∀ (s : List UInt8) (b : ByteArray), b.data.toList = s → Rep w c (f j) (.str s) → f j = .string b := fun s b hb hr => by
    obtain ⟨b', e1, e2⟩ := rep_str hr
    rw [e1]
    congr 1
    apply ByteArray.ext
    apply Array.ext'
    rw [e2, hb]
  rcases (by omega : j = 0 ∨ j = 1 ∨ j = 2 ∨ j = 3 ∨ j = 4 ∨ j = 5 ∨ j = 6 ∨ j = 7 ∨ j = 8) with rfl | rfl | rfl | rfl | rfl | rfl | rfl | rfl | rfl
  all_goals (simp only [wordsL, List.getElem?_cons_zero, List.getElem?_cons_succ, Option.some.injEq] at ha; subst ha; simp [Nam.wordsA, Nam.word] at hv; subst hv; congr 1; exact key _ _ rfl h5)
theorem pcNumText (l : List AV) (r : AV) (h : oNumText l = some r) : PC Tryz.prog τ 183 l r := by
  unfold oNumText at h
  split at h
  · rename_i n
    split at h
    · rename_i hn
      cases h
      refine pc_of Tryz.func183 rfl (by decide +kernel) fun w c vs hG hsz ha => ?_
      obtain ⟨v, rfl, hv⟩ := one_arg hsz ha
      obtain rfl := arg_int hv
      exact (NT.text_any n w hn).mono fun e w' ⟨he, hB⟩ => ⟨_, he, hB, fun c' => Rep.str _⟩
    · cases h
  · cases h
theorem pcNameRight (l : List AV) (r : AV) (h : oNameRight l = some r) : PC Tryz.prog τ 101 l r := by
  unfold oNameRight at h
  split at h
  · cases h
    refine pc_of Tryz.func101 rfl (by decide +kernel) fun w c vs hG hsz ha => ?_
    obtain ⟨v, rfl, hv⟩ := one_arg hsz ha
    obtain ⟨b, rfl, rfl⟩ := arg_str hv
    exact (Nam.right_any b w (words_at (g := 0) rfl hG)).mono fun e w' ⟨he, hB⟩ => ⟨_, he, hB, fun c' => Rep.bool _⟩
  · cases h
theorem two_args {w : World} {c : Cls} {vs : Array Value} {x y : AV} (hsz : vs.size = [x, y].length) (ha : ∀ (i : Nat) (v : Value) (a : AV), vs[i]? = some v → [x, y][i]? = some a → ArgR w c v a) : ∃ v u, vs = #[v, u] ∧ ArgR w c v x ∧ ArgR w c u y := by
  obtain ⟨l⟩ := vs
  match l, hsz with
  | [v, u], _ => exact ⟨v, u, rfl, ha 0 v x rfl rfl, ha 1 u y rfl rfl⟩
theorem pcCmp (l : List AV) (r : AV) (h : oCmp l = some r) : PC Tryz.prog τ 286 l r := by
  unfold oCmp at h
  split at h
  · cases h
    intro w c vs hG hsz ha
    obtain ⟨v, u, rfl, hv, hu⟩ := two_args hsz ha
    obtain ⟨a, rfl, rfl⟩ := arg_str hv
    obtain ⟨b, rfl, rfl⟩ := arg_str hu
    refine .inr ⟨_, w, ?_, c, Ext.refl _ _ _, Rep.int _ _⟩
    rw [run_callFunc_extern (e := Extern.BytealgCompare.compare) Tryz.func286 (by kernel_rfl) rfl (by kernel_rfl) (by kernel_rfl)]
    rw [Lib.run_compareString]
    rfl
  · cases h
theorem orOK (f : Nat) (g : List AV → Option AV) (h : OO f = some g) (l : List AV) (r : AV) (hr : g l = some r) : PC Tryz.prog τ f l r := by
  by_cases h1 : f = 183
  · subst h1
    cases (show OO 183 = some oNumText from rfl).symm.trans h
    exact pcNumText l r hr
  by_cases h2 : f = 101
  · subst h2
    cases (show OO 101 = some oNameRight from rfl).symm.trans h
    exact pcNameRight l r hr
  by_cases h3 : f = 286
  · subst h3
    cases (show OO 286 = some oCmp from rfl).symm.trans h
    exact pcCmp l r hr
  by_cases h4 : f = 78
  · subst h4
    cases (show OO 78 = some oNone from rfl).symm.trans h
    cases hr
  by_cases h5 : f = 195
  · subst h5
    cases (show OO 195 = some oNone from rfl).symm.trans h
    cases hr
  by_cases h6 : f = 22
  · subst h6
    cases (show OO 22 = some oNone from rfl).symm.trans h
    cases hr
  by_cases h7 : f = 107
  · subst h7
    cases (show OO 107 = some oNone from rfl).symm.trans h
    cases hr
  by_cases h8 : f = 186
  · subst h8
    cases (show OO 186 = some oNone from rfl).symm.trans h
    cases hr
  by_cases h9 : f = 100
  · subst h9
    cases (show OO 100 = some oNone from rfl).symm.trans h
    cases hr
  by_cases h10 : f = 13
  · subst h10
    cases (show OO 13 = some oNone from rfl).symm.trans h
    cases hr
  have e1 : Nat.beq f 183 = false := beq_ne h1
  have e2 : Nat.beq f 101 = false := beq_ne h2
  have e3 : Nat.beq f 286 = false := beq_ne h3
  have e4 : Nat.beq f 78 = false := beq_ne h4
  have e5 : Nat.beq f 195 = false := beq_ne h5
  have e6 : Nat.beq f 22 = false := beq_ne h6
  have e7 : Nat.beq f 107 = false := beq_ne h7
  have e8 : Nat.beq f 186 = false := beq_ne h8
  have e9 : Nat.beq f 100 = false := beq_ne h9
  have e10 : Nat.beq f 13 = false := beq_ne h10
  have h0 : OO f = none := by
    unfold OO
    rw [e1, e2, e3, e4, e5, e6, e7, e8, e9, e10]
    simp only [pick2]
    repeat' split
    all_goals rfl
  rw [h0] at h; cases h
end Go.Proofs.YtmdimhcjogjcgaaGreatDoor.Abs
namespace Go.Proofs.YtmdimhcjogjcgaaGreatDoor.Abs
set_option maxRecDepth 100000
theorem tabs : tabChk Tryz.prog TT 284 = true := by kernel_rfl
theorem sysOK : SysOK Tryz.prog S := ⟨tabOK_of rfl tabs, by kernel_rfl, orOK, fun f d h => by
  obtain ⟨fn, h1, h2⟩ := Option.bind_eq_some_iff.1 h
  exact ⟨fn, h1, h2⟩⟩
theorem calls {f : Nat} {l : List AV} {r : AV} (h : ωκ S f l = some r) : PC Tryz.prog τ f l r := contract sysOK h
end Go.Proofs.YtmdimhcjogjcgaaGreatDoor.Abs
