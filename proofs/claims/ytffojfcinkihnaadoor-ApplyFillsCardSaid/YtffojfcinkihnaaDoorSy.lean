/- apply.Fill is told: its place among the oracles, and the law's own equations (printed by sy.py). -/
import Derived.Test.YtffojfcinkihnaaDoorLC
import Derived.Test.YtffojfcinkihnaaDoorFm
import Derived.Test.YtffojfcinkihnaaDoorFi
import Derived.Test.YtffojfcinkihnaaDoorUp
set_option linter.unusedVariables false
set_option linter.unusedSimpArgs false
set_option linter.unusedSectionVars false
set_option linter.deprecated false
set_option linter.unnecessarySimpa false
namespace Go.Proofs.YtffojfcinkihnaaDoor.Lat
open Go.RowKit Go.Proofs.YtffojfcinkihnaaDoor.Abs
set_option linter.unusedVariables false
set_option maxRecDepth 100000
/-- The arguments of Fill, and what it comes to. -/
def fa (p : List Tm × List Int) : List AV := [.agg 1 [.sl 8 (encV p.1)], .sl 1 (encP p.2)]
def Good (p : List Tm × List Int) : Prop := szV p.1 ≤ 1073741824 ∧ p.2.length ≤ 1073741824 ∧ ∀ x ∈ p.2, inI x
def fr (p : List Tm × List Int) : AV := if (okV Rn p.1 && seL true p.1) = true then .tup [.agg 1 [.sl 8 (encV (fiL Ni p.1 p.2).1)], .int .i64 ((p.2.length - (fiL Ni p.1 p.2).2.length : Nat) : Int), .int .i64 0] else .tup [.agg 1 [.sl 8 []], .int .i64 0, .int .i64 1]
noncomputable def oFill (l : List AV) : Option AV := open Classical in if h : ∃ p, Good p ∧ l = fa p then some (fr (Classical.choose h)) else none
theorem fa_inj {p q : List Tm × List Int} (h : fa p = fa q) : p = q := by
  obtain ⟨a, b⟩ := p
  obtain ⟨a', b'⟩ := q
  simp only [fa, List.cons.injEq, AV.agg.injEq, AV.sl.injEq, true_and, and_true] at h
  rw [encV_inj _ _ h.1, encP_inj _ _ h.2]
theorem oFill_of {l : List AV} {r : AV} (h : oFill l = some r) : ∃ p, Good p ∧ l = fa p ∧ r = fr p := by
  unfold oFill at h
  split at h
  · rename_i hx
    cases h
    exact ⟨_, (Classical.choose_spec hx).1, (Classical.choose_spec hx).2, rfl⟩
  · cases h
theorem oFill_at {p : List Tm × List Int} (hp : Good p) : oFill (fa p) = some (fr p) := by
  unfold oFill
  have hx : ∃ q, Good q ∧ fa p = fa q := ⟨p, hp, rfl⟩
  rw [dif_pos hx]
  have := fa_inj (Classical.choose_spec hx).2
  rw [← this]
noncomputable def S1 : Abs.Sys := withO S 6 oFill
theorem up {f : Nat} {l : List AV} {v : AV} (h : ωκ S f l = some v) : ωκ S1 f l = some v := ω_up S 6 oFill rfl h
theorem arg_one {w : World} {c : Cls} {v : Value} {a : AV} (h : ArgR w c v (.agg 1 [a])) : ∃ u, v = .agg #[u] ∧ Rep w c u a := by
  rcases h with h | h
  · obtain ⟨vs, rfl, h1, h2, h3⟩ := (show AggR w c v 1 [a] from h)
    obtain ⟨l⟩ := vs
    match l, h1 with
    | [u], _ => exact ⟨u, rfl, h3 0 a u rfl rfl⟩
  · cases h
theorem ready_any (ts : List Tm) (v : Value) (w : World) (c : Cls) (hs : szV ts ≤ 1073741824) (hr : Rep w c v (.sl 8 (encV ts))) (hG : GOK τ w c) : Calls Tryd.prog 12 #[.agg #[v]] w fun e w' => e = .returned (.bool (okV Rn ts && seL true ts)) ∧ Below w.heap.size w w' := by
  refine (Fl.calls_plain sysOK (show ωκ S 12 _ = _ from readyP_is ts hs) (vs := #[.agg #[v]]) (c := c) Tryd.func12 rfl (by decide +kernel) hG rfl (fun i x a hx ha => ?_)).mono fun e w' ⟨x, c', he, hx, hr⟩ => ?_
  · rcases i with _ | i
    · simp at hx ha
      subst hx; subst ha
      exact .inl ⟨_, rfl, rfl, rfl, fun j a u ha hu => by
        rcases j with _ | j
        · simp at ha hu; subst ha; subst hu; exact hr
        · simp at ha⟩
    · simp at hx
  · obtain rfl := rep_bool (show Rep w' c' x (.bool _) from hr)
    exact ⟨he, Fl.ext_below hx⟩
theorem pcFill {p : List Tm × List Int} (hp : Good p) : PC Tryd.prog τ 6 (fa p) (fr p) := by
  intro w c vs hG hsz ha
  obtain ⟨v, u, rfl, hv, hu⟩ := two_args hsz ha
  obtain ⟨v1, rfl, hv1⟩ := arg_one hv
  have hu : Rep w c u (.sl 1 (encP p.2)) := by rcases hu with hu | hu <;> exact hu
  refine .inl ⟨by simp [callFunc, Tryd.func6, (show ¬ Tryd.f6.name = "runtime.NumGoroutine" by decide +kernel), (show Tryd.f6.body = some _ from rfl)], ?_⟩
  refine (Fl.Fill_any Ni Rn firmOKn ready_any p.2 hp.2.1 (fun x hx => by have := hp.2.2 x hx; exact ⟨this.1, by have := this.2; omega⟩) p.1 v1 u w c hp.1 hv1 hu hG).mono fun e w' ⟨hB, h⟩ => ?_
  have hx := Abs.ext_cut c hB
  rcases h with ⟨hb, v', fp, u', rfl, hO, hd, hle⟩ | ⟨hb, rfl⟩
  · refine ⟨_, rfl, _, hx, ?_⟩
    unfold fr
    rw [if_pos hb, hd]
    have hu' : p.2.length - (p.2.drop u').length = u' := by rw [List.length_drop]; omega
    rw [hu']
    refine ⟨_, rfl, rfl, fun i x y hx' hy => ?_⟩
    rcases i with _ | _ | _ | i
    · simp at hx' hy
      subst hx'; subst hy
      exact ⟨_, rfl, rfl, rfl, fun j a z ha hz => by
        rcases j with _ | j
        · simp at ha hz; subst ha; subst hz; exact hO.rep (fun b hb => by simp; omega)
        · simp at ha⟩
    · simp at hx' hy; subst hx'; subst hy; exact .int _ _
    · simp at hx' hy; subst hx'; subst hy; exact .int _ _
    · simp at hx'
  · refine ⟨_, rfl, _, hx, ?_⟩
    unfold fr
    rw [if_neg (by rw [hb]; simp)]
    refine ⟨_, rfl, rfl, fun i x y hx' hy => ?_⟩
    rcases i with _ | _ | _ | i
    · simp at hx' hy
      subst hx'; subst hy
      exact ⟨_, rfl, rfl, rfl, fun j a z ha hz => by
        rcases j with _ | j
        · simp at ha hz; subst ha; subst hz; exact .nil _
        · simp at ha⟩
    · simp at hx' hy; subst hx'; subst hy; exact .int _ _
    · simp at hx' hy; subst hx'; subst hy; exact .int _ _
    · simp at hx'
theorem sysOK1 : SysOK Tryd.prog S1 := ⟨sysOK.tab, sysOK.fol, fun f g h l r hr => by
  by_cases hf : f = 6
  · subst hf
    rw [S1, withO_at] at h
    cases h
    obtain ⟨p, hp, rfl, rfl⟩ := oFill_of hr
    exact pcFill hp
  · rw [S1, withO_ne _ _ _ hf] at h
    exact sysOK.or f g h l r hr, fun f d h => sysOK.fn f d h⟩
noncomputable def u_law09_Few (a0 : AV) : Option AV := ωκ S1 4 [a0]
noncomputable def u_law35_awake : Option AV := ωκ S1 5 []
noncomputable def u_apply_Fill (a0 a1 : AV) : Option AV := ωκ S1 6 [a0, a1]
noncomputable def u_ref35_Fill (a0 a1 : AV) : Option AV := ωκ S1 7 [a0, a1]
noncomputable def u_ref08_Same (a0 a1 : AV) : Option AV := ωκ S1 8 [a0, a1]
noncomputable def u_ref11_Refines (a0 a1 : AV) : Option AV := ωκ S1 9 [a0, a1]
noncomputable def u_law35_ApplyFills (a0 a1 : AV) : Option AV := ωκ S1 3 [a0, a1]
theorem urun5 (l : List AV) : ωκ S1 5 l = runM τ (fun _ => none) (ωκ S1) [0] lpκ d5.code (Abs.look (argEnv 0 l)) (retV τ d5.rs) :=
  ωκ_run S1 5 l d5 rfl (by show (Tryd.prog.funcs[5]?).bind toFD = _; rw [Tryd.func5]; rfl)
theorem u_law35_awake.f_eq  : u_law35_awake = ((u_apply_Fill (AV.agg 1 [AV.sl 8 ([[AV.int .i64 4, AV.int .i64 0, AV.int .i64 0, AV.str [], AV.bool false, AV.bool false, AV.bool false, AV.sl 2 ([[AV.str [105, 100], AV.sl 8 ([[AV.int .i64 3, AV.int .i64 0, AV.int .i64 0, AV.str [], AV.bool true, AV.bool true, AV.bool false, AV.sl 2 []]])]])]])]) (AV.sl 1 ([[AV.int .i64 7]]))).bind fun r1 => asT3 r1 fun a2 a3 a4 => asC 1 a2 fun c5 => asI .i64 a3 fun n6 => asI .i64 a4 fun n7 => (ifB (decide ((n7 : Int) = 0)) (some (decide ((n6 : Int) = 1))) (some false) : Option Bool).bind fun b8 => (ifB b8 (getC c5 0 fun a10 => asL 8 a10 fun l11 => some (decide (((List.length l11 : Int) : Int) = 1))) (some false) : Option Bool).bind fun b9 => (ifB b9 (getC c5 0 fun a13 => asL 8 a13 fun l14 => idx l14 0 fun c15 => getC c15 7 fun a16 => asL 2 a16 fun l17 => some (decide (((List.length l17 : Int) : Int) = 1))) (some false) : Option Bool).bind fun b12 => (ifB b12 (getC c5 0 fun a19 => asL 8 a19 fun l20 => idx l20 0 fun c21 => getC c21 7 fun a22 => asL 2 a22 fun l23 => idx l23 0 fun c24 => getC c24 1 fun a25 => asL 8 a25 fun l26 => idx l26 0 fun c27 => getC c27 3 fun a28 => asS a28 fun s29 => some (decide ((s29 : List UInt8) = [116, 55]))) (some false) : Option Bool).bind fun b18 => some (AV.bool b18)) :=
  (urun5 _).trans (by kernel_rfl)
theorem urun3 (l : List AV) : ωκ S1 3 l = runM τ (fun _ => none) (ωκ S1) [4] lpκ d3.code (Abs.look (argEnv 0 l)) (retV τ d3.rs) :=
  ωκ_run S1 3 l d3 rfl (by show (Tryd.prog.funcs[3]?).bind toFD = _; rw [Tryd.func3]; rfl)
theorem u_law35_ApplyFills.f_eq (c1 : List AV) (l2 : List (List AV)) : u_law35_ApplyFills (AV.agg 1 c1) (AV.sl 1 l2) = ((u_law09_Few (AV.agg 1 c1)).bind fun r3 => asB r3 fun b4 => (ifB (!b4) (some true) (some (decide ((60 : Int) < (List.length l2 : Int)))) : Option Bool).bind fun b5 => ifB b5 (u_law35_awake.bind fun r6 => asB r6 fun b7 => some (AV.bool b7)) ((u_apply_Fill (AV.agg 1 c1) (AV.sl 1 l2)).bind fun r8 => asT3 r8 fun a9 a10 a11 => asC 1 a9 fun c12 => asI .i64 a10 fun n13 => asI .i64 a11 fun n14 => (u_ref35_Fill (AV.agg 1 c1) (AV.sl 1 l2)).bind fun r15 => asT3 r15 fun a16 a17 a18 => asC 1 a16 fun c19 => asI .i64 a17 fun n20 => asI .i64 a18 fun n21 => (u_ref08_Same (AV.agg 1 c12) (AV.agg 1 c19)).bind fun r22 => asB r22 fun b23 => (ifB (!b23) (some true) (some (!decide ((n13 : Int) = n20))) : Option Bool).bind fun b24 => (ifB b24 (some true) (some (!decide ((n14 : Int) = n21))) : Option Bool).bind fun b25 => ifB b25 (some (AV.bool false)) (u_law35_awake.bind fun r26 => asB r26 fun b27 => (ifB b27 ((ifB (!decide ((n14 : Int) = 0)) (some true) ((u_ref11_Refines (AV.agg 1 c12) (AV.agg 1 c1)).bind fun r30 => asB r30 fun b31 => some b31) : Option Bool).bind fun b29 => some b29) (some false) : Option Bool).bind fun b28 => some (AV.bool b28)))) :=
  (urun3 _).trans (by kernel_rfl)
theorem u_fill {p : List Tm × List Int} (hp : Good p) : u_apply_Fill (.agg 1 [.sl 8 (encV p.1)]) (.sl 1 (encP p.2)) = some (fr p) := by
  have : ωκ S1 6 (fa p) = oFill (fa p) := by rw [ωκ_eq]; exact ω_O S1 6 _ oFill (withO_at S 6 oFill)
  show ωκ S1 6 (fa p) = some (fr p)
  rw [this]; exact oFill_at hp
end Go.Proofs.YtffojfcinkihnaaDoor.Lat

