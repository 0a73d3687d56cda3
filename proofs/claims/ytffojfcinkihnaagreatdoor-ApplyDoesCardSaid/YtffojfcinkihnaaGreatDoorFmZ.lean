/- apply.firm: its contract, in any world (printed by fm.py). -/
import Derived.Test.YtffojfcinkihnaaGreatDoorLJ
import Derived.Test.YtffojfcinkihnaaGreatDoorFlZ
import Derived.Test.YtffojfcinkihnaaGreatDoorMO
set_option linter.unusedVariables false
set_option linter.unusedSimpArgs false
set_option linter.unusedSectionVars false
set_option linter.deprecated false
set_option linter.unnecessarySimpa false
namespace Go.Proofs.YtffojfcinkihnaaGreatDoor.Lat
open Go.RowKit Go.Proofs.YtffojfcinkihnaaGreatDoor.Abs
set_option maxRecDepth 100000
noncomputable def τg : Tab := { τ with G := fun _ => none }
noncomputable def Sg : Abs.Sys := ⟨τg, ann, fun f => pick2 (Nat.beq f 155) (some oNumText) none, fun f => (Tryz.prog.funcs[f]?).bind toFD⟩
theorem pcTextG (l : List AV) (r : AV) (h : oNumText l = some r) : PC Tryz.prog τg 155 l r := by
  unfold oNumText at h
  split at h
  · rename_i n
    split at h
    · rename_i hn
      cases h
      refine pc_of Tryz.func155 rfl (by decide +kernel) fun w c vs hG hsz ha => ?_
      obtain ⟨v, rfl, hv⟩ := one_arg hsz ha
      obtain rfl := arg_int hv
      exact (NT.text_any n w hn).mono fun e w' ⟨he, hB⟩ => ⟨_, he, hB, fun c' => Rep.str _⟩
    · cases h
  · cases h
theorem sysOKg : SysOK Tryz.prog Sg := ⟨tabOK_of rfl tabs, sysOK.fol, fun f g h l r hr => by
  cases hb : Nat.beq f 155 with
  | false => have h : pick2 (Nat.beq f 155) (some oNumText) none = some g := h; rw [hb] at h; cases h
  | true =>
    obtain rfl : f = 155 := Nat.eq_of_beq_eq_true hb
    cases (show some oNumText = some g from h)
    exact pcTextG l r hr, fun f d h => sysOK.fn f d h⟩
noncomputable def gfirm (a0 a1 : AV) : Option AV := ωκ Sg 117 [a0, a1]
noncomputable def gmod (a0 a1 : AV) : Option AV := ωκ Sg 154 [a0, a1]
noncomputable def gtruth (a0 : AV) : Option AV := ωκ Sg 153 [a0]
noncomputable def gtext (a0 : AV) : Option AV := ωκ Sg 155 [a0]
theorem grun117 (l : List AV) : ωκ Sg 117 l = runM τg (fun _ => none) (ωκ Sg) [] lpκ d117.code (Abs.look (argEnv 0 l)) (retV τg d117.rs) :=
  ωκ_run Sg 117 l d117 rfl (by show (Tryz.prog.funcs[117]?).bind toFD = _; rw [Tryz.func117]; rfl)
theorem gfirm.f_eq (c1 : List AV) (n2 : Int) : gfirm (AV.agg 8 c1) (AV.int .i64 n2) = (getC c1 0 fun a3 => asI .i64 a3 fun n4 => ifB (decide ((n4 : Int) = 1)) ((gmod (AV.int .i64 n2) (AV.int .i64 2)).bind fun r5 => asI .i64 r5 fun n6 => (gtruth (AV.bool (decide ((n6 : Int) = 1)))).bind fun r7 => asC 8 r7 fun c8 => some (AV.agg 8 c8)) (ifB (decide ((n4 : Int) = 2)) (getC c1 1 fun a9 => asI .i64 a9 fun n10 => getC c1 2 fun a11 => asI .i64 a11 fun n12 => getC c1 1 fun a13 => asI .i64 a13 fun n14 => (gmod (AV.int .i64 n2) (AV.int .i64 (w64 ((w64 (n12 - n14)) + 1)))).bind fun r15 => asI .i64 r15 fun n16 => some (AV.agg 8 [AV.int .i64 2, AV.int .i64 (w64 (n10 + n16)), AV.int .i64 (w64 (n10 + n16)), AV.str [], AV.bool false, AV.bool false, AV.bool false, AV.sl 2 []])) ((gtext (AV.int .i64 n2)).bind fun r17 => asS r17 fun s18 => guardK (Nat.ble (List.length [116] + List.length s18) lim) <| some (AV.agg 8 [AV.int .i64 3, AV.int .i64 0, AV.int .i64 0, AV.str ([116] ++ s18), AV.bool false, AV.bool false, AV.bool false, AV.sl 2 []])))) :=
  (grun117 _).trans (by kernel_rfl)
theorem grun154 (l : List AV) : ωκ Sg 154 l = runM τg (fun _ => none) (ωκ Sg) [4] lpκ d154.code (Abs.look (argEnv 0 l)) (retV τg d154.rs) :=
  ωκ_run Sg 154 l d154 rfl (by show (Tryz.prog.funcs[154]?).bind toFD = _; rw [Tryz.func154]; rfl)
theorem gmod.f_eq (n1 : Int) (n2 : Int) : gmod (AV.int .i64 n1) (AV.int .i64 n2) = (guardK (!decide ((n2 : Int) = 0)) <| ifB (decide ((Int.tmod n1 n2 : Int) < 0)) (some (AV.int .i64 (w64 ((Int.tmod n1 n2) + n2)))) (some (AV.int .i64 (Int.tmod n1 n2)))) :=
  (grun154 _).trans (by kernel_rfl)
theorem grun153 (l : List AV) : ωκ Sg 153 l = runM τg (fun _ => none) (ωκ Sg) [] lpκ d153.code (Abs.look (argEnv 0 l)) (retV τg d153.rs) :=
  ωκ_run Sg 153 l d153 rfl (by show (Tryz.prog.funcs[153]?).bind toFD = _; rw [Tryz.func153]; rfl)
theorem gtruth.f_eq (b1 : Bool) : gtruth (AV.bool b1) = (ifB b1 (some (AV.agg 8 [AV.int .i64 1, AV.int .i64 1, AV.int .i64 1, AV.str [], AV.bool false, AV.bool false, AV.bool false, AV.sl 2 []])) (some (AV.agg 8 [AV.int .i64 1, AV.int .i64 0, AV.int .i64 0, AV.str [], AV.bool false, AV.bool false, AV.bool false, AV.sl 2 []]))) :=
  (grun153 _).trans (by kernel_rfl)
theorem gtext_is {n : Int} (h : inI n) : gtext (.int .i64 n) = some (.str (Lib.itoa n)) := by
  have : ωκ Sg 155 [.int .i64 n] = oNumText [.int .i64 n] := by rw [ωκ_eq]; exact ω_O Sg 155 _ oNumText rfl
  rw [show gtext (.int .i64 n) = ωκ Sg 155 [.int .i64 n] from rfl, this]
  exact if_pos h
theorem gmod_is {p m : Int} (hp : inI p) (h0 : 0 < m) (h1 : m ≤ 36028797018963968) : gmod (.int .i64 p) (.int .i64 m) = some (.int .i64 (p % m)) := by
  unfold inI at hp
  rw [gmod.f_eq, decide_eq_false (by omega), Bool.not_false, guT]
  have he := Int.emod_add_mul_ediv p m
  have hlt := Int.emod_lt_of_pos p h0
  have hnn := Int.emod_nonneg p (show m ≠ 0 by omega)
  by_cases hneg : 0 ≤ p
  · rw [Int.tmod_eq_emod_of_nonneg hneg, decide_eq_false (by omega), ifF]
  · have ht : Int.tmod p m = -((-p) % m) := by rw [← Int.tmod_eq_emod_of_nonneg (a := -p) (by omega), Int.neg_tmod, Int.neg_neg]
    have hlt' := Int.emod_lt_of_pos (-p) h0
    have hnn' := Int.emod_nonneg (-p) (show m ≠ 0 by omega)
    rw [ht]
    by_cases hz : (-p) % m = 0
    · have : p % m = 0 := Int.emod_eq_zero_of_dvd ((Int.dvd_neg).1 (Int.dvd_of_emod_eq_zero hz))
      rw [hz, decide_eq_false (by omega), ifF, this]; rfl
    · rw [decide_eq_true (by omega), ifT, w64_id (by omega)]
      have : p % m = -((-p) % m) + m := by
        have h1 : p = (-((-p) % m) + m) + m * (-((-p) / m) - 1) := by
          have := Int.emod_add_mul_ediv (-p) m
          rw [Int.mul_sub, Int.mul_neg]; omega
        rw [show p % m = ((-((-p) % m) + m) + m * (-((-p) / m) - 1)) % m by rw [← h1], Int.add_mul_emod_self_left, Int.emod_eq_of_lt (by omega) (by omega)]
      rw [this]
theorem gfirm_is {t : Tm} (h : scal t = true) {p : Int} (hp : inI p) : gfirm (.agg 8 (encT t)) (.int .i64 p) = some (.agg 8 (encT (firm Lib.itoa t p))) := by
  rw [gfirm.f_eq, firm_eq]
  simp only [g0, g1, g2, asI_]
  by_cases h1 : t.k = 1
  · rw [decide_eq_true h1, ifT, if_pos h1, gmod_is hp (by omega) (by omega)]
    simp only [someB, asI_]
    rw [gtruth.f_eq]
    have : p % 2 = 0 ∨ p % 2 = 1 := by omega
    rcases this with e | e <;> rw [e] <;> rfl
  rw [decide_eq_false h1, ifF, if_neg h1]
  by_cases h2 : t.k = 2
  · have hb := scal2 h h2
    have hm : 0 < t.hi - t.lo + 1 ∧ t.hi - t.lo + 1 ≤ 36028797018963968 := by omega
    have hlt := Int.emod_lt_of_pos p hm.1
    have hnn := Int.emod_nonneg p (show t.hi - t.lo + 1 ≠ 0 by omega)
    rw [decide_eq_true h2, ifT, if_pos h2, w64_id (n := t.hi - t.lo) (by omega), w64_id (n := t.hi - t.lo + 1) (by omega), gmod_is hp hm.1 hm.2]
    simp only [someB, asI_]
    rw [w64_id (by omega)]; rfl
  · rw [decide_eq_false h2, ifF, if_neg h2, gtext_is hp]
    simp only [someB, asS_]
    exact (congrArg (fun b => guardK b _) (lim_t hp)).trans rfl
theorem firmOK : Fl.FirmOK Lib.itoa := fun k lo hi sb a o fv p W hs hf hp => by
  have hp' : inI p := ⟨hp.1, by have := hp.2; omega⟩
  have he := gfirm_is hs hp'
  have hrf : Rep W (fun _ => .frz) fv (.sl 2 []) := by
    cases hf with
    | nil => exact .nil _
    | emp => exact .emp _ _ _
  have hC := contract sysOKg (show ωκ Sg 117 _ = _ from he) W (fun _ => .frz) #[.agg #[.int .i64 k, .int .i64 lo, .int .i64 hi, .string sb, .bool a, .bool true, .bool o, fv], .int .i64 p] (fun g cs h => by cases h) rfl (fun i v x hv hx => by
    rcases i with _ | _ | i
    · simp at hv hx
      subst hv; subst hx
      refine .inl ⟨_, rfl, rfl, rfl, fun j y u hy hu => ?_⟩
      have hj := (List.getElem?_eq_some_iff.1 hy).1
      have hj : j < 8 := hj
      rcases (by omega : j = 0 ∨ j = 1 ∨ j = 2 ∨ j = 3 ∨ j = 4 ∨ j = 5 ∨ j = 6 ∨ j = 7) with rfl | rfl | rfl | rfl | rfl | rfl | rfl | rfl <;>
        (simp [encT] at hy hu; subst hy; subst hu; first | exact .int _ _ | exact .str _ | exact .bool _ | exact hrf)
    · simp at hv hx
      subst hv; subst hx
      exact .inr (.int _ _)
    · simp at hv)
  have hff := firm_fs Lib.itoa (.mk k lo hi sb.data.toList a true o []) p
  generalize firm Lib.itoa (.mk k lo hi sb.data.toList a true o []) p = t at hC hff
  obtain ⟨k', lo', hi', s', a', m', o', fs'⟩ := t
  simp only [Tm.fs] at hff
  subst hff
  have key : ∀ (v : Value) (w' : World), (∃ c', Ext W.heap.size W (fun _ => .frz) w' c' ∧ ResR W.heap.size w' c' v (.agg 8 (encT (.mk k' lo' hi' s' a' m' o' [])))) → Below W.heap.size W w' ∧ ∃ (sb' : ByteArray) (fn : Option Addr) (cap : Nat), s' = sb'.data.toList ∧ (fn = none → cap = 0) ∧ v = .agg #[.int .i64 k', .int .i64 lo', .int .i64 hi', .string sb', .bool a', .bool m', .bool o', .slice fn 0 cap] := fun v w' ⟨c', hx, hr⟩ => by
    refine ⟨hx.below, ?_⟩
    obtain ⟨vs, rfl, hsz, _, hv⟩ := (show AggR w' c' v 8 _ from hr)
    obtain ⟨l⟩ := vs
    match l, hsz with
    | [v0, v1, v2, v3, v4, v5, v6, v7], _ =>
      obtain rfl := rep_int (hv 0 _ v0 rfl rfl)
      obtain rfl := rep_int (hv 1 _ v1 rfl rfl)
      obtain rfl := rep_int (hv 2 _ v2 rfl rfl)
      obtain ⟨sb', rfl, hsb⟩ := rep_str (hv 3 _ v3 rfl rfl)
      obtain rfl := rep_bool (hv 4 _ v4 rfl rfl)
      obtain rfl := rep_bool (hv 5 _ v5 rfl rfl)
      obtain rfl := rep_bool (hv 6 _ v6 rfl rfl)
      obtain ⟨bo, cap, rfl, _, hc, _⟩ := rep_sl (hv 7 _ v7 rfl rfl)
      exact ⟨sb', bo, cap, hsb.symm, hc, rfl⟩
  rcases hC with ⟨_, hC⟩ | ⟨v, w', hC, _⟩
  · refine hC.mono fun e w' ⟨v, he, hv⟩ => ?_
    obtain ⟨hB, sb', fn, cap, e1, e2, e3⟩ := key v w' hv
    subst e1
    exact ⟨hB, k', lo', hi', sb', a', m', o', fn, cap, rfl, e2, by rw [he, e3]⟩
  · have hent : (callFunc 117 #[.agg #[.int .i64 k, .int .i64 lo, .int .i64 hi, .string sb, .bool a, .bool true, .bool o, fv], .int .i64 p]).run Tryz.prog W = .ok (.enter 117 #[.agg #[.int .i64 k, .int .i64 lo, .int .i64 hi, .string sb, .bool a, .bool true, .bool o, fv], .int .i64 p]) W := by simp [callFunc, Tryz.func117, (show ¬ Tryz.f117.name = "runtime.NumGoroutine" by decide +kernel), (show Tryz.f117.body = some _ from rfl)]
    rw [hent] at hC; cases hC
theorem firmOKn : Fl.FirmOK Ni := fun k lo hi sb a o fv p W hs hf hp => by
  rw [firm_Ni _ (⟨hp.1, by have := hp.2; omega⟩ : inI p)]
  exact firmOK k lo hi sb a o fv p W hs hf hp
end Go.Proofs.YtffojfcinkihnaaGreatDoor.Lat
