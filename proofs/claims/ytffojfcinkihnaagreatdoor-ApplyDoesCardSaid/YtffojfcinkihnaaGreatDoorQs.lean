/- Drop, Put, Fill, Few of actions are told: their places among the oracles; the law's own equations (printed by syz.py). -/
import Derived.Test.YtffojfcinkihnaaGreatDoorLJ
import Derived.Test.YtffojfcinkihnaaGreatDoorFmZ
import Derived.Test.YtffojfcinkihnaaGreatDoorFiZ
import Derived.Test.YtffojfcinkihnaaGreatDoorFw
set_option linter.unusedVariables false
set_option linter.unusedSimpArgs false
set_option linter.unusedSectionVars false
set_option linter.deprecated false
set_option linter.unnecessarySimpa false
namespace Go.Proofs.YtffojfcinkihnaaGreatDoor.Abs
open Go.RowKit Go.Proofs.YtffojfcinkihnaaGreatDoor.Lat Go.Proofs.YtffojfcinkihnaaGreatDoor.Gr Go.Proofs.YtffojfcinkihnaaGreatDoor.Th
set_option maxRecDepth 100000
theorem encTs_inj : ∀ {a b : List Th}, encTs a = encTs b → a = b
  | [], [], _ => rfl
  | [], _ :: _, h => by simp [encTs] at h
  | _ :: _, [], h => by simp [encTs] at h
  | ⟨n, v, d⟩ :: a, ⟨n', v', d'⟩ :: b, h => by
    simp only [encTs, encTh, List.map_cons, List.cons.injEq, AV.str.injEq, AV.sl.injEq, and_true, true_and] at h
    obtain ⟨⟨rfl, h1, h2⟩, h3⟩ := h
    rw [encV_inj _ _ h1, encD_inj h2, encTs_inj h3]
theorem encTh_inj {a b : Th} (h : encTh a = encTh b) : a = b := by
  have : encTs [a] = encTs [b] := by simp [encTs, h]
  exact (List.cons.inj (encTs_inj this)).1
theorem encAs_inj : ∀ {a b : List Ac}, encAs a = encAs b → a = b
  | [], [], _ => rfl
  | [], _ :: _, h => by simp [encAs] at h
  | _ :: _, [], h => by simp [encAs] at h
  | ⟨k, t⟩ :: a, ⟨k', t'⟩ :: b, h => by
    simp only [encAs, encA, List.map_cons, List.cons.injEq, AV.int.injEq, true_and] at h
    obtain ⟨⟨rfl, h1⟩, h2⟩ := h
    rw [encTh_inj h1, encAs_inj h2]
/-! Drop -/
noncomputable def oDrop (l : List AV) : Option AV := open Classical in if h : ∃ p : List Th × Bs, TsOK p.1 ∧ l = [.sl 3 (encTs p.1), .str p.2] then some (.sl 3 (encTs (dropT (Classical.choose h).1 (Classical.choose h).2))) else none
theorem oDrop_of {l : List AV} {r : AV} (h : oDrop l = some r) : ∃ p : List Th × Bs, TsOK p.1 ∧ l = [.sl 3 (encTs p.1), .str p.2] ∧ r = .sl 3 (encTs (dropT p.1 p.2)) := by
  unfold oDrop at h
  split at h
  · rename_i hx
    cases h
    exact ⟨_, (Classical.choose_spec hx).1, (Classical.choose_spec hx).2, rfl⟩
  · cases h
theorem oDrop_at {l : List Th} {s : Bs} (hs : TsOK l) : oDrop [.sl 3 (encTs l), .str s] = some (.sl 3 (encTs (dropT l s))) := by
  unfold oDrop
  have hx : ∃ p : List Th × Bs, TsOK p.1 ∧ [AV.sl 3 (encTs l), .str s] = [.sl 3 (encTs p.1), .str p.2] := ⟨(l, s), hs, rfl⟩
  rw [dif_pos hx]
  have h2 := (Classical.choose_spec hx).2
  generalize Classical.choose hx = p at *
  simp only [List.cons.injEq, AV.sl.injEq, AV.str.injEq, true_and, and_true] at h2
  rw [← encTs_inj h2.1, ← h2.2]
theorem pcDrop {p : List Th × Bs} (hs : TsOK p.1) : PC Tryz.prog τ 12 [.sl 3 (encTs p.1), .str p.2] (.sl 3 (encTs (dropT p.1 p.2))) := by
  intro w c vs hG hsz ha
  obtain ⟨v, u, rfl, hv, hu⟩ := two_args hsz ha
  have hR : Rep w c v (.sl 3 (encTs p.1)) := by rcases hv with hv | hv <;> exact hv
  have hU : Rep w c u (.str p.2) := by rcases hu with hu | hu <;> exact hu
  obtain ⟨ss, rfl, e⟩ := rep_str hU
  refine .inl ⟨by simp [callFunc, Tryz.func12, (show ¬ Tryz.f12.name = "runtime.NumGoroutine" by decide +kernel), (show Tryz.f12.body = some _ from rfl)], ?_⟩
  refine (drop_any w c v p.1 ss hR hs).mono fun e' w' ⟨A, n, cap, he, hx⟩ => ⟨_, he, _, ext_cut c hx.out.bel, ?_⟩
  have := hx.out.row.rep (c := fun b => if b < w.heap.size then c b else .frz) (fun b hb => by simp; omega)
  rw [List.take_length, e] at this
  exact this
/-! Put -/
def PutOK (p : List Th × Th) : Prop := TsOK p.1 ∧ szV p.2.v ≤ 1073741824 ∧ p.2.d.length ≤ 1073741824
noncomputable def oPut (l : List AV) : Option AV := open Classical in if h : ∃ p : List Th × Th, PutOK p ∧ l = [.sl 3 (encTs p.1), .agg 3 (encTh p.2)] then some (.sl 3 (encTs (putT (Classical.choose h).1 (Classical.choose h).2))) else none
theorem oPut_of {l : List AV} {r : AV} (h : oPut l = some r) : ∃ p : List Th × Th, PutOK p ∧ l = [.sl 3 (encTs p.1), .agg 3 (encTh p.2)] ∧ r = .sl 3 (encTs (putT p.1 p.2)) := by
  unfold oPut at h
  split at h
  · rename_i hx
    cases h
    exact ⟨_, (Classical.choose_spec hx).1, (Classical.choose_spec hx).2, rfl⟩
  · cases h
theorem oPut_at {p : List Th × Th} (hs : PutOK p) : oPut [.sl 3 (encTs p.1), .agg 3 (encTh p.2)] = some (.sl 3 (encTs (putT p.1 p.2))) := by
  unfold oPut
  have hx : ∃ q : List Th × Th, PutOK q ∧ [AV.sl 3 (encTs p.1), .agg 3 (encTh p.2)] = [.sl 3 (encTs q.1), .agg 3 (encTh q.2)] := ⟨p, hs, rfl⟩
  rw [dif_pos hx]
  have h2 := (Classical.choose_spec hx).2
  generalize Classical.choose hx = q at *
  simp only [List.cons.injEq, AV.sl.injEq, AV.agg.injEq, true_and, and_true] at h2
  rw [← encTs_inj h2.1, ← encTh_inj h2.2]
theorem pcPut {p : List Th × Th} (hs : PutOK p) : PC Tryz.prog τ 11 [.sl 3 (encTs p.1), .agg 3 (encTh p.2)] (.sl 3 (encTs (putT p.1 p.2))) := by
  intro w c vs hG hsz ha
  obtain ⟨v, u, rfl, hv, hu⟩ := two_args hsz ha
  have hR : Rep w c v (.sl 3 (encTs p.1)) := by rcases hv with hv | hv <;> exact hv
  have hU : AggR w c u 3 (encTh p.2) := by
    rcases hu with hu | hu
    · exact hu
    · cases hu
  obtain ⟨us, rfl, h1, h2, h3⟩ := hU
  obtain ⟨us⟩ := us
  match us, h1 with
  | [x, y, z], _ =>
    obtain ⟨ss, rfl, e⟩ := rep_str (h3 0 _ x rfl rfl)
    have r1 := h3 1 _ y rfl rfl
    have r2 := h3 2 _ z rfl rfl
    obtain ⟨A1, cap1, e1, _⟩ := rep_sl r1
    obtain ⟨A2, cap2, e2, _⟩ := rep_sl r2
    subst e1; subst e2
    refine .inl ⟨by simp [callFunc, Tryz.func11, (show ¬ Tryz.f11.name = "runtime.NumGoroutine" by decide +kernel), (show Tryz.f11.body = some _ from rfl)], ?_⟩
    refine (put_any w c v p.1 p.2 ss _ _ _ _ _ _ hR hs.1 e r1 r2 hs.2.1 hs.2.2).mono fun e' w' ⟨A, n, cap, he, hx⟩ => ⟨_, he, _, ext_cut c hx.out.2, ?_⟩
    exact hx.out.1.rep (c := fun b => if b < w.heap.size then c b else .frz) (fun b hb => by simp; omega)
/-! Fill -/
def fa (p : List Tm × List Int) : List AV := [.agg 1 [.sl 8 (encV p.1)], .sl 1 (encP p.2)]
def Good (p : List Tm × List Int) : Prop := szV p.1 ≤ 1073741824 ∧ p.2.length ≤ 1073741824 ∧ ∀ x ∈ p.2, inI x
def fr (p : List Tm × List Int) : AV := if (okV Rn p.1 && seL true p.1) = true then .tup [.agg 1 [.sl 8 (encV (fiL Ni p.1 p.2).1)], .int .i64 ((p.2.length - (fiL Ni p.1 p.2).2.length : Nat) : Int), .int .i64 0] else .tup [.agg 1 [.sl 8 []], .int .i64 0, .int .i64 1]
noncomputable def oFill (l : List AV) : Option AV := open Classical in if h : ∃ p, Good p ∧ l = fa p then some (fr (Classical.choose h)) else none
theorem fa_inj {p q : List Tm × List Int} (h : fa p = fa q) : p = q := by
  obtain ⟨a, b⟩ := p
  obtain ⟨a', b'⟩ := q
  simp only [fa, List.cons.injEq, AV.agg.injEq, AV.sl.injEq, true_and, and_true] at h
  rw [encV_inj _ _ h.1, encP_inj _ _ h.2]
theorem oFill_of {l : List AV} {r : AV} (h : oFill l = some r) : ∃ p, Good p ∧ l = fa p ∧ r = fr p := by
  unfold oFill at h
  split at h
  · rename_i hx
    cases h
    exact ⟨_, (Classical.choose_spec hx).1, (Classical.choose_spec hx).2, rfl⟩
  · cases h
theorem oFill_at {p : List Tm × List Int} (hp : Good p) : oFill (fa p) = some (fr p) := by
  unfold oFill
  have hx : ∃ q, Good q ∧ fa p = fa q := ⟨p, hp, rfl⟩
  rw [dif_pos hx]
  have := fa_inj (Classical.choose_spec hx).2
  rw [← this]
theorem arg_one {w : World} {c : Cls} {v : Value} {a : AV} (h : ArgR w c v (.agg 1 [a])) : ∃ u, v = .agg #[u] ∧ Rep w c u a := by
  rcases h with h | h
  · obtain ⟨vs, rfl, h1, h2, h3⟩ := (show AggR w c v 1 [a] from h)
    obtain ⟨l⟩ := vs
    match l, h1 with
    | [u], _ => exact ⟨u, rfl, h3 0 a u rfl rfl⟩
  · cases h
theorem ready_any (ts : List Tm) (v : Value) (w : World) (c : Cls) (hs : szV ts ≤ 1073741824) (hr : Rep w c v (.sl 8 (encV ts))) (hG : GOK τ w c) : Calls Tryz.prog 77 #[.agg #[v]] w fun e w' => e = .returned (.bool (okV Rn ts && seL true ts)) ∧ Below w.heap.size w w' := by
  refine (Fl.calls_plain sysOK (show ωκ S 77 _ = _ from readyP_is ts hs) (vs := #[.agg #[v]]) (c := c) Tryz.func77 rfl (by decide +kernel) hG rfl (fun i x a hx ha => ?_)).mono fun e w' ⟨x, c', he, hx, hr⟩ => ?_
  · rcases i with _ | i
    · simp at hx ha
      subst hx; subst ha
      exact .inl ⟨_, rfl, rfl, rfl, fun j a u ha hu => by
        rcases j with _ | j
        · simp at ha hu; subst ha; subst hu; exact hr
        · simp at ha⟩
    · simp at hx
  · obtain rfl := rep_bool (show Rep w' c' x (.bool _) from hr)
    exact ⟨he, Fl.ext_below hx⟩
theorem pcFill {p : List Tm × List Int} (hp : Good p) : PC Tryz.prog τ 49 (fa p) (fr p) := by
  intro w c vs hG hsz ha
  obtain ⟨v, u, rfl, hv, hu⟩ := two_args hsz ha
  obtain ⟨v1, rfl, hv1⟩ := arg_one hv
  have hu : Rep w c u (.sl 1 (encP p.2)) := by rcases hu with hu | hu <;> exact hu
  refine .inl ⟨by simp [callFunc, Tryz.func49, (show ¬ Tryz.f49.name = "runtime.NumGoroutine" by decide +kernel), (show Tryz.f49.body = some _ from rfl)], ?_⟩
  refine (Fl.Fill_any Ni Rn firmOKn ready_any p.2 hp.2.1 (fun x hx => by have := hp.2.2 x hx; exact ⟨this.1, by have := this.2; omega⟩) p.1 v1 u w c hp.1 hv1 hu hG).mono fun e w' ⟨hB, h⟩ => ?_
  have hx := ext_cut c hB
  rcases h with ⟨hb, v', fp, u', rfl, hO, hd, hle⟩ | ⟨hb, rfl⟩
  · refine ⟨_, rfl, _, hx, ?_⟩
    unfold fr
    rw [if_pos hb, hd]
    have hu' : p.2.length - (p.2.drop u').length = u' := by rw [List.length_drop]; omega
    rw [hu']
    refine ⟨_, rfl, rfl, fun i x y hx' hy => ?_⟩
    rcases i with _ | _ | _ | i
    · simp at hx' hy
      subst hx'; subst hy
      exact ⟨_, rfl, rfl, rfl, fun j a z ha hz => by
        rcases j with _ | j
        · simp at ha hz; subst ha; subst hz; exact hO.rep (fun b hb => by simp; omega)
        · simp at ha⟩
    · simp at hx' hy; subst hx'; subst hy; exact .int _ _
    · simp at hx' hy; subst hx'; subst hy; exact .int _ _
    · simp at hx'
  · refine ⟨_, rfl, _, hx, ?_⟩
    unfold fr
    rw [if_neg (by rw [hb]; simp)]
    refine ⟨_, rfl, rfl, fun i x y hx' hy => ?_⟩
    rcases i with _ | _ | _ | i
    · simp at hx' hy
      subst hx'; subst hy
      exact ⟨_, rfl, rfl, rfl, fun j a z ha hz => by
        rcases j with _ | j
        · simp at ha hz; subst ha; subst hz; exact .nil _
        · simp at ha⟩
    · simp at hx' hy; subst hx'; subst hy; exact .int _ _
    · simp at hx' hy; subst hx'; subst hy; exact .int _ _
    · simp at hx'
/-! Few of actions -/
noncomputable def fewB (l : List Ac) : Bool := Classical.choose (fewT_is (thsOf l))
theorem fewB_is (l : List Ac) : law30_Few (.sl 3 (encTs (thsOf l))) = some (.bool (fewB l)) ∧ (fewB l = true → (thsOf l).length ≤ 12 ∧ ∀ t ∈ thsOf l, SmTh t) := Classical.choose_spec (fewT_is (thsOf l))
noncomputable def oFew (l : List AV) : Option AV := open Classical in if h : ∃ p : List Ac, p.length * 64 ≤ 140737488355328 ∧ l = [.sl 4 (encAs p)] then some (.bool (fewB (Classical.choose h))) else none
theorem oFew_of {l : List AV} {r : AV} (h : oFew l = some r) : ∃ p : List Ac, p.length * 64 ≤ 140737488355328 ∧ l = [.sl 4 (encAs p)] ∧ r = .bool (fewB p) := by
  unfold oFew at h
  split at h
  · rename_i hx
    cases h
    exact ⟨_, (Classical.choose_spec hx).1, (Classical.choose_spec hx).2, rfl⟩
  · cases h
theorem oFew_at {p : List Ac} (hs : p.length * 64 ≤ 140737488355328) : oFew [.sl 4 (encAs p)] = some (.bool (fewB p)) := by
  unfold oFew
  have hx : ∃ q : List Ac, q.length * 64 ≤ 140737488355328 ∧ [AV.sl 4 (encAs p)] = [.sl 4 (encAs q)] := ⟨p, hs, rfl⟩
  rw [dif_pos hx]
  have h2 := (Classical.choose_spec hx).2
  generalize Classical.choose hx = q at *
  simp only [List.cons.injEq, AV.sl.injEq, true_and, and_true] at h2
  rw [← encAs_inj h2]
theorem pcFew {p : List Ac} (hs : p.length * 64 ≤ 140737488355328) : PC Tryz.prog τ 21 [.sl 4 (encAs p)] (.bool (fewB p)) := by
  refine pc_of Tryz.func21 rfl (by decide +kernel) fun w c vs hG hsz ha => ?_
  obtain ⟨v, rfl, hv⟩ := one_arg hsz ha
  have hR : Rep w c v (.sl 4 (encAs p)) := by rcases hv with hv | hv <;> exact hv
  exact (few33_any w c v p hR hG hs _ (fewB_is p).1).mono fun e w' ⟨he, hB⟩ => ⟨_, he, hB, fun c' => Rep.bool _⟩
/-! The system -/
noncomputable def Q1 : Abs.Sys := withO Z 12 oDrop
noncomputable def Q2 : Abs.Sys := withO Q1 11 oPut
noncomputable def Q3 : Abs.Sys := withO Q2 49 oFill
noncomputable def Q : Abs.Sys := withO Q3 21 oFew
theorem upQ {f : Nat} {l : List AV} {v : AV} (h : ωκ Z f l = some v) : ωκ Q f l = some v := ω_up Q3 21 oFew rfl (ω_up Q2 49 oFill rfl (ω_up Q1 11 oPut rfl (ω_up Z 12 oDrop rfl h)))
theorem sysOKQ : SysOK Tryz.prog Q := ⟨sysOK.tab, sysOK.fol, fun f g h l r hr => by
  by_cases hf : f = 21
  · subst hf
    rw [Q, withO_at] at h
    cases h
    obtain ⟨p, hp, rfl, rfl⟩ := oFew_of hr
    exact pcFew hp
  rw [Q, withO_ne _ _ _ hf] at h
  by_cases hf2 : f = 49
  · subst hf2
    rw [Q3, withO_at] at h
    cases h
    obtain ⟨p, hp, rfl, rfl⟩ := oFill_of hr
    exact pcFill hp
  rw [Q3, withO_ne _ _ _ hf2] at h
  by_cases hf3 : f = 11
  · subst hf3
    rw [Q2, withO_at] at h
    cases h
    obtain ⟨p, hp, rfl, rfl⟩ := oPut_of hr
    exact pcPut hp
  rw [Q2, withO_ne _ _ _ hf3] at h
  by_cases hf4 : f = 12
  · subst hf4
    rw [Q1, withO_at] at h
    cases h
    obtain ⟨p, hp, rfl, rfl⟩ := oDrop_of hr
    exact pcDrop hp
  rw [Q1, withO_ne _ _ _ hf4] at h
  exact sysOKZ.or f g h l r hr, fun f d h => sysOK.fn f d h⟩
theorem q_drop {l : List Th} {s : Bs} (hs : TsOK l) : ωκ Q 12 [.sl 3 (encTs l), .str s] = some (.sl 3 (encTs (dropT l s))) := by
  rw [ωκ_eq, ω_O Q 12 _ oDrop (by rw [Q, withO_ne _ _ _ (by decide), Q3, withO_ne _ _ _ (by decide), Q2, withO_ne _ _ _ (by decide), Q1, withO_at])]; exact oDrop_at hs
theorem q_put {p : List Th × Th} (hs : PutOK p) : ωκ Q 11 [.sl 3 (encTs p.1), .agg 3 (encTh p.2)] = some (.sl 3 (encTs (putT p.1 p.2))) := by
  rw [ωκ_eq, ω_O Q 11 _ oPut (by rw [Q, withO_ne _ _ _ (by decide), Q3, withO_ne _ _ _ (by decide), Q2, withO_at])]; exact oPut_at hs
theorem q_fill {p : List Tm × List Int} (hp : Good p) : ωκ Q 49 [.agg 1 [.sl 8 (encV p.1)], .sl 1 (encP p.2)] = some (fr p) := by
  rw [ωκ_eq, ω_O Q 49 _ oFill (by rw [Q, withO_ne _ _ _ (by decide), Q3, withO_at])]; exact oFill_at hp
theorem q_few {p : List Ac} (hp : p.length * 64 ≤ 140737488355328) : ωκ Q 21 [.sl 4 (encAs p)] = some (.bool (fewB p)) := by
  rw [ωκ_eq, ω_O Q 21 _ oFew (by rw [Q, withO_at])]; exact oFew_at hp
noncomputable def v_apply_Actions (a0 a1 a2 : AV) : Option AV := ωκ Q 23 [a0, a1, a2]
noncomputable def v_apply_Fill (a0 a1 : AV) : Option AV := ωκ Q 49 [a0, a1]
noncomputable def v_apply_good (a0 : AV) : Option AV := ωκ Q 80 [a0]
noncomputable def v_apply_refused (a0 a1 : AV) : Option AV := ωκ Q 50 [a0, a1]
noncomputable def v_fact_One (a0 : AV) : Option AV := ωκ Q 63 [a0]
theorem vz_fact_One {a0 : AV} {v : AV} (h : u_fact_One a0 = some v) : v_fact_One a0 = some v := upQ h
noncomputable def v_fact_Ready (a0 : AV) : Option AV := ωκ Q 77 [a0]
theorem vp_fact_Ready {a0 : AV} {v : AV} (h : fact_Ready a0 = some v) : v_fact_Ready a0 = some v := upQ (upZ h)
noncomputable def v_law30_Few (a0 : AV) : Option AV := ωκ Q 6 [a0]
theorem vp_law30_Few {a0 : AV} {v : AV} (h : law30_Few a0 = some v) : v_law30_Few a0 = some v := upQ (upZ h)
noncomputable def v_law33_Few (a0 : AV) : Option AV := ωκ Q 21 [a0]
noncomputable def v_law35_ApplyDoes (a0 a1 a2 : AV) : Option AV := ωκ Q 5 [a0, a1, a2]
noncomputable def v_law35_awake : Option AV := ωκ Q 22 []
noncomputable def v_name_Right (a0 : AV) : Option AV := ωκ Q 64 [a0]
theorem vp_name_Right {a0 : AV} {v : AV} (h : name_Right a0 = some v) : v_name_Right a0 = some v := upQ (upZ h)
noncomputable def v_name_Rising (a0 : AV) : Option AV := ωκ Q 66 [a0]
theorem vp_name_Rising {a0 : AV} {v : AV} (h : name_Rising a0 = some v) : v_name_Rising a0 = some v := upQ (upZ h)
noncomputable def v_ref29_Things (a0 a1 : AV) : Option AV := ωκ Q 13 [a0, a1]
theorem vp_ref29_Things {a0 a1 : AV} {v : AV} (h : ref29_Things a0 a1 = some v) : v_ref29_Things a0 a1 = some v := upQ (upZ h)
noncomputable def v_ref30_Right (a0 : AV) : Option AV := ωκ Q 18 [a0]
theorem vp_ref30_Right {a0 : AV} {v : AV} (h : ref30_Right a0 = some v) : v_ref30_Right a0 = some v := upQ (upZ h)
noncomputable def v_ref35_Actions (a0 a1 a2 : AV) : Option AV := ωκ Q 24 [a0, a1, a2]
theorem vp_ref35_Actions {a0 a1 a2 : AV} {v : AV} (h : ref35_Actions a0 a1 a2 = some v) : v_ref35_Actions a0 a1 a2 = some v := upQ (upZ h)
noncomputable def v_slices_Contains__string (a0 a1 : AV) : Option AV := ωκ Q 67 [a0, a1]
theorem vp_slices_Contains__string {a0 a1 : AV} {v : AV} (h : slices_Contains__string a0 a1 = some v) : v_slices_Contains__string a0 a1 = some v := upQ (upZ h)
noncomputable def v_state_Drop (a0 a1 : AV) : Option AV := ωκ Q 12 [a0, a1]
noncomputable def v_state_Find (a0 a1 : AV) : Option AV := ωκ Q 14 [a0, a1]
theorem vp_state_Find {a0 a1 : AV} {v : AV} (h : state_Find a0 a1 = some v) : v_state_Find a0 a1 = some v := upQ (upZ h)
noncomputable def v_state_Put (a0 a1 : AV) : Option AV := ωκ Q 11 [a0, a1]
noncomputable def v_state_Right (a0 : AV) : Option AV := ωκ Q 17 [a0]
theorem vz_state_Right {a0 : AV} {v : AV} (h : u_state_Right a0 = some v) : v_state_Right a0 = some v := upQ h
theorem vrun5 (l : List AV) : ωκ Q 5 l = runM τ (fun _ => none) (ωκ Q) [6] lpκ d5.code (look (argEnv 0 l)) (retV τ d5.rs) :=
  ωκ_run Q 5 l d5 rfl (by show (Tryz.prog.funcs[5]?).bind toFD = _; rw [Tryz.func5]; rfl)
theorem v_law35_ApplyDoes.f_eq (l1 : List (List AV)) (l2 : List (List AV)) (l3 : List (List AV)) : v_law35_ApplyDoes (AV.sl 3 l1) (AV.sl 4 l2) (AV.sl 1 l3) = ((v_law30_Few (AV.sl 3 l1)).bind fun r4 => asB r4 fun b5 => (ifB (!b5) (some true) ((v_law33_Few (AV.sl 4 l2)).bind fun r7 => asB r7 fun b8 => some (!b8)) : Option Bool).bind fun b6 => (ifB b6 (some true) (some (decide ((60 : Int) < (List.length l3 : Int)))) : Option Bool).bind fun b9 => ifB b9 (v_law35_awake.bind fun r10 => asB r10 fun b11 => some (AV.bool b11)) ((v_apply_Actions (AV.sl 3 l1) (AV.sl 4 l2) (AV.sl 1 l3)).bind fun r12 => asT3 r12 fun a13 a14 a15 => asL 3 a13 fun l16 => asI .i64 a14 fun n17 => asI .i64 a15 fun n18 => (v_ref35_Actions (AV.sl 3 l1) (AV.sl 4 l2) (AV.sl 1 l3)).bind fun r19 => asT3 r19 fun a20 a21 a22 => asL 3 a20 fun l23 => asI .i64 a21 fun n24 => asI .i64 a22 fun n25 => v_law35_awake.bind fun r26 => asB r26 fun b27 => (ifB b27 ((v_ref29_Things (AV.sl 3 l16) (AV.sl 3 l23)).bind fun r29 => asB r29 fun b30 => some b30) (some false) : Option Bool).bind fun b28 => (ifB b28 (some (decide ((n17 : Int) = n24))) (some false) : Option Bool).bind fun b31 => (ifB b31 (some (decide ((n18 : Int) = n25))) (some false) : Option Bool).bind fun b32 => (ifB b32 ((ifB (!decide ((n18 : Int) = 0)) (some true) ((v_ref30_Right (AV.sl 3 l16)).bind fun r35 => asB r35 fun b36 => some b36) : Option Bool).bind fun b34 => some b34) (some false) : Option Bool).bind fun b33 => some (AV.bool b33))) :=
  (vrun5 _).trans (by kernel_rfl)

theorem vrun22 (l : List AV) : ωκ Q 22 l = runM τ (fun _ => none) (ωκ Q) [0] lpκ d22.code (look (argEnv 0 l)) (retV τ d22.rs) :=
  ωκ_run Q 22 l d22 rfl (by show (Tryz.prog.funcs[22]?).bind toFD = _; rw [Tryz.func22]; rfl)
theorem v_law35_awake.f_eq  : v_law35_awake = ((v_apply_Fill (AV.agg 1 [AV.sl 8 ([[AV.int .i64 4, AV.int .i64 0, AV.int .i64 0, AV.str [], AV.bool false, AV.bool false, AV.bool false, AV.sl 2 ([[AV.str [105, 100], AV.sl 8 ([[AV.int .i64 3, AV.int .i64 0, AV.int .i64 0, AV.str [], AV.bool true, AV.bool true, AV.bool false, AV.sl 2 []]])]])]])]) (AV.sl 1 ([[AV.int .i64 7]]))).bind fun r1 => asT3 r1 fun a2 a3 a4 => asC 1 a2 fun c5 => asI .i64 a3 fun n6 => asI .i64 a4 fun n7 => (ifB (decide ((n7 : Int) = 0)) (some (decide ((n6 : Int) = 1))) (some false) : Option Bool).bind fun b8 => (ifB b8 (getC c5 0 fun a10 => asL 8 a10 fun l11 => some (decide (((List.length l11 : Int) : Int) = 1))) (some false) : Option Bool).bind fun b9 => (ifB b9 (getC c5 0 fun a13 => asL 8 a13 fun l14 => idx l14 0 fun c15 => getC c15 7 fun a16 => asL 2 a16 fun l17 => some (decide (((List.length l17 : Int) : Int) = 1))) (some false) : Option Bool).bind fun b12 => (ifB b12 (getC c5 0 fun a19 => asL 8 a19 fun l20 => idx l20 0 fun c21 => getC c21 7 fun a22 => asL 2 a22 fun l23 => idx l23 0 fun c24 => getC c24 1 fun a25 => asL 8 a25 fun l26 => idx l26 0 fun c27 => getC c27 3 fun a28 => asS a28 fun s29 => some (decide ((s29 : List UInt8) = [116, 55]))) (some false) : Option Bool).bind fun b18 => some (AV.bool b18)) :=
  (vrun22 _).trans (by kernel_rfl)

theorem vrun23 (l : List AV) : ωκ Q 23 l = runM τ ann23 (ωκ Q) [6, 7, 8] lpκ d23.code (look (argEnv 0 l)) (retV τ d23.rs) :=
  ωκ_run Q 23 l d23 rfl (by show (Tryz.prog.funcs[23]?).bind toFD = _; rw [Tryz.func23]; rfl)
noncomputable def v_apply_Actions.l0 (a1 a2 a6 a19 a20 a21 : AV) : Option AV := loopAt Q 23 d23 [1, 1, 1, 0, 1, 0] (look [(1, a1), (2, a2), (6, a6), (19, a19), (20, a20), (21, a21)])
theorem v_apply_Actions.f_eq (l1 : List (List AV)) (l2 : List (List AV)) (l3 : List (List AV)) : v_apply_Actions (AV.sl 3 l1) (AV.sl 4 l2) (AV.sl 1 l3) = ((v_state_Right (AV.sl 3 l1)).bind fun r4 => asB r4 fun b5 => ifB (!b5) (some (.tup [AV.own 3 [], AV.int .i64 (-1), AV.int .i64 33])) (v_apply_Actions.l0 (AV.sl 4 l2) (AV.sl 1 l3) (AV.sl 3 l1) (AV.sl 4 l2) (AV.int .i64 (List.length l2 : Int)) (AV.int .i64 0))) :=
  (vrun23 _).trans (by kernel_rfl)
theorem v_apply_Actions.l0_eq (l1 : List (List AV)) (l2 : List (List AV)) (l3 : List (List AV)) (l4 : List (List AV)) (n5 : Int) (n6 : Int) : v_apply_Actions.l0 (AV.sl 4 l1) (AV.sl 1 l2) (AV.sl 3 l3) (AV.sl 4 l4) (AV.int .i64 n5) (AV.int .i64 n6) = (ifB (decide ((n6 : Int) < n5)) (idx l4 n6 fun c7 => (v_apply_refused (AV.sl 3 l3) (AV.agg 4 c7)).bind fun r8 => asI .i64 r8 fun n9 => ifB (!decide ((n9 : Int) = 0)) (some (.tup [AV.own 3 [], AV.int .i64 n6, AV.int .i64 n9])) (getC c7 0 fun a10 => asI .i64 a10 fun n11 => ifB (decide ((n11 : Int) = 1)) (getC c7 1 fun a12 => asS a12 fun s13 => (v_state_Drop (AV.sl 3 l3) (AV.str s13)).bind fun r14 => asL 3 r14 fun l15 => v_apply_Actions.l0 (AV.sl 4 l1) (AV.sl 1 l2) (AV.sl 3 l15) (AV.sl 4 l4) (AV.int .i64 n5) (AV.int .i64 (w64 (n6 + 1)))) (getC c7 2 fun a16 => (v_apply_Fill (AV.agg 1 [(frz a16)]) (AV.sl 1 l2)).bind fun r17 => asT3 r17 fun a18 a19 a20 => asC 1 a18 fun c21 => asI .i64 a19 fun n22 => asI .i64 a20 fun n23 => cutFrom l2 n22 fun l24 => getC c7 1 fun a25 => asS a25 fun s26 => getC c7 3 fun a27 => asL 1 a27 fun l28 => (v_state_Put (AV.sl 3 l3) (AV.agg 3 (splice (splice [AV.str s26, AV.sl 8 [], AV.sl 1 []] 1 c21) 2 [AV.sl 1 l28]))).bind fun r29 => asL 3 r29 fun l30 => v_apply_Actions.l0 (AV.sl 4 l1) (AV.sl 1 l24) (AV.sl 3 l30) (AV.sl 4 l4) (AV.int .i64 n5) (AV.int .i64 (w64 (n6 + 1)))))) ((v_state_Right (AV.sl 3 l3)).bind fun r31 => asB r31 fun b32 => ifB (!b32) (some (.tup [AV.own 3 [], AV.int .i64 (List.length l1 : Int), AV.int .i64 33])) ((v_state_Drop (AV.sl 3 l3) (AV.str [])).bind fun r33 => asL 3 r33 fun l34 => some (.tup [AV.sl 3 l34, AV.int .i64 (-1), AV.int .i64 0])))) :=
  (loopAt_eq Q 23 d23 [1, 1, 1, 0, 1, 0] _).trans (by kernel_rfl)

theorem vrun50 (l : List AV) : ωκ Q 50 l = runM τ (fun _ => none) (ωκ Q) [4] lpκ d50.code (look (argEnv 0 l)) (retV τ d50.rs) :=
  ωκ_run Q 50 l d50 rfl (by show (Tryz.prog.funcs[50]?).bind toFD = _; rw [Tryz.func50]; rfl)
theorem v_apply_refused.f_eq (l1 : List (List AV)) (c2 : List AV) : v_apply_refused (AV.sl 3 l1) (AV.agg 4 c2) = (getC c2 1 fun a3 => asS a3 fun s4 => (v_state_Find (AV.sl 3 l1) (AV.str s4)).bind fun r5 => asI .i64 r5 fun n6 => getC c2 0 fun a7 => asI .i64 a7 fun n8 => (ifB (decide ((n8 : Int) < 1)) (some true) (getC c2 0 fun a10 => asI .i64 a10 fun n11 => some (decide ((3 : Int) < n11))) : Option Bool).bind fun b9 => ifB b9 (some (AV.int .i64 1)) (getC c2 0 fun a12 => asI .i64 a12 fun n13 => (ifB (!decide ((n13 : Int) = 1)) (getC c2 1 fun a15 => getC c2 2 fun a16 => getC c2 3 fun a17 => (v_apply_good (AV.agg 3 [(frz a15), (frz a16), (frz a17)])).bind fun r18 => asB r18 fun b19 => some (!b19)) (some false) : Option Bool).bind fun b14 => ifB b14 (some (AV.int .i64 1)) (getC c2 0 fun a20 => asI .i64 a20 fun n21 => (ifB (decide ((n21 : Int) = 2)) (some (decide ((0 : Int) ≤ n6))) (some false) : Option Bool).bind fun b22 => ifB b22 (some (AV.int .i64 6)) (getC c2 0 fun a23 => asI .i64 a23 fun n24 => (ifB (!decide ((n24 : Int) = 2)) (some (!(decide ((0 : Int) ≤ n6)))) (some false) : Option Bool).bind fun b25 => ifB b25 (some (AV.int .i64 5)) (some (AV.int .i64 0)))))) :=
  (vrun50 _).trans (by kernel_rfl)

theorem vrun80 (l : List AV) : ωκ Q 80 l = runM τ (fun _ => none) (ωκ Q) [2] lpκ d80.code (look (argEnv 0 l)) (retV τ d80.rs) :=
  ωκ_run Q 80 l d80 rfl (by show (Tryz.prog.funcs[80]?).bind toFD = _; rw [Tryz.func80]; rfl)
theorem v_apply_good.f_eq (c1 : List AV) : v_apply_good (AV.agg 3 c1) = (getC c1 1 fun a2 => (v_fact_One (AV.agg 1 [(frz a2)])).bind fun r3 => asT2 r3 fun a4 a5 => asC 8 a4 fun c6 => asI .i64 a5 fun n7 => getC c1 0 fun a8 => asS a8 fun s9 => (v_name_Right (AV.str s9)).bind fun r10 => asB r10 fun b11 => (ifB b11 (some (decide ((n7 : Int) = 0))) (some false) : Option Bool).bind fun b12 => (ifB b12 (getC c6 0 fun a14 => asI .i64 a14 fun n15 => some (decide ((n15 : Int) = 4))) (some false) : Option Bool).bind fun b13 => (ifB b13 (getC c1 1 fun a17 => (v_fact_Ready (AV.agg 1 [(frz a17)])).bind fun r18 => asB r18 fun b19 => some b19) (some false) : Option Bool).bind fun b16 => (ifB b16 (getC c1 2 fun a21 => asL 1 a21 fun l22 => (v_name_Rising (AV.sl 1 l22)).bind fun r23 => asB r23 fun b24 => some b24) (some false) : Option Bool).bind fun b20 => (ifB b20 (getC c1 2 fun a26 => asL 1 a26 fun l27 => getC c1 0 fun a28 => asS a28 fun s29 => (v_slices_Contains__string (AV.sl 1 l27) (AV.str s29)).bind fun r30 => asB r30 fun b31 => some (!b31)) (some false) : Option Bool).bind fun b25 => some (AV.bool b25)) :=
  (vrun80 _).trans (by kernel_rfl)

end Go.Proofs.YtffojfcinkihnaaGreatDoor.Abs

