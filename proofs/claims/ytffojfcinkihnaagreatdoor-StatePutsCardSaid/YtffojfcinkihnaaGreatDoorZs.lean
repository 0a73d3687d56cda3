/- rings, settle and Encode are told: their places among the oracles; the law's own equations (printed by syz.py). -/
import Derived.Test.YtffojfcinkihnaaGreatDoorLE
import Derived.Test.YtffojfcinkihnaaGreatDoorEn
import Derived.Test.YtffojfcinkihnaaGreatDoorSt
import Derived.Test.YtffojfcinkihnaaGreatDoorUp
set_option linter.unusedVariables false
set_option linter.unusedSimpArgs false
set_option linter.unusedSectionVars false
set_option linter.deprecated false
set_option linter.unnecessarySimpa false
namespace Go.Proofs.YtffojfcinkihnaaGreatDoor.Abs
open Go.RowKit Go.Proofs.YtffojfcinkihnaaGreatDoor.Lat Go.Proofs.YtffojfcinkihnaaGreatDoor.Gr
set_option linter.unusedVariables false
set_option maxRecDepth 100000
/-! rings -/
def SmTs (ts : List Th) : Prop := ts.length ≤ 16384 ∧ ∀ t ∈ ts, t.d.length ≤ 16384 ∧ t.n.length ≤ maxLen
theorem encD_inj : ∀ {a b : List Bs}, encD a = encD b → a = b
  | [], [], _ => rfl
  | [], _ :: _, h => by simp [encD] at h
  | _ :: _, [], h => by simp [encD] at h
  | x :: a, y :: b, h => by
    simp only [encD, List.map_cons, List.cons.injEq, AV.str.injEq, and_true] at h
    rw [h.1, encD_inj (a := a) (b := b) h.2]
theorem tds_inj : ∀ {a b : List Th}, encTs a = encTs b → tds a = tds b
  | [], [], _ => rfl
  | [], _ :: _, h => by simp [encTs] at h
  | _ :: _, [], h => by simp [encTs] at h
  | x :: a, y :: b, h => by
    simp only [encTs, encTh, List.map_cons, List.cons.injEq, AV.str.injEq, AV.sl.injEq, and_true, true_and] at h
    have ih := tds_inj (a := a) (b := b) h.2
    simp only [tds, List.map_cons, List.cons.injEq, Prod.mk.injEq]
    exact ⟨⟨h.1.1, encD_inj h.1.2.2⟩, ih⟩
noncomputable def oRings (l : List AV) : Option AV := open Classical in if h : ∃ ts, SmTs ts ∧ l = [.sl 3 (encTs ts)] then some (.bool (ringB (tds (Classical.choose h)))) else none
theorem oRings_of {l : List AV} {r : AV} (h : oRings l = some r) : ∃ ts, SmTs ts ∧ l = [.sl 3 (encTs ts)] ∧ r = .bool (ringB (tds ts)) := by
  unfold oRings at h
  split at h
  · rename_i hx
    cases h
    exact ⟨_, (Classical.choose_spec hx).1, (Classical.choose_spec hx).2, rfl⟩
  · cases h
theorem oRings_at {ts : List Th} (hs : SmTs ts) : oRings [.sl 3 (encTs ts)] = some (.bool (ringB (tds ts))) := by
  unfold oRings
  have hx : ∃ q, SmTs q ∧ [AV.sl 3 (encTs ts)] = [.sl 3 (encTs q)] := ⟨ts, hs, rfl⟩
  rw [dif_pos hx]
  have h2 := (Classical.choose_spec hx).2
  have h3 := (AV.sl.inj (List.cons.inj h2).1).2
  exact congrArg (fun x => some (AV.bool (ringB x))) (tds_inj h3).symm
theorem str_is {w : World} {c : Cls} {v : Value} {s : Bs} (h : Rep w c v (.str s)) : v = .string ⟨s.toArray⟩ := by
  obtain ⟨b, rfl, rfl⟩ := rep_str h
  congr 1
theorem rt_of {w : World} {c : Cls} {v : Value} {ts : List Th} (h : Rep w c v (.sl 3 (encTs ts))) : RT w v (tds ts) := by
  obtain ⟨A, cap, rfl, _, _, hm⟩ := rep_sl h
  have hlen : (tds ts).length = (encTs ts).length := by simp [tds, encTs]
  refine ⟨A, cap, by rw [hlen], fun i n ds hi => ?_⟩
  have hi' : i < ts.length := by have := (List.getElem?_eq_some_iff.1 hi).1; simpa [tds] using this
  have e1 : ts[i]? = some ts[i] := List.getElem?_eq_getElem hi'
  have e2 : (ts[i].n, ts[i].d) = (n, ds) := by
    rw [tds, List.getElem?_map, e1] at hi; simpa using hi
  obtain ⟨rfl, rfl⟩ := Prod.mk.inj e2
  obtain ⟨g, o, rfl, _, f, hc, _, hr⟩ := hm (by rw [encTs_len]; omega)
  have hl : i < (encTs ts).length := by rw [encTs_len]; exact hi'
  have r0 := str_is (hr i 0 _ _ (encTs_at e1) rfl)
  obtain ⟨A1, cap1, r1, _⟩ := rep_sl (hr i 1 _ _ (encTs_at e1) rfl)
  obtain ⟨A2, cap2, r2, _, _, hm2⟩ := rep_sl (hr i 2 _ _ (encTs_at e1) rfl)
  refine ⟨g, o, A1, (encV ts[i].v).length, cap1, A2, cap2, rfl, ?_, ?_, ?_, fun j s hs => ?_⟩
  · have := hc i 0 hl (by omega); rw [r0] at this; exact this
  · have := hc i 1 hl (by omega); rw [r1] at this; exact this
  · have := hc i 2 hl (by omega); rw [r2, encD_len] at this; exact this
  · have hj : j < ts[i].d.length := (List.getElem?_eq_some_iff.1 hs).1
    obtain ⟨g2, o2, rfl, _, f2, hc2, _, hr2⟩ := hm2 (by rw [encD_len]; omega)
    refine ⟨g2, o2, rfl, ?_⟩
    have := hc2 j 0 (by rw [encD_len]; exact hj) (by omega)
    rw [str_is (hr2 j 0 _ _ (encD_at hs) rfl)] at this
    simpa using this
theorem find_calls {w : World} {c : Cls} {v : Value} {ts : List Th} (hG : GOK τ w c) (hR : Rep w c v (.sl 3 (encTs ts))) (hl : ts.length ≤ 1073741824) (W : World) (hB : Below w.heap.size w W) (s : Bs) :
    Calls Tryz.prog 14 #[v, .string ⟨s.toArray⟩] W fun e w' => ∃ i : Int, e = .returned (.int .i64 i) ∧ (0 ≤ i ↔ s ∈ nms (tds ts)) ∧ Below W.heap.size W w' := by
  refine (St.calls_plain sysOK (show ωκ S 14 _ = _ from findP30_is ts hl s) (vs := #[v, .string ⟨s.toArray⟩]) Tryz.func14 rfl (by decide +kernel) (hG.ext (ext_cut c hB)) rfl (fun i x y hx hy => ?_)).mono fun e w' ⟨x, c', he, hx, hr⟩ => ?_
  · rcases i with _ | _ | i
    · simp at hx hy; subst hx; subst hy; exact .inr (hR.ext (ext_cut c hB))
    · simp at hx hy; subst hx; subst hy
      have := Rep.str (w := W) (c := fun b => if b < w.heap.size then c b else .frz) ⟨s.toArray⟩
      exact .inr (by simpa using this)
    · simp at hx
  · obtain rfl := rep_int (show Rep w' c' x (.int .i64 _) from hr)
    exact ⟨_, he, by rw [nms_tds]; exact ixB_pos _ _ _, St.ext_below hx⟩
theorem pcRings {ts : List Th} (hs : SmTs ts) : PC Tryz.prog τ 37 [.sl 3 (encTs ts)] (.bool (ringB (tds ts))) := by
  refine pc_of Tryz.func37 rfl (by decide +kernel) fun w c vs hG hsz ha => ?_
  obtain ⟨v, rfl, hv⟩ := one_arg hsz ha
  have hR : Rep w c v (.sl 3 (encTs ts)) := by rcases hv with hv | hv <;> exact hv
  refine (rings_any (rt_of hR) (by simpa [tds] using hs.1) (fun t ht => ?_) (fun x hx => ?_) fun W hB s => ?_).mono fun e w' ⟨he, hB⟩ => ⟨_, he, hB, fun c' => Rep.bool _⟩
  · obtain ⟨u, hu, rfl⟩ := List.mem_map.1 ht
    exact (hs.2 u hu).1
  · rw [nms_tds] at hx
    obtain ⟨u, hu, rfl⟩ := List.mem_map.1 hx
    exact (hs.2 u hu).2
  · exact find_calls hG hR (by have := hs.1; omega) W hB s
/-! Encode -/
theorem ringB_nil : ringB [] = false := by
  cases h : ringB [] with
  | false => rfl
  | true =>
    obtain ⟨S, ⟨k, hk⟩, hS⟩ := ringB_true.1 h
    have := (hS k hk).1
    cases this
theorem right0 (w : World) (c : Cls) (b : Option Addr) (cap : Nat) (hG : GOK τ w c) (hR : Rep w c (.slice b 0 cap) (.sl 3 (encTs []))) : Calls Tryz.prog 17 #[.slice b 0 cap] w fun e w' => e = .returned (.bool true) ∧ Below w.heap.size w w' := by
  have C := rings_any (w := w) (v := .slice b 0 cap) (ts := []) ⟨b, cap, rfl, fun i n ds h => by simp at h⟩ (by simp) (fun t ht => by cases ht) (fun x hx => by cases hx) (find_calls hG hR (by simp))
  · rw [ringB_nil] at C
    replace C := Lib.hid C
    go_enter Tryz.func17, Tryz.ntmps17
    go_wp2_with fail
    refine wp_loop_rounds 1 ?_
    rw [rounds_succ]; go_wp2_with fail
    refine C.out.mono ?_
    rintro e w' ⟨rfl, hB⟩
    replace hB := Lib.hid hB
    go_wp2_with fail
    go_ret
    exact ⟨rfl, hB.out⟩
def oEnc : List AV → Option AV
  | [.sl 3 []] => some (.tup [.str [0], .int .i64 0])
  | _ => none
theorem pcEnc (l : List AV) (r : AV) (h : oEnc l = some r) : PC Tryz.prog τ 26 l r := by
  unfold oEnc at h
  split at h
  · cases h
    refine pc_of Tryz.func26 rfl (by decide +kernel) fun w c vs hG hsz ha => ?_
    obtain ⟨v, rfl, hv⟩ := one_arg hsz ha
    have hR : Rep w c v (.sl 3 []) := by rcases hv with hv | hv <;> exact hv
    obtain ⟨b, cap, rfl, _⟩ := rep_sl hR
    refine (encode0 w b cap (right0 w c b cap hG hR)).mono fun e w' ⟨he, hB⟩ => ⟨_, he, hB, fun c' => ⟨_, rfl, rfl, fun i x u hx hu => ?_⟩⟩
    rcases i with _ | _ | i
    · simp at hx hu; subst hx; subst hu; exact Rep.str ⟨#[0]⟩
    · simp at hx hu; subst hx; subst hu; exact Rep.int _ _
    · simp at hx
  · cases h
/-! settle -/
noncomputable def oSettle (l : List AV) : Option AV := open Classical in if ∃ t : Tm, szV [t] ≤ 1073741824 ∧ wtV [t] ≤ 512 ∧ l = [.sl 8 [encT t]] then (match l with | [.sl 8 x] => some (.tup [.agg 1 [.sl 8 x], .int .i64 0]) | _ => none) else none
theorem oSettle_of {l : List AV} {r : AV} (h : oSettle l = some r) : ∃ t : Tm, szV [t] ≤ 1073741824 ∧ wtV [t] ≤ 512 ∧ l = [.sl 8 [encT t]] ∧ r = .tup [.agg 1 [.sl 8 [encT t]], .int .i64 0] := by
  unfold oSettle at h
  split at h
  · rename_i hx
    obtain ⟨t, h1, h2, rfl⟩ := hx
    cases h
    exact ⟨t, h1, h2, rfl, rfl⟩
  · cases h
theorem oSettle_at {t : Tm} (h1 : szV [t] ≤ 1073741824) (h2 : wtV [t] ≤ 512) : oSettle [.sl 8 [encT t]] = some (.tup [.agg 1 [.sl 8 [encT t]], .int .i64 0]) := by
  unfold oSettle
  rw [if_pos ⟨t, h1, h2, rfl⟩]; rfl
theorem pcSettle {t : Tm} (h1 : szV [t] ≤ 1073741824) (h2 : wtV [t] ≤ 512) : PC Tryz.prog τ 129 [.sl 8 [encT t]] (.tup [.agg 1 [.sl 8 [encT t]], .int .i64 0]) := by
  intro w c vs hG hsz ha
  obtain ⟨v, rfl, hv⟩ := one_arg hsz ha
  have hR : Rep w c v (.sl 8 [encT t]) := by rcases hv with hv | hv <;> exact hv
  refine .inl ⟨by simp [callFunc, Tryz.func129, (show ¬ Tryz.f129.name = "runtime.NumGoroutine" by decide +kernel), (show Tryz.f129.body = some _ from rfl)], ?_⟩
  refine (St.settle_one w c v t hR h1 hG h2).mono fun e w' ⟨v', fp, he, hB, hO⟩ => ⟨_, he, _, ext_cut c hB, ?_⟩
  have e1 : [encT t] = encV [t] := by rw [encV_map]; rfl
  refine ⟨_, rfl, rfl, fun i x y hx hy => ?_⟩
  rcases i with _ | _ | i
  · simp at hx hy
    subst hx; subst hy
    exact ⟨_, rfl, rfl, rfl, fun j a z ha hz => by
      rcases j with _ | j
      · simp at ha hz; subst ha; subst hz; rw [e1]; exact hO.rep (fun b hb => by simp; omega)
      · simp at ha⟩
  · simp at hx hy; subst hx; subst hy; exact .int _ _
  · simp at hx
/-! The system -/
noncomputable def Y1 : Abs.Sys := withO S 37 oRings
noncomputable def Y2 : Abs.Sys := withO Y1 129 oSettle
noncomputable def Z : Abs.Sys := withO Y2 26 oEnc
theorem upZ {f : Nat} {l : List AV} {v : AV} (h : ωκ S f l = some v) : ωκ Z f l = some v := ω_up Y2 26 oEnc rfl (ω_up Y1 129 oSettle rfl (ω_up S 37 oRings rfl h))
theorem sysOKZ : SysOK Tryz.prog Z := ⟨sysOK.tab, sysOK.fol, fun f g h l r hr => by
  by_cases hf : f = 26
  · subst hf
    rw [Z, withO_at] at h
    cases h
    exact pcEnc l r hr
  rw [Z, withO_ne _ _ _ hf] at h
  by_cases hf2 : f = 129
  · subst hf2
    rw [Y2, withO_at] at h
    cases h
    obtain ⟨t, h1, h2, rfl, rfl⟩ := oSettle_of hr
    exact pcSettle h1 h2
  rw [Y2, withO_ne _ _ _ hf2] at h
  by_cases hf3 : f = 37
  · subst hf3
    rw [Y1, withO_at] at h
    cases h
    obtain ⟨ts, hs, rfl, rfl⟩ := oRings_of hr
    exact pcRings hs
  rw [Y1, withO_ne _ _ _ hf3] at h
  exact sysOK.or f g h l r hr, fun f d h => sysOK.fn f d h⟩
theorem z_rings {ts : List Th} (hs : SmTs ts) : ωκ Z 37 [.sl 3 (encTs ts)] = some (.bool (ringB (tds ts))) := by
  rw [ωκ_eq, ω_O Z 37 _ oRings (by rw [Z, withO_ne _ _ _ (by decide), Y2, withO_ne _ _ _ (by decide), Y1, withO_at])]; exact oRings_at hs
theorem z_settle {t : Tm} (h1 : szV [t] ≤ 1073741824) (h2 : wtV [t] ≤ 512) : ωκ Z 129 [.sl 8 [encT t]] = some (.tup [.agg 1 [.sl 8 [encT t]], .int .i64 0]) := by
  rw [ωκ_eq, ω_O Z 129 _ oSettle (by rw [Z, withO_ne _ _ _ (by decide), Y2, withO_at])]; exact oSettle_at h1 h2
theorem z_enc : ωκ Z 26 [.sl 3 []] = some (.tup [.str [0], .int .i64 0]) := by
  rw [ωκ_eq, ω_O Z 26 _ oEnc (by rw [Z, withO_at])]; rfl
noncomputable def u_fact_One (a0 : AV) : Option AV := ωκ Z 63 [a0]
noncomputable def u_fact_Settled (a0 : AV) : Option AV := ωκ Z 65 [a0]
theorem up_fact_Settled {a0 : AV} {v : AV} (h : fact_Settled a0 = some v) : u_fact_Settled a0 = some v := upZ h
noncomputable def u_fact_one (a0 : AV) : Option AV := ωκ Z 92 [a0]
theorem up_fact_one {a0 : AV} {v : AV} (h : fact_one a0 = some v) : u_fact_one a0 = some v := upZ h
noncomputable def u_lat_Of (a0 : AV) : Option AV := ωκ Z 93 [a0]
noncomputable def u_lat_Right (a0 : AV) : Option AV := ωκ Z 85 [a0]
theorem up_lat_Right {a0 : AV} {v : AV} (h : lat_Right a0 = some v) : u_lat_Right a0 = some v := upZ h
noncomputable def u_lat_settle (a0 : AV) : Option AV := ωκ Z 129 [a0]
noncomputable def u_lat_shaped (a0 a1 : AV) : Option AV := ωκ Z 127 [a0, a1]
theorem up_lat_shaped {a0 a1 : AV} {v : AV} (h : lat_shaped a0 a1 = some v) : u_lat_shaped a0 a1 = some v := upZ h
noncomputable def u_law30_Few (a0 : AV) : Option AV := ωκ Z 6 [a0]
noncomputable def u_law30_StateRights (a0 a1 a2 : AV) : Option AV := ωκ Z 4 [a0, a1, a2]
noncomputable def u_law30_awake : Option AV := ωκ Z 7 []
noncomputable def u_name_Right (a0 : AV) : Option AV := ωκ Z 64 [a0]
theorem up_name_Right {a0 : AV} {v : AV} (h : name_Right a0 = some v) : u_name_Right a0 = some v := upZ h
noncomputable def u_name_Rising (a0 : AV) : Option AV := ωκ Z 66 [a0]
theorem up_name_Rising {a0 : AV} {v : AV} (h : name_Rising a0 = some v) : u_name_Rising a0 = some v := upZ h
noncomputable def u_rank_Depth (a0 : AV) : Option AV := ωκ Z 128 [a0]
theorem up_rank_Depth {a0 : AV} {v : AV} (h : rank_Depth a0 = some v) : u_rank_Depth a0 = some v := upZ h
noncomputable def u_ref29_Things (a0 a1 : AV) : Option AV := ωκ Z 13 [a0, a1]
noncomputable def u_ref30_Find (a0 a1 : AV) : Option AV := ωκ Z 20 [a0, a1]
noncomputable def u_ref30_Right (a0 : AV) : Option AV := ωκ Z 18 [a0]
noncomputable def u_slices_Contains__string (a0 a1 : AV) : Option AV := ωκ Z 67 [a0, a1]
theorem up_slices_Contains__string {a0 a1 : AV} {v : AV} (h : slices_Contains__string a0 a1 = some v) : u_slices_Contains__string a0 a1 = some v := upZ h
noncomputable def u_state_Encode (a0 : AV) : Option AV := ωκ Z 26 [a0]
noncomputable def u_state_Find (a0 a1 : AV) : Option AV := ωκ Z 14 [a0, a1]
theorem up_state_Find {a0 a1 : AV} {v : AV} (h : state_Find a0 a1 = some v) : u_state_Find a0 a1 = some v := upZ h
noncomputable def u_state_Right (a0 : AV) : Option AV := ωκ Z 17 [a0]
noncomputable def u_state_Same (a0 a1 : AV) : Option AV := ωκ Z 19 [a0, a1]
noncomputable def u_state_good (a0 : AV) : Option AV := ωκ Z 36 [a0]
noncomputable def u_state_rings (a0 : AV) : Option AV := ωκ Z 37 [a0]
theorem urun4 (l : List AV) : ωκ Z 4 l = runM τ (fun _ => none) (ωκ Z) [6] lpκ d4.code (look (argEnv 0 l)) (retV τ d4.rs) :=
  ωκ_run Z 4 l d4 rfl (by show (Tryz.prog.funcs[4]?).bind toFD = _; rw [Tryz.func4]; rfl)
theorem u_law30_StateRights.f_eq (l1 : List (List AV)) (l2 : List (List AV)) (s3 : List UInt8) : u_law30_StateRights (AV.sl 3 l1) (AV.sl 3 l2) (AV.str s3) = ((u_law30_Few (AV.sl 3 l1)).bind fun r4 => asB r4 fun b5 => (ifB (!b5) (some true) ((u_law30_Few (AV.sl 3 l2)).bind fun r7 => asB r7 fun b8 => some (!b8)) : Option Bool).bind fun b6 => (ifB b6 (some true) (some (decide ((100 : Int) < (List.length s3 : Int)))) : Option Bool).bind fun b9 => ifB b9 (u_law30_awake.bind fun r10 => asB r10 fun b11 => some (AV.bool b11)) (u_law30_awake.bind fun r12 => asB r12 fun b13 => (ifB b13 ((u_state_Right (AV.sl 3 l1)).bind fun r15 => asB r15 fun b16 => (u_ref30_Right (AV.sl 3 l1)).bind fun r17 => asB r17 fun b18 => some (b16 == b18)) (some false) : Option Bool).bind fun b14 => (ifB b14 ((u_state_Same (AV.sl 3 l1) (AV.sl 3 l2)).bind fun r20 => asB r20 fun b21 => (u_ref29_Things (AV.sl 3 l1) (AV.sl 3 l2)).bind fun r22 => asB r22 fun b23 => some (b21 == b23)) (some false) : Option Bool).bind fun b19 => (ifB b19 ((u_state_Find (AV.sl 3 l1) (AV.str s3)).bind fun r25 => asI .i64 r25 fun n26 => (u_ref30_Find (AV.sl 3 l1) (AV.str s3)).bind fun r27 => asI .i64 r27 fun n28 => some (decide ((n26 : Int) = n28))) (some false) : Option Bool).bind fun b24 => some (AV.bool b24))) :=
  (urun4 _).trans (by kernel_rfl)

theorem urun7 (l : List AV) : ωκ Z 7 l = runM τ (fun _ => none) (ωκ Z) [0] lpκ d7.code (look (argEnv 0 l)) (retV τ d7.rs) :=
  ωκ_run Z 7 l d7 rfl (by show (Tryz.prog.funcs[7]?).bind toFD = _; rw [Tryz.func7]; rfl)
theorem u_law30_awake.f_eq  : u_law30_awake = ((u_state_Encode (AV.sl 3 [])).bind fun r1 => asT2 r1 fun a2 a3 => asS a2 fun s4 => asI .i64 a3 fun n5 => (ifB (decide ((s4 : List UInt8) = [0])) (some (decide ((n5 : Int) = 0))) (some false) : Option Bool).bind fun b6 => (ifB b6 ((u_state_Right (AV.sl 3 ([[AV.str [97], AV.sl 8 ([[AV.int .i64 4, AV.int .i64 0, AV.int .i64 0, AV.str [], AV.bool false, AV.bool false, AV.bool false, AV.sl 2 []]]), AV.sl 1 ([[AV.str [98]]])]]))).bind fun r8 => asB r8 fun b9 => some b9) (some false) : Option Bool).bind fun b7 => (ifB b7 ((u_state_Find (AV.sl 3 ([[AV.str [97], AV.sl 8 ([[AV.int .i64 4, AV.int .i64 0, AV.int .i64 0, AV.str [], AV.bool false, AV.bool false, AV.bool false, AV.sl 2 []]]), AV.sl 1 ([[AV.str [98]]])]])) (AV.str [97])).bind fun r11 => asI .i64 r11 fun n12 => some (decide ((n12 : Int) = 0))) (some false) : Option Bool).bind fun b10 => some (AV.bool b10)) :=
  (urun7 _).trans (by kernel_rfl)

theorem urun17 (l : List AV) : ωκ Z 17 l = runM τ ann17 (ωκ Z) [2] lpκ d17.code (look (argEnv 0 l)) (retV τ d17.rs) :=
  ωκ_run Z 17 l d17 rfl (by show (Tryz.prog.funcs[17]?).bind toFD = _; rw [Tryz.func17]; rfl)
noncomputable def u_state_Right.l0 (a0 a8 a9 a10 : AV) : Option AV := loopAt Z 17 d17 [1, 1, 0, 1, 0] (look [(0, a0), (8, a8), (9, a9), (10, a10)])
theorem u_state_Right.f_eq (l1 : List (List AV)) : u_state_Right (AV.sl 3 l1) = (ifB (decide ((256 : Int) < (List.length l1 : Int))) (some (AV.bool false)) (u_state_Right.l0 (AV.sl 3 l1) (AV.sl 3 l1) (AV.int .i64 (List.length l1 : Int)) (AV.int .i64 0))) :=
  (urun17 _).trans (by kernel_rfl)
theorem u_state_Right.l0_eq (l1 : List (List AV)) (l2 : List (List AV)) (n3 : Int) (n4 : Int) : u_state_Right.l0 (AV.sl 3 l1) (AV.sl 3 l2) (AV.int .i64 n3) (AV.int .i64 n4) = (ifB (decide ((n4 : Int) < n3)) (idx l2 n4 fun c5 => (u_state_good (AV.agg 3 c5)).bind fun r6 => asB r6 fun b7 => (ifB (!b7) (some true) ((ifB (decide ((0 : Int) < n4)) (getC c5 0 fun a10 => asS a10 fun s11 => idx l1 (w64 (n4 - 1)) fun c12 => getC c12 0 fun a13 => asS a13 fun s14 => some (bytesLt s11 s14 || decide ((s11 : List UInt8) = s14))) (some false) : Option Bool).bind fun b9 => some b9) : Option Bool).bind fun b8 => ifB b8 (some (AV.bool false)) (u_state_Right.l0 (AV.sl 3 l1) (AV.sl 3 l2) (AV.int .i64 n3) (AV.int .i64 (w64 (n4 + 1))))) ((u_state_rings (AV.sl 3 l1)).bind fun r15 => asB r15 fun b16 => some (AV.bool (!b16)))) :=
  (loopAt_eq Z 17 d17 [1, 1, 0, 1, 0] _).trans (by kernel_rfl)
theorem urun36 (l : List AV) : ωκ Z 36 l = runM τ (fun _ => none) (ωκ Z) [2] lpκ d36.code (look (argEnv 0 l)) (retV τ d36.rs) :=
  ωκ_run Z 36 l d36 rfl (by show (Tryz.prog.funcs[36]?).bind toFD = _; rw [Tryz.func36]; rfl)
theorem u_state_good.f_eq (c1 : List AV) : u_state_good (AV.agg 3 c1) = (getC c1 1 fun a2 => (u_fact_One (AV.agg 1 [(frz a2)])).bind fun r3 => asT2 r3 fun a4 a5 => asC 8 a4 fun c6 => asI .i64 a5 fun n7 => getC c1 0 fun a8 => asS a8 fun s9 => (u_name_Right (AV.str s9)).bind fun r10 => asB r10 fun b11 => (ifB b11 (some (decide ((n7 : Int) = 0))) (some false) : Option Bool).bind fun b12 => (ifB b12 (getC c6 0 fun a14 => asI .i64 a14 fun n15 => some (decide ((n15 : Int) = 4))) (some false) : Option Bool).bind fun b13 => (ifB b13 (getC c1 1 fun a17 => (u_fact_Settled (AV.agg 1 [(frz a17)])).bind fun r18 => asB r18 fun b19 => some b19) (some false) : Option Bool).bind fun b16 => (ifB b16 (getC c1 2 fun a21 => asL 1 a21 fun l22 => (u_name_Rising (AV.sl 1 l22)).bind fun r23 => asB r23 fun b24 => some b24) (some false) : Option Bool).bind fun b20 => (ifB b20 (getC c1 2 fun a26 => asL 1 a26 fun l27 => getC c1 0 fun a28 => asS a28 fun s29 => (u_slices_Contains__string (AV.sl 1 l27) (AV.str s29)).bind fun r30 => asB r30 fun b31 => some (!b31)) (some false) : Option Bool).bind fun b25 => some (AV.bool b25)) :=
  (urun36 _).trans (by kernel_rfl)

theorem urun63 (l : List AV) : ωκ Z 63 l = runM τ (fun _ => none) (ωκ Z) [3] lpκ d63.code (look (argEnv 0 l)) (retV τ d63.rs) :=
  ωκ_run Z 63 l d63 rfl (by show (Tryz.prog.funcs[63]?).bind toFD = _; rw [Tryz.func63]; rfl)
theorem u_fact_One.f_eq (c1 : List AV) : u_fact_One (AV.agg 1 c1) = ((u_lat_Right (AV.agg 1 c1)).bind fun r2 => asB r2 fun b3 => ifB (!b3) (some (.tup [AV.agg 8 [AV.int .i64 0, AV.int .i64 0, AV.int .i64 0, AV.str [], AV.bool false, AV.bool false, AV.bool false, AV.sl 2 []], AV.int .i64 1])) ((u_fact_one (AV.agg 1 c1)).bind fun r4 => asT2 r4 fun a5 a6 => asC 8 a5 fun c7 => asI .i64 a6 fun n8 => (ifB (decide ((n8 : Int) = 0)) (getC c7 0 fun a10 => asI .i64 a10 fun n11 => some (decide ((n11 : Int) = 4))) (some false) : Option Bool).bind fun b9 => ifB b9 ((u_lat_Of (AV.sl 8 [c7])).bind fun r12 => asT2 r12 fun a13 a14 => asC 1 a13 fun c15 => asI .i64 a14 fun n16 => getC c15 0 fun a17 => asL 8 a17 fun l18 => idx l18 0 fun c19 => some (.tup [AV.agg 8 c19, AV.int .i64 n8])) (some (.tup [AV.agg 8 c7, AV.int .i64 n8])))) :=
  (urun63 _).trans (by kernel_rfl)
theorem urun93 (l : List AV) : ωκ Z 93 l = runM τ ann93 (ωκ Z) [3] lpκ d93.code (look (argEnv 0 l)) (retV τ d93.rs) :=
  ωκ_run Z 93 l d93 rfl (by show (Tryz.prog.funcs[93]?).bind toFD = _; rw [Tryz.func93]; rfl)
noncomputable def u_lat_Of.l0 (a0 a2 a4 a13 a14 a15 : AV) : Option AV := loopAt Z 93 d93 [1, 1, 1, 0, 1, 0] (look [(0, a0), (2, a2), (4, a4), (13, a13), (14, a14), (15, a15)])
noncomputable def u_lat_Of.l1 (a0 a2 a4 a13 a14 a15 a30 a31 a32 : AV) : Option AV := loopAt Z 93 d93 [1, 1, 1, 0, 1, 0, 0, 1, 1, 0, 0, 1, 1, 1, 1, 0] (look [(0, a0), (2, a2), (4, a4), (13, a13), (14, a14), (15, a15), (30, a30), (31, a31), (32, a32)])
theorem u_lat_Of.f_eq (l1 : List (List AV)) : u_lat_Of (AV.sl 8 l1) = (ifB (decide ((512 : Int) < (List.length l1 : Int))) (some (.tup [AV.agg 1 [AV.sl 8 []], AV.int .i64 1])) (u_lat_Of.l0 (AV.sl 8 l1) (AV.boxv 1 [AV.sl 8 []] [(0, AV.own 8 [])]) (AV.int .i64 1) (AV.sl 8 l1) (AV.int .i64 (List.length l1 : Int)) (AV.int .i64 0))) :=
  (urun93 _).trans (by kernel_rfl)
theorem u_lat_Of.l0_eq (l1 : List (List AV)) (l2 : List (List AV)) (l3 : List (List AV)) (n4 : Int) (l5 : List (List AV)) (n6 : Int) (n7 : Int) : u_lat_Of.l0 (AV.sl 8 l1) (AV.boxv 1 [AV.sl 8 l2] [(0, AV.own 8 l3)]) (AV.int .i64 n4) (AV.sl 8 l5) (AV.int .i64 n6) (AV.int .i64 n7) = (ifB (decide ((n7 : Int) < n6)) (idx l5 n7 fun c8 => (u_lat_shaped (AV.agg 8 c8) (AV.int .i64 17)).bind fun r9 => asB r9 fun b10 => ifB (!b10) (some (.tup [AV.agg 1 [AV.sl 8 []], AV.int .i64 1])) ((u_rank_Depth (AV.agg 1 [AV.sl 8 [c8]])).bind fun r11 => asI .i64 r11 fun n12 => getC c8 7 fun a13 => asL 2 a13 fun l14 => u_lat_Of.l1 (AV.sl 8 l1) (AV.boxv 1 [AV.sl 8 l2] [(0, AV.own 8 l3)]) (AV.int .i64 (max (n4 : Int) n12)) (AV.sl 8 l5) (AV.int .i64 n6) (AV.int .i64 n7) (AV.sl 2 l14) (AV.int .i64 (List.length l14 : Int)) (AV.int .i64 0))) (ifB (decide ((16 : Int) < n4)) (some (.tup [AV.agg 1 [AV.sl 8 []], AV.int .i64 22])) ((u_lat_settle (AV.sl 8 l1)).bind fun r15 => asT2 r15 fun a16 a17 => asC 1 a16 fun c18 => asI .i64 a17 fun n19 => some (.tup [AV.agg 1 c18, AV.int .i64 n19])))) :=
  (loopAt_eq Z 93 d93 [1, 1, 1, 0, 1, 0] _).trans (by kernel_rfl)
theorem u_lat_Of.l1_eq (l1 : List (List AV)) (l2 : List (List AV)) (l3 : List (List AV)) (n4 : Int) (l5 : List (List AV)) (n6 : Int) (n7 : Int) (l8 : List (List AV)) (n9 : Int) (n10 : Int) : u_lat_Of.l1 (AV.sl 8 l1) (AV.boxv 1 [AV.sl 8 l2] [(0, AV.own 8 l3)]) (AV.int .i64 n4) (AV.sl 8 l5) (AV.int .i64 n6) (AV.int .i64 n7) (AV.sl 2 l8) (AV.int .i64 n9) (AV.int .i64 n10) = (ifB (decide ((n10 : Int) < n9)) (idx l8 n10 fun c11 => getC c11 1 fun a12 => (u_lat_Right (AV.agg 1 [(frz a12)])).bind fun r13 => asB r13 fun b14 => ifB (!b14) (some (.tup [AV.agg 1 [AV.sl 8 []], AV.int .i64 1])) (u_lat_Of.l1 (AV.sl 8 l1) (AV.boxv 1 [AV.sl 8 l2] [(0, AV.own 8 l3)]) (AV.int .i64 n4) (AV.sl 8 l5) (AV.int .i64 n6) (AV.int .i64 n7) (AV.sl 2 l8) (AV.int .i64 n9) (AV.int .i64 (w64 (n10 + 1))))) (u_lat_Of.l0 (AV.sl 8 l1) (AV.boxv 1 [AV.sl 8 l2] [(0, AV.own 8 l3)]) (AV.int .i64 n4) (AV.sl 8 l5) (AV.int .i64 n6) (AV.int .i64 (w64 (n7 + 1))))) :=
  (loopAt_eq Z 93 d93 [1, 1, 1, 0, 1, 0, 0, 1, 1, 0, 0, 1, 1, 1, 1, 0] _).trans (by kernel_rfl)


end Go.Proofs.YtffojfcinkihnaaGreatDoor.Abs
