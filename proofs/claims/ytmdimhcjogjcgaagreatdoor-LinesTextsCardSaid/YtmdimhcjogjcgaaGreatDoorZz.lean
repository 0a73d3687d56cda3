/- rings, settle, Join and Few of actions are told: the system Z; the law's own equations (printed by syz.py). -/
import Derived.Test.YtmdimhcjogjcgaaGreatDoorSZ
import Derived.Test.YtmdimhcjogjcgaaGreatDoorFw5
set_option linter.unusedVariables false
set_option linter.unusedSimpArgs false
set_option linter.unusedSectionVars false
set_option linter.deprecated false
set_option linter.unnecessarySimpa false
namespace Go.Proofs.YtmdimhcjogjcgaaGreatDoor.Abs
open Go.RowKit Go.Proofs.YtmdimhcjogjcgaaGreatDoor.Lat Go.Proofs.YtmdimhcjogjcgaaGreatDoor.Gr Go.Proofs.YtmdimhcjogjcgaaGreatDoor.Th
set_option linter.unusedVariables false
set_option maxRecDepth 100000
/-! Few of actions -/
theorem drop_encAs (p : List Ac) : (encAs p).map (List.drop 1) = encTs (thsOf p) := by
  simp only [encAs, thsOf, encTs, List.map_map]
  exact List.map_congr_left fun a _ => rfl
noncomputable def oFew (l : List AV) : Option AV := open Classical in if ∃ p : List Ac, p.length * 64 ≤ 140737488355328 ∧ l = [.sl 4 (encAs p)] then (match l with | [.sl 4 x] => law30_Few (.sl 3 (x.map (List.drop 1))) | _ => none) else none
theorem oFew_of {l : List AV} {r : AV} (h : oFew l = some r) : ∃ p : List Ac, p.length * 64 ≤ 140737488355328 ∧ l = [.sl 4 (encAs p)] ∧ law30_Few (.sl 3 (encTs (thsOf p))) = some r := by
  unfold oFew at h
  split at h
  · rename_i hx
    obtain ⟨p, hp, rfl⟩ := hx
    have h : law30_Few (.sl 3 ((encAs p).map (List.drop 1))) = some r := h
    rw [drop_encAs] at h
    exact ⟨p, hp, rfl, h⟩
  · cases h
theorem oFew_at {p : List Ac} (hp : p.length * 64 ≤ 140737488355328) : oFew [.sl 4 (encAs p)] = law30_Few (.sl 3 (encTs (thsOf p))) := by
  unfold oFew
  rw [if_pos ⟨p, hp, rfl⟩, ← drop_encAs]
  rfl
theorem pcFew {p : List Ac} (hs : p.length * 64 ≤ 140737488355328) {r : AV} (hr : law30_Few (.sl 3 (encTs (thsOf p))) = some r) : PC Tryz.prog τ 22 [.sl 4 (encAs p)] r := by
  obtain ⟨b, hb, _⟩ := fewT_is (thsOf p)
  rw [hb] at hr
  cases hr
  refine pc_of Tryz.func22 rfl (by decide +kernel) fun w c vs hG hsz ha => ?_
  obtain ⟨v, rfl, hv⟩ := one_arg hsz ha
  have hR : Rep w c v (.sl 4 (encAs p)) := by rcases hv with hv | hv <;> exact hv
  exact (few33_any w c v p hR hG hs _ hb).mono fun e w' ⟨he, hB⟩ => ⟨_, he, hB, fun c' => Rep.bool _⟩
noncomputable def Z : Abs.Sys := withO Y3 22 oFew
theorem upZ {f : Nat} {l : List AV} {v : AV} (h : ωκ S f l = some v) : ωκ Z f l = some v := ω_up Y3 22 oFew rfl (ω_up Y2 107 oJoin rfl (ω_up Y1 195 oSettle rfl (ω_up S 78 oRings rfl h)))
theorem sysOKZ : SysOK Tryz.prog Z := ⟨sysOK.tab, sysOK.fol, fun f g h l r hr => by
  by_cases hf : f = 22
  · subst hf
    rw [Z, withO_at] at h
    cases h
    obtain ⟨p, hp, rfl, hq⟩ := oFew_of hr
    exact pcFew hp hq
  rw [Z, withO_ne _ _ _ hf] at h
  by_cases hf1 : f = 107
  · subst hf1
    rw [Y3, withO_at] at h
    cases h
    exact pcJoin l r hr
  rw [Y3, withO_ne _ _ _ hf1] at h
  by_cases hf2 : f = 195
  · subst hf2
    rw [Y2, withO_at] at h
    cases h
    obtain ⟨t, h1, h2, rfl, rfl⟩ := oSettle_of hr
    exact pcSettle h1 h2
  rw [Y2, withO_ne _ _ _ hf2] at h
  by_cases hf3 : f = 78
  · subst hf3
    rw [Y1, withO_at] at h
    cases h
    obtain ⟨ts, hs, rfl, rfl⟩ := oRings_of hr
    exact pcRings hs
  rw [Y1, withO_ne _ _ _ hf3] at h
  exact sysOK.or f g h l r hr, fun f d h => sysOK.fn f d h⟩
theorem z_rings {ts : List Th} (hs : SmTs ts) : ωκ Z 78 [.sl 3 (encTs ts)] = some (.bool (ringB (tds ts))) := by
  rw [ωκ_eq, ω_O Z 78 _ oRings (by rw [Z, withO_ne _ _ _ (by decide), Y3, withO_ne _ _ _ (by decide), Y2, withO_ne _ _ _ (by decide), Y1, withO_at])]; exact oRings_at hs
theorem z_settle {t : Tm} (h1 : szV [t] ≤ 1073741824) (h2 : wtV [t] ≤ 512) : ωκ Z 195 [.sl 8 [encT t]] = some (.tup [.agg 1 [.sl 8 [encT t]], .int .i64 0]) := by
  rw [ωκ_eq, ω_O Z 195 _ oSettle (by rw [Z, withO_ne _ _ _ (by decide), Y3, withO_ne _ _ _ (by decide), Y2, withO_at])]; exact oSettle_at h1 h2
theorem z_join {d : List Bs} {sep : Bs} (h : JoinOK d sep) : ωκ Z 107 [.sl 1 (encD d), .str sep] = some (.str (Lib.join d sep)) := by
  rw [ωκ_eq, ω_O Z 107 _ oJoin (by rw [Z, withO_ne _ _ _ (by decide), Y3, withO_at])]
  unfold oJoin
  simp only [strsOf_enc]
  rw [if_pos h]
theorem z_few {p : List Ac} (hp : p.length * 64 ≤ 140737488355328) : ωκ Z 22 [.sl 4 (encAs p)] = law30_Few (.sl 3 (encTs (thsOf p))) := by
  rw [ωκ_eq, ω_O Z 22 _ oFew (by rw [Z, withO_at])]; exact oFew_at hp
theorem h6 : (Tryz.prog.funcs[6]?).bind toFD = some d6 := by rw [Tryz.func6]; rfl
theorem h23 : (Tryz.prog.funcs[23]?).bind toFD = some d23 := by rw [Tryz.func23]; rfl
theorem h24 : (Tryz.prog.funcs[24]?).bind toFD = some d24 := by rw [Tryz.func24]; rfl
theorem h26 : (Tryz.prog.funcs[26]?).bind toFD = some d26 := by rw [Tryz.func26]; rfl
theorem h33 : (Tryz.prog.funcs[33]?).bind toFD = some d33 := by rw [Tryz.func33]; rfl
theorem h68 : (Tryz.prog.funcs[68]?).bind toFD = some d68 := by rw [Tryz.func68]; rfl
theorem h69 : (Tryz.prog.funcs[69]?).bind toFD = some d69 := by rw [Tryz.func69]; rfl
theorem h71 : (Tryz.prog.funcs[71]?).bind toFD = some d71 := by rw [Tryz.func71]; rfl
theorem h77 : (Tryz.prog.funcs[77]?).bind toFD = some d77 := by rw [Tryz.func77]; rfl
theorem h106 : (Tryz.prog.funcs[106]?).bind toFD = some d106 := by rw [Tryz.func106]; rfl
theorem h112 : (Tryz.prog.funcs[112]?).bind toFD = some d112 := by rw [Tryz.func112]; rfl
theorem h141 : (Tryz.prog.funcs[141]?).bind toFD = some d141 := by rw [Tryz.func141]; rfl
theorem h153 : (Tryz.prog.funcs[153]?).bind toFD = some d153 := by rw [Tryz.func153]; rfl
theorem h185 : (Tryz.prog.funcs[185]?).bind toFD = some d185 := by rw [Tryz.func185]; rfl
theorem h187 : (Tryz.prog.funcs[187]?).bind toFD = some d187 := by rw [Tryz.func187]; rfl
theorem h188 : (Tryz.prog.funcs[188]?).bind toFD = some d188 := by rw [Tryz.func188]; rfl
theorem h236 : (Tryz.prog.funcs[236]?).bind toFD = some d236 := by rw [Tryz.func236]; rfl
noncomputable def u_expr_Check (a0 : AV) : Option AV := ωκ Z 140 [a0]
theorem up_expr_Check {a0 : AV} {v : AV} (h : expr_Check a0 = some v) : u_expr_Check a0 = some v := upZ h
noncomputable def u_fact_One (a0 : AV) : Option AV := ωκ Z 112 [a0]
noncomputable def u_fact_Settled (a0 : AV) : Option AV := ωκ Z 113 [a0]
theorem up_fact_Settled {a0 : AV} {v : AV} (h : fact_Settled a0 = some v) : u_fact_Settled a0 = some v := upZ h
noncomputable def u_fact_one (a0 : AV) : Option AV := ωκ Z 152 [a0]
theorem up_fact_one {a0 : AV} {v : AV} (h : fact_one a0 = some v) : u_fact_one a0 = some v := upZ h
noncomputable def u_lat_Of (a0 : AV) : Option AV := ωκ Z 153 [a0]
noncomputable def u_lat_Right (a0 : AV) : Option AV := ωκ Z 84 [a0]
theorem up_lat_Right {a0 : AV} {v : AV} (h : lat_Right a0 = some v) : u_lat_Right a0 = some v := upZ h
noncomputable def u_lat_settle (a0 : AV) : Option AV := ωκ Z 195 [a0]
noncomputable def u_lat_shaped (a0 a1 : AV) : Option AV := ωκ Z 168 [a0, a1]
theorem up_lat_shaped {a0 a1 : AV} {v : AV} (h : lat_shaped a0 a1 = some v) : u_lat_shaped a0 a1 = some v := upZ h
noncomputable def u_law30_Few (a0 : AV) : Option AV := ωκ Z 12 [a0]
theorem up_law30_Few {a0 : AV} {v : AV} (h : law30_Few a0 = some v) : u_law30_Few a0 = some v := upZ h
noncomputable def u_law33_Few (a0 : AV) : Option AV := ωκ Z 22 [a0]
noncomputable def u_law36_LinesTexts (a0 a1 : AV) : Option AV := ωκ Z 6 [a0, a1]
noncomputable def u_law36_awake : Option AV := ωκ Z 23 []
noncomputable def u_lines_Expr (a0 : AV) : Option AV := ωκ Z 105 [a0]
theorem up_lines_Expr {a0 : AV} {v : AV} (h : lines_Expr a0 = some v) : u_lines_Expr a0 = some v := upZ h
noncomputable def u_lines_Plan (a0 : AV) : Option AV := ωκ Z 26 [a0]
noncomputable def u_lines_State (a0 : AV) : Option AV := ωκ Z 24 [a0]
noncomputable def u_lines_Value (a0 : AV) : Option AV := ωκ Z 68 [a0]
noncomputable def u_lines_action (a0 : AV) : Option AV := ωκ Z 71 [a0]
noncomputable def u_lines_thing (a0 : AV) : Option AV := ωκ Z 69 [a0]
noncomputable def u_name_Right (a0 : AV) : Option AV := ωκ Z 101 [a0]
theorem up_name_Right {a0 : AV} {v : AV} (h : name_Right a0 = some v) : u_name_Right a0 = some v := upZ h
noncomputable def u_name_Rising (a0 : AV) : Option AV := ωκ Z 108 [a0]
theorem up_name_Rising {a0 : AV} {v : AV} (h : name_Rising a0 = some v) : u_name_Rising a0 = some v := upZ h
noncomputable def u_name_Text (a0 : AV) : Option AV := ωκ Z 186 [a0]
noncomputable def u_num_Text (a0 : AV) : Option AV := ωκ Z 183 [a0]
theorem up_num_Text {a0 : AV} {v : AV} (h : num_Text a0 = some v) : u_num_Text a0 = some v := upZ h
noncomputable def u_rank_Depth (a0 : AV) : Option AV := ωκ Z 194 [a0]
theorem up_rank_Depth {a0 : AV} {v : AV} (h : rank_Depth a0 = some v) : u_rank_Depth a0 = some v := upZ h
noncomputable def u_ref36_Plan (a0 : AV) : Option AV := ωκ Z 27 [a0]
theorem up_ref36_Plan {a0 : AV} {v : AV} (h : ref36_Plan a0 = some v) : u_ref36_Plan a0 = some v := upZ h
noncomputable def u_ref36_State (a0 : AV) : Option AV := ωκ Z 25 [a0]
theorem up_ref36_State {a0 : AV} {v : AV} (h : ref36_State a0 = some v) : u_ref36_State a0 = some v := upZ h
noncomputable def u_show_Expr (a0 : AV) : Option AV := ωκ Z 106 [a0]
noncomputable def u_show_fields (a0 : AV) : Option AV := ωκ Z 187 [a0]
noncomputable def u_show_glue (a0 : AV) : Option AV := ωκ Z 185 [a0]
noncomputable def u_show_in (a0 a1 : AV) : Option AV := ωκ Z 236 [a0, a1]
noncomputable def u_show_kids (a0 : AV) : Option AV := ωκ Z 188 [a0]
noncomputable def u_show_level (a0 : AV) : Option AV := ωκ Z 235 [a0]
theorem up_show_level {a0 : AV} {v : AV} (h : show_level a0 = some v) : u_show_level a0 = some v := upZ h
noncomputable def u_show_text (a0 : AV) : Option AV := ωκ Z 141 [a0]
noncomputable def u_slices_Contains__string (a0 a1 : AV) : Option AV := ωκ Z 114 [a0, a1]
theorem up_slices_Contains__string {a0 a1 : AV} {v : AV} (h : slices_Contains__string a0 a1 = some v) : u_slices_Contains__string a0 a1 = some v := upZ h
noncomputable def u_state_Right (a0 : AV) : Option AV := ωκ Z 33 [a0]
noncomputable def u_state_good (a0 : AV) : Option AV := ωκ Z 77 [a0]
noncomputable def u_state_rings (a0 : AV) : Option AV := ωκ Z 78 [a0]
noncomputable def u_strings_Join (a0 a1 : AV) : Option AV := ωκ Z 107 [a0, a1]
noncomputable def u_token_Quote (a0 : AV) : Option AV := ωκ Z 184 [a0]
theorem up_token_Quote {a0 : AV} {v : AV} (h : token_Quote a0 = some v) : u_token_Quote a0 = some v := upZ h
theorem u_fact_One.f_eq (c1 : List AV) : u_fact_One (AV.agg 1 c1) = ((u_lat_Right (AV.agg 1 c1)).bind fun r2 => asB r2 fun b3 => ifB (!b3) (some (.tup [AV.agg 8 [AV.int .i64 0, AV.int .i64 0, AV.int .i64 0, AV.str [], AV.bool false, AV.bool false, AV.bool false, AV.sl 2 []], AV.int .i64 1])) ((u_fact_one (AV.agg 1 c1)).bind fun r4 => asT2 r4 fun a5 a6 => asC 8 a5 fun c7 => asI .i64 a6 fun n8 => (ifB (decide ((n8 : Int) = 0)) (getC c7 0 fun a10 => asI .i64 a10 fun n11 => some (decide ((n11 : Int) = 4))) (some false) : Option Bool).bind fun b9 => ifB b9 ((u_lat_Of (AV.sl 8 [c7])).bind fun r12 => asT2 r12 fun a13 a14 => asC 1 a13 fun c15 => asI .i64 a14 fun n16 => getC c15 0 fun a17 => asL 8 a17 fun l18 => idx l18 0 fun c19 => some (.tup [AV.agg 8 c19, AV.int .i64 n8])) (some (.tup [AV.agg 8 c7, AV.int .i64 n8])))) := (ωκ_run Z 112 _ d112 rfl h112).trans (by kernel_rfl)
noncomputable def u_lat_Of.l0 (a0 a2 a4 a13 a14 a15 : AV) : Option AV := loopAt Z 153 d153 [1, 1, 1, 0, 1, 0] (look [(0, a0), (2, a2), (4, a4), (13, a13), (14, a14), (15, a15)])
noncomputable def u_lat_Of.l1 (a0 a2 a4 a13 a14 a15 a30 a31 a32 : AV) : Option AV := loopAt Z 153 d153 [1, 1, 1, 0, 1, 0, 0, 1, 1, 0, 0, 1, 1, 1, 1, 0] (look [(0, a0), (2, a2), (4, a4), (13, a13), (14, a14), (15, a15), (30, a30), (31, a31), (32, a32)])
theorem u_lat_Of.f_eq (l1 : List (List AV)) : u_lat_Of (AV.sl 8 l1) = (ifB (decide ((512 : Int) < (List.length l1 : Int))) (some (.tup [AV.agg 1 [AV.sl 8 []], AV.int .i64 1])) (u_lat_Of.l0 (AV.sl 8 l1) (AV.boxv 1 [AV.sl 8 []] [(0, AV.own 8 [])]) (AV.int .i64 1) (AV.sl 8 l1) (AV.int .i64 (List.length l1 : Int)) (AV.int .i64 0))) := (ωκ_run Z 153 _ d153 rfl h153).trans (by kernel_rfl)
theorem u_lat_Of.l0_eq (l1 l2 l3 : List (List AV)) (n4 : Int) (l5 : List (List AV)) (n6 n7 : Int) : u_lat_Of.l0 (AV.sl 8 l1) (AV.boxv 1 [AV.sl 8 l2] [(0, AV.own 8 l3)]) (AV.int .i64 n4) (AV.sl 8 l5) (AV.int .i64 n6) (AV.int .i64 n7) = (ifB (decide ((n7 : Int) < n6)) (idx l5 n7 fun c8 => (u_lat_shaped (AV.agg 8 c8) (AV.int .i64 17)).bind fun r9 => asB r9 fun b10 => ifB (!b10) (some (.tup [AV.agg 1 [AV.sl 8 []], AV.int .i64 1])) ((u_rank_Depth (AV.agg 1 [AV.sl 8 [c8]])).bind fun r11 => asI .i64 r11 fun n12 => getC c8 7 fun a13 => asL 2 a13 fun l14 => u_lat_Of.l1 (AV.sl 8 l1) (AV.boxv 1 [AV.sl 8 l2] [(0, AV.own 8 l3)]) (AV.int .i64 (max (n4 : Int) n12)) (AV.sl 8 l5) (AV.int .i64 n6) (AV.int .i64 n7) (AV.sl 2 l14) (AV.int .i64 (List.length l14 : Int)) (AV.int .i64 0))) (ifB (decide ((16 : Int) < n4)) (some (.tup [AV.agg 1 [AV.sl 8 []], AV.int .i64 22])) ((u_lat_settle (AV.sl 8 l1)).bind fun r15 => asT2 r15 fun a16 a17 => asC 1 a16 fun c18 => asI .i64 a17 fun n19 => some (.tup [AV.agg 1 c18, AV.int .i64 n19])))) := (loopAt_eq _ _ _ _ _).trans (by kernel_rfl)
theorem u_lat_Of.l1_eq (l1 l2 l3 : List (List AV)) (n4 : Int) (l5 : List (List AV)) (n6 n7 : Int) (l8 : List (List AV)) (n9 n10 : Int) : u_lat_Of.l1 (AV.sl 8 l1) (AV.boxv 1 [AV.sl 8 l2] [(0, AV.own 8 l3)]) (AV.int .i64 n4) (AV.sl 8 l5) (AV.int .i64 n6) (AV.int .i64 n7) (AV.sl 2 l8) (AV.int .i64 n9) (AV.int .i64 n10) = (ifB (decide ((n10 : Int) < n9)) (idx l8 n10 fun c11 => getC c11 1 fun a12 => (u_lat_Right (AV.agg 1 [(frz a12)])).bind fun r13 => asB r13 fun b14 => ifB (!b14) (some (.tup [AV.agg 1 [AV.sl 8 []], AV.int .i64 1])) (u_lat_Of.l1 (AV.sl 8 l1) (AV.boxv 1 [AV.sl 8 l2] [(0, AV.own 8 l3)]) (AV.int .i64 n4) (AV.sl 8 l5) (AV.int .i64 n6) (AV.int .i64 n7) (AV.sl 2 l8) (AV.int .i64 n9) (AV.int .i64 (w64 (n10 + 1))))) (u_lat_Of.l0 (AV.sl 8 l1) (AV.boxv 1 [AV.sl 8 l2] [(0, AV.own 8 l3)]) (AV.int .i64 n4) (AV.sl 8 l5) (AV.int .i64 n6) (AV.int .i64 (w64 (n7 + 1))))) := (loopAt_eq _ _ _ _ _).trans (by kernel_rfl)
theorem u_state_good.f_eq (c1 : List AV) : u_state_good (AV.agg 3 c1) = (getC c1 1 fun a2 => (u_fact_One (AV.agg 1 [(frz a2)])).bind fun r3 => asT2 r3 fun a4 a5 => asC 8 a4 fun c6 => asI .i64 a5 fun n7 => getC c1 0 fun a8 => asS a8 fun s9 => (u_name_Right (AV.str s9)).bind fun r10 => asB r10 fun b11 => (ifB b11 (some (decide ((n7 : Int) = 0))) (some false) : Option Bool).bind fun b12 => (ifB b12 (getC c6 0 fun a14 => asI .i64 a14 fun n15 => some (decide ((n15 : Int) = 4))) (some false) : Option Bool).bind fun b13 => (ifB b13 (getC c1 1 fun a17 => (u_fact_Settled (AV.agg 1 [(frz a17)])).bind fun r18 => asB r18 fun b19 => some b19) (some false) : Option Bool).bind fun b16 => (ifB b16 (getC c1 2 fun a21 => asL 1 a21 fun l22 => (u_name_Rising (AV.sl 1 l22)).bind fun r23 => asB r23 fun b24 => some b24) (some false) : Option Bool).bind fun b20 => (ifB b20 (getC c1 2 fun a26 => asL 1 a26 fun l27 => getC c1 0 fun a28 => asS a28 fun s29 => (u_slices_Contains__string (AV.sl 1 l27) (AV.str s29)).bind fun r30 => asB r30 fun b31 => some (!b31)) (some false) : Option Bool).bind fun b25 => some (AV.bool b25)) := (ωκ_run Z 77 _ d77 rfl h77).trans (by kernel_rfl)
noncomputable def u_state_Right.l0 (a0 a8 a9 a10 : AV) : Option AV := loopAt Z 33 d33 [1, 1, 0, 1, 0] (look [(0, a0), (8, a8), (9, a9), (10, a10)])
theorem u_state_Right.f_eq (l1 : List (List AV)) : u_state_Right (AV.sl 3 l1) = (ifB (decide ((256 : Int) < (List.length l1 : Int))) (some (AV.bool false)) (u_state_Right.l0 (AV.sl 3 l1) (AV.sl 3 l1) (AV.int .i64 (List.length l1 : Int)) (AV.int .i64 0))) := (ωκ_run Z 33 _ d33 rfl h33).trans (by kernel_rfl)
theorem u_state_Right.l0_eq (l1 l2 : List (List AV)) (n3 n4 : Int) : u_state_Right.l0 (AV.sl 3 l1) (AV.sl 3 l2) (AV.int .i64 n3) (AV.int .i64 n4) = (ifB (decide ((n4 : Int) < n3)) (idx l2 n4 fun c5 => (u_state_good (AV.agg 3 c5)).bind fun r6 => asB r6 fun b7 => (ifB (!b7) (some true) ((ifB (decide ((0 : Int) < n4)) (getC c5 0 fun a10 => asS a10 fun s11 => idx l1 (w64 (n4 - 1)) fun c12 => getC c12 0 fun a13 => asS a13 fun s14 => some (bytesLt s11 s14 || decide ((s11 : List UInt8) = s14))) (some false) : Option Bool).bind fun b9 => some b9) : Option Bool).bind fun b8 => ifB b8 (some (AV.bool false)) (u_state_Right.l0 (AV.sl 3 l1) (AV.sl 3 l2) (AV.int .i64 n3) (AV.int .i64 (w64 (n4 + 1))))) ((u_state_rings (AV.sl 3 l1)).bind fun r15 => asB r15 fun b16 => some (AV.bool (!b16)))) := (loopAt_eq _ _ _ _ _).trans (by kernel_rfl)
theorem u_show_glue.f_eq (l1 : List (List AV)) : u_show_glue (AV.sl 1 l1) = ((u_strings_Join (AV.sl 1 l1) (AV.str [])).bind fun r2 => asS r2 fun s3 => some (AV.str s3)) := (ωκ_run Z 185 _ d185 rfl h185).trans (by kernel_rfl)
theorem u_show_in.f_eq (c1 : List AV) (n2 : Int) : u_show_in (AV.agg 7 c1) (AV.int .i64 n2) = ((u_show_level (AV.agg 7 c1)).bind fun r3 => asI .i64 r3 fun n4 => ifB (decide ((n4 : Int) < n2)) ((u_show_text (AV.agg 7 c1)).bind fun r5 => asS r5 fun s6 => (u_show_glue (AV.sl 1 ([[AV.str [40]], [AV.str s6], [AV.str [41]]]))).bind fun r7 => asS r7 fun s8 => some (AV.str s8)) ((u_show_text (AV.agg 7 c1)).bind fun r9 => asS r9 fun s10 => some (AV.str s10))) := (ωκ_run Z 236 _ d236 rfl h236).trans (by kernel_rfl)
noncomputable def u_show_fields.l0 (a1 a3 a7 a8 a9 : AV) : Option AV := loopAt Z 187 d187 [1, 1, 0, 1, 0] (look [(1, a1), (3, a3), (7, a7), (8, a8), (9, a9)])
noncomputable def u_show_fields.j1 (a3 : AV) : Option AV := joinAt Z 187 d187 [1, 1, 1] (look [(3, a3)])
theorem u_show_fields.f_eq (c1 : List AV) : u_show_fields (AV.agg 7 c1) = (getC c1 4 fun a2 => asL 8 a2 fun l3 => u_show_fields.l0 (AV.boxv 7 c1 []) (AV.own 1 []) (AV.sl 8 l3) (AV.int .i64 (List.length l3 : Int)) (AV.int .i64 0)) := (ωκ_run Z 187 _ d187 rfl h187).trans (by kernel_rfl)
theorem u_show_fields.l0_eq (c1 : List AV) (l2 l3 : List (List AV)) (n4 n5 : Int) : u_show_fields.l0 (AV.boxv 7 c1 []) (AV.own 1 l2) (AV.sl 8 l3) (AV.int .i64 n4) (AV.int .i64 n5) = (ifB (decide ((n5 : Int) < n4)) (idx l3 n5 fun c6 => getC c6 0 fun a7 => asS a7 fun s8 => getC c6 1 fun a9 => getC c6 2 fun a10 => getC c6 3 fun a11 => getC c6 4 fun a12 => getC c6 5 fun a13 => getC c6 6 fun a14 => getC c6 7 fun a15 => (u_show_text (AV.agg 7 [(frz a9), (frz a10), (frz a11), (frz a12), (frz a13), (frz a14), (frz a15)])).bind fun r16 => asS r16 fun s17 => (u_show_glue (AV.sl 1 ([[AV.str s8], [AV.str [58, 32]], [AV.str s17], [AV.str [59]]]))).bind fun r18 => asS r18 fun s19 => guardK (Nat.ble (List.length l2 + List.length ([[AV.str s19]])) lim) <| u_show_fields.l0 (AV.boxv 7 c1 []) (AV.own 1 (l2 ++ ([[AV.str s19]]))) (AV.sl 8 l3) (AV.int .i64 n4) (AV.int .i64 (w64 (n5 + 1)))) (getC c1 5 fun a20 => asB a20 fun b21 => ifB b21 (guardK (Nat.ble (List.length l2 + List.length ([[AV.str [46, 46, 46]]])) lim) <| u_show_fields.j1 (AV.own 1 (l2 ++ ([[AV.str [46, 46, 46]]])))) (u_show_fields.j1 (AV.own 1 l2)))) := (loopAt_eq _ _ _ _ _).trans (by kernel_rfl)
theorem u_show_fields.j1_eq (l1 : List (List AV)) : u_show_fields.j1 (AV.own 1 l1) = ((u_strings_Join (AV.sl 1 l1) (AV.str [32])).bind fun r2 => asS r2 fun s3 => (u_show_glue (AV.sl 1 ([[AV.str [123]], [AV.str s3], [AV.str [125]]]))).bind fun r4 => asS r4 fun s5 => some (AV.str s5)) := (joinAt_eq _ _ _ _ _).trans (by kernel_rfl)
noncomputable def u_show_kids.l0 (a1 a3 a8 a9 a10 : AV) : Option AV := loopAt Z 188 d188 [1, 1, 0, 1, 0] (look [(1, a1), (3, a3), (8, a8), (9, a9), (10, a10)])
noncomputable def u_show_kids.j1 (a1 a3 a5 a6 a8 a9 a10 : AV) : Option AV := joinAt Z 188 d188 [1, 1, 0, 1, 0, 0, 1, 1, 0, 0, 1, 1] (look [(1, a1), (3, a3), (5, a5), (6, a6), (8, a8), (9, a9), (10, a10)])
theorem u_show_kids.f_eq (c1 : List AV) : u_show_kids (AV.agg 7 c1) = (getC c1 6 fun a2 => asL 7 a2 fun l3 => u_show_kids.l0 (AV.boxv 7 c1 []) (AV.own 1 []) (AV.sl 7 l3) (AV.int .i64 (List.length l3 : Int)) (AV.int .i64 0)) := (ωκ_run Z 188 _ d188 rfl h188).trans (by kernel_rfl)
theorem u_show_kids.l0_eq (c1 : List AV) (l2 l3 : List (List AV)) (n4 n5 : Int) : u_show_kids.l0 (AV.boxv 7 c1 []) (AV.own 1 l2) (AV.sl 7 l3) (AV.int .i64 n4) (AV.int .i64 n5) = (ifB (decide ((n5 : Int) < n4)) (idx l3 n5 fun c6 => (u_show_level (AV.agg 7 c1)).bind fun r7 => asI .i64 r7 fun n8 => (ifB (decide ((n5 : Int) = 0)) (getC c1 0 fun a10 => asI .i64 a10 fun n11 => some (!decide ((n11 : Int) = 12))) (some false) : Option Bool).bind fun b9 => (ifB b9 (getC c1 0 fun a13 => asI .i64 a13 fun n14 => some (!decide ((n14 : Int) = 11))) (some false) : Option Bool).bind fun b12 => ifB b12 (u_show_kids.j1 (AV.boxv 7 c1 []) (AV.own 1 l2) (AV.boxv 7 c6 []) (AV.int .i64 (w64 ((w64 (n8 + 1)) - 1))) (AV.sl 7 l3) (AV.int .i64 n4) (AV.int .i64 n5)) (u_show_kids.j1 (AV.boxv 7 c1 []) (AV.own 1 l2) (AV.boxv 7 c6 []) (AV.int .i64 (w64 (n8 + 1))) (AV.sl 7 l3) (AV.int .i64 n4) (AV.int .i64 n5))) (getC c1 0 fun a15 => asI .i64 a15 fun n16 => idx signsL n16 fun a17 => asS a17 fun s18 => (u_strings_Join (AV.sl 1 l2) (AV.str s18)).bind fun r19 => asS r19 fun s20 => some (AV.str s20))) := (loopAt_eq _ _ _ _ _).trans (by kernel_rfl)
theorem u_show_kids.j1_eq (c1 : List AV) (l2 : List (List AV)) (c3 : List AV) (n4 : Int) (l5 : List (List AV)) (n6 n7 : Int) : u_show_kids.j1 (AV.boxv 7 c1 []) (AV.own 1 l2) (AV.boxv 7 c3 []) (AV.int .i64 n4) (AV.sl 7 l5) (AV.int .i64 n6) (AV.int .i64 n7) = ((u_show_in (AV.agg 7 c3) (AV.int .i64 n4)).bind fun r8 => asS r8 fun s9 => guardK (Nat.ble (List.length l2 + List.length ([[AV.str s9]])) lim) <| u_show_kids.l0 (AV.boxv 7 c1 []) (AV.own 1 (l2 ++ ([[AV.str s9]]))) (AV.sl 7 l5) (AV.int .i64 n6) (AV.int .i64 (w64 (n7 + 1)))) := (joinAt_eq _ _ _ _ _).trans (by kernel_rfl)
theorem u_show_text.f_eq (c1 : List AV) : u_show_text (AV.agg 7 c1) = (getC c1 0 fun a2 => asI .i64 a2 fun n3 => ifB (decide ((n3 : Int) = 1)) (getC c1 1 fun a4 => asI .i64 a4 fun n5 => (u_num_Text (AV.int .i64 n5)).bind fun r6 => asS r6 fun s7 => some (AV.str s7)) (ifB (decide ((n3 : Int) = 2)) (getC c1 2 fun a8 => asS a8 fun s9 => (u_token_Quote (AV.str s9)).bind fun r10 => asS r10 fun s11 => some (AV.str s11)) (ifB (decide ((n3 : Int) = 3)) (getC c1 1 fun a12 => asI .i64 a12 fun n13 => ifB (decide ((n13 : Int) = 1)) (some (AV.str [116, 114, 117, 101])) (some (AV.str [102, 97, 108, 115, 101]))) (ifB (decide ((n3 : Int) = 4)) (getC c1 1 fun a14 => asI .i64 a14 fun n15 => idx kindsL n15 fun a16 => asS a16 fun s17 => some (AV.str s17)) (ifB (decide ((n3 : Int) = 5)) (some (AV.str [110, 111, 110, 101])) (ifB (decide ((n3 : Int) = 6)) (some (AV.str [99, 111, 109, 112, 117, 116, 101, 100])) (ifB (decide ((n3 : Int) = 7)) (getC c1 1 fun a18 => asI .i64 a18 fun n19 => (u_num_Text (AV.int .i64 n19)).bind fun r20 => asS r20 fun s21 => (u_show_glue (AV.sl 1 ([[AV.str [62, 61]], [AV.str s21]]))).bind fun r22 => asS r22 fun s23 => some (AV.str s23)) (ifB (decide ((n3 : Int) = 8)) (getC c1 1 fun a24 => asI .i64 a24 fun n25 => (u_num_Text (AV.int .i64 n25)).bind fun r26 => asS r26 fun s27 => (u_show_glue (AV.sl 1 ([[AV.str [60, 61]], [AV.str s27]]))).bind fun r28 => asS r28 fun s29 => some (AV.str s29)) (ifB (decide ((n3 : Int) = 9)) (getC c1 3 fun a30 => asL 1 a30 fun l31 => (u_name_Text (AV.sl 1 l31)).bind fun r32 => asT2 r32 fun a33 a34 => asS a33 fun s35 => asB a34 fun b36 => some (AV.str s35)) (ifB (decide ((n3 : Int) = 10)) ((u_show_fields (AV.agg 7 c1)).bind fun r37 => asS r37 fun s38 => some (AV.str s38)) ((u_show_kids (AV.agg 7 c1)).bind fun r39 => asS r39 fun s40 => some (AV.str s40)))))))))))) := (ωκ_run Z 141 _ d141 rfl h141).trans (by kernel_rfl)
theorem u_show_Expr.f_eq (c1 : List AV) : u_show_Expr (AV.agg 7 c1) = ((u_expr_Check (AV.agg 7 c1)).bind fun r2 => asI .i64 r2 fun n3 => ifB (!decide ((n3 : Int) = 0)) (some (.tup [AV.str [], AV.int .i64 n3])) ((u_show_text (AV.agg 7 c1)).bind fun r4 => asS r4 fun s5 => some (.tup [AV.str s5, AV.int .i64 0]))) := (ωκ_run Z 106 _ d106 rfl h106).trans (by kernel_rfl)
theorem u_lines_Value.f_eq (c1 : List AV) : u_lines_Value (AV.agg 1 c1) = ((u_lines_Expr (AV.agg 1 c1)).bind fun r2 => asT2 r2 fun a3 a4 => asC 7 a3 fun c5 => asI .i64 a4 fun n6 => ifB (!decide ((n6 : Int) = 0)) (some (.tup [AV.str [], AV.int .i64 n6])) ((u_show_Expr (AV.agg 7 c5)).bind fun r7 => asT2 r7 fun a8 a9 => asS a8 fun s10 => asI .i64 a9 fun n11 => some (.tup [AV.str s10, AV.int .i64 n11]))) := (ωκ_run Z 68 _ d68 rfl h68).trans (by kernel_rfl)
theorem u_lines_thing.f_eq (c1 : List AV) : u_lines_thing (AV.agg 3 c1) = (getC c1 1 fun a2 => (u_lines_Value (AV.agg 1 [(frz a2)])).bind fun r3 => asT2 r3 fun a4 a5 => asS a4 fun s6 => asI .i64 a5 fun n7 => ifB (!decide ((n7 : Int) = 0)) (some (.tup [AV.str [], AV.int .i64 n7])) (getC c1 0 fun a8 => asS a8 fun s9 => getC c1 2 fun a10 => asL 1 a10 fun l11 => guardK (Nat.ble (List.length ([[AV.str s9]]) + List.length l11) lim) <| (u_strings_Join (AV.sl 1 (([[AV.str s9]]) ++ l11)) (AV.str [32])).bind fun r12 => asS r12 fun s13 => guardK (Nat.ble (List.length s13 + List.length [58, 32]) lim) <| guardK (Nat.ble (List.length (s13 ++ [58, 32]) + List.length s6) lim) <| guardK (Nat.ble (List.length ((s13 ++ [58, 32]) ++ s6) + List.length [10]) lim) <| some (.tup [AV.str (((s13 ++ [58, 32]) ++ s6) ++ [10]), AV.int .i64 0]))) := (ωκ_run Z 69 _ d69 rfl h69).trans (by kernel_rfl)
noncomputable def u_lines_State.l0 (a4 a12 a13 a14 : AV) : Option AV := loopAt Z 24 d24 [1, 1, 1, 0, 1, 0] (look [(4, a4), (12, a12), (13, a13), (14, a14)])
theorem u_lines_State.f_eq (l1 : List (List AV)) : u_lines_State (AV.sl 3 l1) = ((u_state_Right (AV.sl 3 l1)).bind fun r2 => asB r2 fun b3 => ifB (!b3) (some (.tup [AV.str [], AV.int .i64 1])) (u_lines_State.l0 (AV.str []) (AV.sl 3 l1) (AV.int .i64 (List.length l1 : Int)) (AV.int .i64 0))) := (ωκ_run Z 24 _ d24 rfl h24).trans (by kernel_rfl)
theorem u_lines_State.l0_eq (s1 : List UInt8) (l2 : List (List AV)) (n3 n4 : Int) : u_lines_State.l0 (AV.str s1) (AV.sl 3 l2) (AV.int .i64 n3) (AV.int .i64 n4) = (ifB (decide ((n4 : Int) < n3)) (idx l2 n4 fun c5 => (u_lines_thing (AV.agg 3 c5)).bind fun r6 => asT2 r6 fun a7 a8 => asS a7 fun s9 => asI .i64 a8 fun n10 => ifB (!decide ((n10 : Int) = 0)) (some (.tup [AV.str [], AV.int .i64 n10])) (guardK (Nat.ble (List.length s1 + List.length s9) lim) <| u_lines_State.l0 (AV.str (s1 ++ s9)) (AV.sl 3 l2) (AV.int .i64 n3) (AV.int .i64 (w64 (n4 + 1))))) (some (.tup [AV.str s1, AV.int .i64 0]))) := (loopAt_eq _ _ _ _ _).trans (by kernel_rfl)
noncomputable def u_lines_action.j0 (a1 a4 : AV) : Option AV := joinAt Z 71 d71 [1, 1, 1] (look [(1, a1), (4, a4)])
theorem u_lines_action.f_eq (c1 : List AV) : u_lines_action (AV.agg 4 c1) = (getC c1 1 fun a2 => asS a2 fun s3 => (u_name_Right (AV.str s3)).bind fun r4 => asB r4 fun b5 => (ifB (!b5) (some true) (getC c1 3 fun a7 => asL 1 a7 fun l8 => (u_name_Rising (AV.sl 1 l8)).bind fun r9 => asB r9 fun b10 => some (!b10)) : Option Bool).bind fun b6 => ifB b6 (some (.tup [AV.str [], AV.int .i64 1])) (getC c1 0 fun a11 => asI .i64 a11 fun n12 => ifB (decide ((n12 : Int) = 1)) (getC c1 1 fun a13 => asS a13 fun s14 => guardK (Nat.ble (List.length [100, 101, 108, 101, 116, 101, 32] + List.length s14) lim) <| guardK (Nat.ble (List.length ([100, 101, 108, 101, 116, 101, 32] ++ s14) + List.length [10]) lim) <| some (.tup [AV.str (([100, 101, 108, 101, 116, 101, 32] ++ s14) ++ [10]), AV.int .i64 0])) (ifB (decide ((n12 : Int) = 3)) (u_lines_action.j0 (AV.boxv 4 c1 []) (AV.str [117, 112, 100, 97, 116, 101, 32])) (ifB (decide ((n12 : Int) = 2)) (u_lines_action.j0 (AV.boxv 4 c1 []) (AV.str [99, 114, 101, 97, 116, 101, 32])) (some (.tup [AV.str [], AV.int .i64 1])))))) := (ωκ_run Z 71 _ d71 rfl h71).trans (by kernel_rfl)
theorem u_lines_action.j0_eq (c1 : List AV) (s2 : List UInt8) : u_lines_action.j0 (AV.boxv 4 c1 []) (AV.str s2) = (getC c1 1 fun a3 => getC c1 2 fun a4 => getC c1 3 fun a5 => (u_lines_thing (AV.agg 3 [(frz a3), (frz a4), (frz a5)])).bind fun r6 => asT2 r6 fun a7 a8 => asS a7 fun s9 => asI .i64 a8 fun n10 => ifB (!decide ((n10 : Int) = 0)) (some (.tup [AV.str [], AV.int .i64 n10])) (guardK (Nat.ble (List.length s2 + List.length s9) lim) <| some (.tup [AV.str (s2 ++ s9), AV.int .i64 0]))) := (joinAt_eq _ _ _ _ _).trans (by kernel_rfl)
noncomputable def u_lines_Plan.l0 (a4 a9 a10 a11 : AV) : Option AV := loopAt Z 26 d26 [1, 1, 0, 1, 0] (look [(4, a4), (9, a9), (10, a10), (11, a11)])
theorem u_lines_Plan.f_eq (l1 : List (List AV)) : u_lines_Plan (AV.sl 4 l1) = (u_lines_Plan.l0 (AV.str []) (AV.sl 4 l1) (AV.int .i64 (List.length l1 : Int)) (AV.int .i64 0)) := (ωκ_run Z 26 _ d26 rfl h26).trans (by kernel_rfl)
theorem u_lines_Plan.l0_eq (s1 : List UInt8) (l2 : List (List AV)) (n3 n4 : Int) : u_lines_Plan.l0 (AV.str s1) (AV.sl 4 l2) (AV.int .i64 n3) (AV.int .i64 n4) = (ifB (decide ((n4 : Int) < n3)) (idx l2 n4 fun c5 => (u_lines_action (AV.agg 4 c5)).bind fun r6 => asT2 r6 fun a7 a8 => asS a7 fun s9 => asI .i64 a8 fun n10 => ifB (!decide ((n10 : Int) = 0)) (some (.tup [AV.str [], AV.int .i64 n10])) (guardK (Nat.ble (List.length s1 + List.length s9) lim) <| u_lines_Plan.l0 (AV.str (s1 ++ s9)) (AV.sl 4 l2) (AV.int .i64 n3) (AV.int .i64 (w64 (n4 + 1))))) (some (.tup [AV.str s1, AV.int .i64 0]))) := (loopAt_eq _ _ _ _ _).trans (by kernel_rfl)
theorem u_law36_awake.f_eq  : u_law36_awake = ((u_lines_Value (AV.agg 1 [AV.sl 8 ([[AV.int .i64 2, AV.int .i64 1, AV.int .i64 9, AV.str [], AV.bool false, AV.bool true, AV.bool false, AV.sl 2 []]])])).bind fun r1 => asT2 r1 fun a2 a3 => asS a2 fun s4 => asI .i64 a3 fun n5 => (u_lines_State (AV.sl 3 ([[AV.str [119, 101, 98], AV.sl 8 ([[AV.int .i64 4, AV.int .i64 0, AV.int .i64 0, AV.str [], AV.bool false, AV.bool false, AV.bool false, AV.sl 2 ([[AV.str [110], AV.sl 8 ([[AV.int .i64 2, AV.int .i64 4, AV.int .i64 4, AV.str [], AV.bool false, AV.bool false, AV.bool false, AV.sl 2 []]])]])]]), AV.sl 1 ([[AV.str [110, 101, 116]]])]]))).bind fun r6 => asT2 r6 fun a7 a8 => asS a7 fun s9 => asI .i64 a8 fun n10 => (ifB (decide ((s4 : List UInt8) = [99, 111, 109, 112, 117, 116, 101, 100, 32, 38, 32, 62, 61, 49, 32, 38, 32, 60, 61, 57])) (some (decide ((n5 : Int) = 0))) (some false) : Option Bool).bind fun b11 => (ifB b11 (some (decide ((s9 : List UInt8) = [119, 101, 98, 32, 110, 101, 116, 58, 32, 123, 110, 58, 32, 52, 59, 125, 10]))) (some false) : Option Bool).bind fun b12 => (ifB b12 (some (decide ((n10 : Int) = 0))) (some false) : Option Bool).bind fun b13 => some (AV.bool b13)) := (ωκ_run Z 23 _ d23 rfl h23).trans (by kernel_rfl)
theorem u_law36_LinesTexts.f_eq (l1 l2 : List (List AV)) : u_law36_LinesTexts (AV.sl 3 l1) (AV.sl 4 l2) = ((u_law30_Few (AV.sl 3 l1)).bind fun r3 => asB r3 fun b4 => (ifB (!b4) (some true) ((u_law33_Few (AV.sl 4 l2)).bind fun r6 => asB r6 fun b7 => some (!b7)) : Option Bool).bind fun b5 => ifB b5 (u_law36_awake.bind fun r8 => asB r8 fun b9 => some (AV.bool b9)) ((u_lines_State (AV.sl 3 l1)).bind fun r10 => asT2 r10 fun a11 a12 => asS a11 fun s13 => asI .i64 a12 fun n14 => (u_ref36_State (AV.sl 3 l1)).bind fun r15 => asT2 r15 fun a16 a17 => asS a16 fun s18 => asI .i64 a17 fun n19 => (u_lines_Plan (AV.sl 4 l2)).bind fun r20 => asT2 r20 fun a21 a22 => asS a21 fun s23 => asI .i64 a22 fun n24 => (u_ref36_Plan (AV.sl 4 l2)).bind fun r25 => asT2 r25 fun a26 a27 => asS a26 fun s28 => asI .i64 a27 fun n29 => u_law36_awake.bind fun r30 => asB r30 fun b31 => (ifB b31 (some (decide ((s13 : List UInt8) = s18))) (some false) : Option Bool).bind fun b32 => (ifB b32 (some (decide ((n14 : Int) = n19))) (some false) : Option Bool).bind fun b33 => (ifB b33 (some (decide ((s23 : List UInt8) = s28))) (some false) : Option Bool).bind fun b34 => (ifB b34 (some (decide ((n24 : Int) = n29))) (some false) : Option Bool).bind fun b35 => some (AV.bool b35))) := (ωκ_run Z 6 _ d6 rfl h6).trans (by kernel_rfl)
end Go.Proofs.YtmdimhcjogjcgaaGreatDoor.Abs
