/- What the code comes to, function by function (printed by gen.py). -/
import Derived.Test.YtffojfcinkihnaaDoorAbsT
set_option linter.unusedVariables false
set_option linter.unusedSimpArgs false
set_option linter.unusedSectionVars false
set_option linter.deprecated false
set_option linter.unnecessarySimpa false
namespace Go.Proofs.YtffojfcinkihnaaDoor.Abs
set_option linter.unusedVariables false
set_option maxRecDepth 100000

/-! treillage/treillagelaw35.ApplyFills: function 3 -/
noncomputable def d3 : FD := ⟨(Tryd.f3.body).getD .skip, Tryd.f3.results.toList, 58⟩
theorem run3 (l : List AV) : ωκ S 3 l = runM τ (fun _ => none) (ωκ S) [4] lpκ d3.code (look (argEnv 0 l)) (retV τ d3.rs) :=
  ωκ_run S 3 l d3 rfl (by show (Tryd.prog.funcs[3]?).bind toFD = _; rw [Tryd.func3]; rfl)
theorem law35_ApplyFills.f_eq (c1 : List AV) (l2 : List (List AV)) : law35_ApplyFills (AV.agg 1 c1) (AV.sl 1 l2) = ((law09_Few (AV.agg 1 c1)).bind fun r3 => asB r3 fun b4 => (ifB (!b4) (some true) (some (decide ((60 : Int) < (List.length l2 : Int)))) : Option Bool).bind fun b5 => ifB b5 (law35_awake.bind fun r6 => asB r6 fun b7 => some (AV.bool b7)) ((apply_Fill (AV.agg 1 c1) (AV.sl 1 l2)).bind fun r8 => asT3 r8 fun a9 a10 a11 => asC 1 a9 fun c12 => asI .i64 a10 fun n13 => asI .i64 a11 fun n14 => (ref35_Fill (AV.agg 1 c1) (AV.sl 1 l2)).bind fun r15 => asT3 r15 fun a16 a17 a18 => asC 1 a16 fun c19 => asI .i64 a17 fun n20 => asI .i64 a18 fun n21 => (ref08_Same (AV.agg 1 c12) (AV.agg 1 c19)).bind fun r22 => asB r22 fun b23 => (ifB (!b23) (some true) (some (!decide ((n13 : Int) = n20))) : Option Bool).bind fun b24 => (ifB b24 (some true) (some (!decide ((n14 : Int) = n21))) : Option Bool).bind fun b25 => ifB b25 (some (AV.bool false)) (law35_awake.bind fun r26 => asB r26 fun b27 => (ifB b27 ((ifB (!decide ((n14 : Int) = 0)) (some true) ((ref11_Refines (AV.agg 1 c12) (AV.agg 1 c1)).bind fun r30 => asB r30 fun b31 => some b31) : Option Bool).bind fun b29 => some b29) (some false) : Option Bool).bind fun b28 => some (AV.bool b28)))) :=
  (run3 _).trans (by kernel_rfl)

/-! treillage/treillagelaw09.Few: function 4 -/
noncomputable def d4 : FD := ⟨(Tryd.f4.body).getD .skip, Tryd.f4.results.toList, 10⟩
theorem run4 (l : List AV) : ωκ S 4 l = runM τ (fun _ => none) (ωκ S) [2] lpκ d4.code (look (argEnv 0 l)) (retV τ d4.rs) :=
  ωκ_run S 4 l d4 rfl (by show (Tryd.prog.funcs[4]?).bind toFD = _; rw [Tryd.func4]; rfl)
theorem law09_Few.f_eq (c1 : List AV) : law09_Few (AV.agg 1 c1) = ((law08_Few (AV.agg 1 c1)).bind fun r2 => asB r2 fun b3 => (ifB b3 ((ref08_Weight (AV.agg 1 c1)).bind fun r5 => asI .i64 r5 fun n6 => some (decide ((n6 : Int) ≤ 40))) (some false) : Option Bool).bind fun b4 => some (AV.bool b4)) :=
  (run4 _).trans (by kernel_rfl)

/-! treillage/treillagelaw35.awake: function 5 -/
noncomputable def d5 : FD := ⟨(Tryd.f5.body).getD .skip, Tryd.f5.results.toList, 56⟩
theorem run5 (l : List AV) : ωκ S 5 l = runM τ (fun _ => none) (ωκ S) [0] lpκ d5.code (look (argEnv 0 l)) (retV τ d5.rs) :=
  ωκ_run S 5 l d5 rfl (by show (Tryd.prog.funcs[5]?).bind toFD = _; rw [Tryd.func5]; rfl)
theorem law35_awake.f_eq  : law35_awake = ((apply_Fill (AV.agg 1 [AV.sl 8 ([[AV.int .i64 4, AV.int .i64 0, AV.int .i64 0, AV.str [], AV.bool false, AV.bool false, AV.bool false, AV.sl 2 ([[AV.str [105, 100], AV.sl 8 ([[AV.int .i64 3, AV.int .i64 0, AV.int .i64 0, AV.str [], AV.bool true, AV.bool true, AV.bool false, AV.sl 2 []]])]])]])]) (AV.sl 1 ([[AV.int .i64 7]]))).bind fun r1 => asT3 r1 fun a2 a3 a4 => asC 1 a2 fun c5 => asI .i64 a3 fun n6 => asI .i64 a4 fun n7 => (ifB (decide ((n7 : Int) = 0)) (some (decide ((n6 : Int) = 1))) (some false) : Option Bool).bind fun b8 => (ifB b8 (getC c5 0 fun a10 => asL 8 a10 fun l11 => some (decide (((List.length l11 : Int) : Int) = 1))) (some false) : Option Bool).bind fun b9 => (ifB b9 (getC c5 0 fun a13 => asL 8 a13 fun l14 => idx l14 0 fun c15 => getC c15 7 fun a16 => asL 2 a16 fun l17 => some (decide (((List.length l17 : Int) : Int) = 1))) (some false) : Option Bool).bind fun b12 => (ifB b12 (getC c5 0 fun a19 => asL 8 a19 fun l20 => idx l20 0 fun c21 => getC c21 7 fun a22 => asL 2 a22 fun l23 => idx l23 0 fun c24 => getC c24 1 fun a25 => asL 8 a25 fun l26 => idx l26 0 fun c27 => getC c27 3 fun a28 => asS a28 fun s29 => some (decide ((s29 : List UInt8) = [116, 55]))) (some false) : Option Bool).bind fun b18 => some (AV.bool b18)) :=
  (run5 _).trans (by kernel_rfl)

/-! treillage/treillageref35.Fill: function 7 -/
noncomputable def d7 : FD := ⟨(Tryd.f7.body).getD .skip, Tryd.f7.results.toList, 21⟩
theorem run7 (l : List AV) : ωκ S 7 l = runM τ (fun _ => none) (ωκ S) [5, 6] lpκ d7.code (look (argEnv 0 l)) (retV τ d7.rs) :=
  ωκ_run S 7 l d7 rfl (by show (Tryd.prog.funcs[7]?).bind toFD = _; rw [Tryd.func7]; rfl)
theorem ref35_Fill.f_eq (c1 : List AV) (l2 : List (List AV)) : ref35_Fill (AV.agg 1 c1) (AV.sl 1 l2) = ((ref11_Ready (AV.agg 1 c1)).bind fun r3 => asB r3 fun b4 => ifB (!b4) (some (.tup [AV.agg 1 [AV.sl 8 []], AV.int .i64 0, AV.int .i64 1])) ((ref35_fill (AV.agg 1 c1) (AV.sl 1 l2) (AV.int .i64 0)).bind fun r5 => asT2 r5 fun a6 a7 => asC 1 a6 fun c8 => asI .i64 a7 fun n9 => some (.tup [AV.agg 1 c8, AV.int .i64 n9, AV.int .i64 0]))) :=
  (run7 _).trans (by kernel_rfl)

/-! treillage/treillageref08.Same: function 8 -/
noncomputable def d8 : FD := ⟨(Tryd.f8.body).getD .skip, Tryd.f8.results.toList, 9⟩
theorem run8 (l : List AV) : ωκ S 8 l = runM τ (fun _ => none) (ωκ S) [4] lpκ d8.code (look (argEnv 0 l)) (retV τ d8.rs) :=
  ωκ_run S 8 l d8 rfl (by show (Tryd.prog.funcs[8]?).bind toFD = _; rw [Tryd.func8]; rfl)
theorem ref08_Same.f_eq (c1 : List AV) (c2 : List AV) : ref08_Same (AV.agg 1 c1) (AV.agg 1 c2) = ((ref08_Compare (AV.agg 1 c1) (AV.agg 1 c2)).bind fun r3 => asI .i64 r3 fun n4 => some (AV.bool (decide ((n4 : Int) = 0)))) :=
  (run8 _).trans (by kernel_rfl)

/-! treillage/treillageref11.Refines: function 9 -/
noncomputable def d9 : FD := ⟨(Tryd.f9.body).getD .skip, Tryd.f9.results.toList, 16⟩
theorem run9 (l : List AV) : ωκ S 9 l = runM τ (fun _ => none) (ωκ S) [4] lpκ d9.code (look (argEnv 0 l)) (retV τ d9.rs) :=
  ωκ_run S 9 l d9 rfl (by show (Tryd.prog.funcs[9]?).bind toFD = _; rw [Tryd.func9]; rfl)
theorem ref11_Refines.f_eq (c1 : List AV) (c2 : List AV) : ref11_Refines (AV.agg 1 c1) (AV.agg 1 c2) = ((ref11_Settled (AV.agg 1 c1)).bind fun r3 => asB r3 fun b4 => (ifB b4 ((ref09_Right (AV.agg 1 c2)).bind fun r6 => asB r6 fun b7 => some b7) (some false) : Option Bool).bind fun b5 => (ifB b5 ((ref09_Under (AV.agg 1 c1) (AV.agg 1 c2)).bind fun r9 => asB r9 fun b10 => some b10) (some false) : Option Bool).bind fun b8 => some (AV.bool b8)) :=
  (run9 _).trans (by kernel_rfl)

/-! treillage/treillagelaw08.Few: function 10 -/
noncomputable def d10 : FD := ⟨(Tryd.f10.body).getD .skip, Tryd.f10.results.toList, 6⟩
theorem run10 (l : List AV) : ωκ S 10 l = runM τ (fun _ => none) (ωκ S) [2] lpκ d10.code (look (argEnv 0 l)) (retV τ d10.rs) :=
  ωκ_run S 10 l d10 rfl (by show (Tryd.prog.funcs[10]?).bind toFD = _; rw [Tryd.func10]; rfl)
theorem law08_Few.f_eq (c1 : List AV) : law08_Few (AV.agg 1 c1) = ((law08_left (AV.agg 1 c1) (AV.int .i64 20) (AV.int .i64 200)).bind fun r2 => asI .i64 r2 fun n3 => some (AV.bool (decide ((0 : Int) ≤ n3)))) :=
  (run10 _).trans (by kernel_rfl)

/-! treillage/treillageref08.Weight: function 11 -/
noncomputable def d11 : FD := ⟨(Tryd.f11.body).getD .skip, Tryd.f11.results.toList, 37⟩
theorem run11 (l : List AV) : ωκ S 11 l = runM τ ann11 (ωκ S) [2] lpκ d11.code (look (argEnv 0 l)) (retV τ d11.rs) :=
  ωκ_run S 11 l d11 rfl (by show (Tryd.prog.funcs[11]?).bind toFD = _; rw [Tryd.func11]; rfl)
noncomputable def ref08_Weight.l0 (a1 a3 a4 : AV) : Option AV := loopAt S 11 d11 [1, 1, 0, 1, 0] (look [(1, a1), (3, a3), (4, a4)])
noncomputable def ref08_Weight.l1 (a1 a3 a4 a5 a6 : AV) : Option AV := loopAt S 11 d11 [1, 1, 0, 1, 0, 0, 1, 0, 0, 1, 1, 1, 0] (look [(1, a1), (3, a3), (4, a4), (5, a5), (6, a6)])
theorem ref08_Weight.f_eq (c1 : List AV) : ref08_Weight (AV.agg 1 c1) = (ref08_Weight.l0 (AV.boxv 1 c1 []) (AV.int .i64 0) (AV.int .i64 0)) :=
  (run11 _).trans (by kernel_rfl)
theorem ref08_Weight.l0_eq (c1 : List AV) (n2 : Int) (n3 : Int) : ref08_Weight.l0 (AV.boxv 1 c1 []) (AV.int .i64 n2) (AV.int .i64 n3) = (getC c1 0 fun a4 => asL 8 a4 fun l5 => ifB (decide ((n3 : Int) < (List.length l5 : Int))) (getC c1 0 fun a6 => asL 8 a6 fun l7 => idx l7 n3 fun c8 => getC c8 7 fun a9 => asL 2 a9 fun l10 => ref08_Weight.l1 (AV.boxv 1 c1 []) (AV.int .i64 (w64 (n2 + 1))) (AV.int .i64 n3) (AV.sl 2 l10) (AV.int .i64 0)) (some (AV.int .i64 n2))) :=
  (loopAt_eq S 11 d11 [1, 1, 0, 1, 0] _).trans (by kernel_rfl)
theorem ref08_Weight.l1_eq (c1 : List AV) (n2 : Int) (n3 : Int) (l4 : List (List AV)) (n5 : Int) : ref08_Weight.l1 (AV.boxv 1 c1 []) (AV.int .i64 n2) (AV.int .i64 n3) (AV.sl 2 l4) (AV.int .i64 n5) = (ifB (decide ((n5 : Int) < (List.length l4 : Int))) (idx l4 n5 fun c6 => getC c6 1 fun a7 => (ref08_Weight (AV.agg 1 [a7])).bind fun r8 => asI .i64 r8 fun n9 => ref08_Weight.l1 (AV.boxv 1 c1 []) (AV.int .i64 (w64 (n2 + n9))) (AV.int .i64 n3) (AV.sl 2 l4) (AV.int .i64 (w64 (n5 + 1)))) (ref08_Weight.l0 (AV.boxv 1 c1 []) (AV.int .i64 n2) (AV.int .i64 (w64 (n3 + 1))))) :=
  (loopAt_eq S 11 d11 [1, 1, 0, 1, 0, 0, 1, 0, 0, 1, 1, 1, 0] _).trans (by kernel_rfl)

/-! treillage/fact.Ready: function 12 -/
noncomputable def d12 : FD := ⟨(Tryd.f12.body).getD .skip, Tryd.f12.results.toList, 9⟩
theorem run12 (l : List AV) : ωκ S 12 l = runM τ (fun _ => none) (ωκ S) [2] lpκ d12.code (look (argEnv 0 l)) (retV τ d12.rs) :=
  ωκ_run S 12 l d12 rfl (by show (Tryd.prog.funcs[12]?).bind toFD = _; rw [Tryd.func12]; rfl)
theorem fact_Ready.f_eq (c1 : List AV) : fact_Ready (AV.agg 1 c1) = ((lat_Right (AV.agg 1 c1)).bind fun r2 => asB r2 fun b3 => (ifB b3 ((fact_all (AV.agg 1 c1) (AV.fn 25 [])).bind fun r5 => asB r5 fun b6 => some b6) (some false) : Option Bool).bind fun b4 => some (AV.bool b4)) :=
  (run12 _).trans (by kernel_rfl)

/-! treillage/apply.Fill$1: function 15 -/
noncomputable def d15 : FD := ⟨(Tryd.f15.body).getD .skip, Tryd.f15.results.toList, 14⟩
theorem run15 (l : List AV) : ωκ S 15 l = runM τ (fun _ => none) (ωκ S) [2] lpκ d15.code (look (argEnv 0 l)) (retV τ d15.rs) :=
  ωκ_run S 15 l d15 rfl (by show (Tryd.prog.funcs[15]?).bind toFD = _; rw [Tryd.func15]; rfl)

/-! treillage/treillageref11.Ready: function 16 -/
noncomputable def d16 : FD := ⟨(Tryd.f16.body).getD .skip, Tryd.f16.results.toList, 9⟩
theorem run16 (l : List AV) : ωκ S 16 l = runM τ (fun _ => none) (ωκ S) [2] lpκ d16.code (look (argEnv 0 l)) (retV τ d16.rs) :=
  ωκ_run S 16 l d16 rfl (by show (Tryd.prog.funcs[16]?).bind toFD = _; rw [Tryd.func16]; rfl)
theorem ref11_Ready.f_eq (c1 : List AV) : ref11_Ready (AV.agg 1 c1) = ((ref09_Right (AV.agg 1 c1)).bind fun r2 => asB r2 fun b3 => (ifB b3 ((ref11_settled (AV.agg 1 c1) (AV.bool true)).bind fun r5 => asB r5 fun b6 => some b6) (some false) : Option Bool).bind fun b4 => some (AV.bool b4)) :=
  (run16 _).trans (by kernel_rfl)

/-! treillage/treillageref35.fill: function 17 -/
noncomputable def d17 : FD := ⟨(Tryd.f17.body).getD .skip, Tryd.f17.results.toList, 84⟩
theorem run17 (l : List AV) : ωκ S 17 l = runM τ ann17 (ωκ S) [7] lpκ d17.code (look (argEnv 0 l)) (retV τ d17.rs) :=
  ωκ_run S 17 l d17 rfl (by show (Tryd.prog.funcs[17]?).bind toFD = _; rw [Tryd.func17]; rfl)
noncomputable def ref35_fill.l0 (a1 a2 a3 a6 a8 a9 : AV) : Option AV := loopAt S 17 d17 [1, 1, 0, 1, 0] (look [(1, a1), (2, a2), (3, a3), (6, a6), (8, a8), (9, a9)])
noncomputable def ref35_fill.j1 (a1 a2 a3 a6 a8 a9 a10 a11 : AV) : Option AV := joinAt S 17 d17 [1, 1, 0, 1, 0, 0, 1, 0, 0, 1, 0, 1, 0, 1] (look [(1, a1), (2, a2), (3, a3), (6, a6), (8, a8), (9, a9), (10, a10), (11, a11)])
noncomputable def ref35_fill.j2 (a1 a2 a3 a6 a8 a9 a10 : AV) : Option AV := joinAt S 17 d17 [1, 1, 0, 1, 0, 0, 1, 0, 0, 1] (look [(1, a1), (2, a2), (3, a3), (6, a6), (8, a8), (9, a9), (10, a10)])
noncomputable def ref35_fill.l3 (a1 a2 a3 a6 a8 a9 a10 a12 a13 : AV) : Option AV := loopAt S 17 d17 [1, 1, 0, 1, 0, 0, 1, 0, 0, 1, 1, 1, 0, 1, 0] (look [(1, a1), (2, a2), (3, a3), (6, a6), (8, a8), (9, a9), (10, a10), (12, a12), (13, a13)])
theorem ref35_fill.f_eq (c1 : List AV) (l2 : List (List AV)) (n3 : Int) : ref35_fill (AV.agg 1 c1) (AV.sl 1 l2) (AV.int .i64 n3) = (ref35_fill.l0 (AV.sl 1 l2) (AV.int .i64 n3) (AV.boxv 1 c1 []) (AV.boxv 1 [AV.sl 8 []] [(0, AV.own 8 [])]) (AV.boxv 1 [AV.sl 8 []] [(0, AV.own 8 [])]) (AV.int .i64 0)) :=
  (run17 _).trans (by kernel_rfl)
theorem ref35_fill.l0_eq (l1 : List (List AV)) (n2 : Int) (c3 : List AV) (l4 : List (List AV)) (l5 : List (List AV)) (l6 : List (List AV)) (l7 : List (List AV)) (n8 : Int) : ref35_fill.l0 (AV.sl 1 l1) (AV.int .i64 n2) (AV.boxv 1 c3 []) (AV.boxv 1 [AV.sl 8 l4] [(0, AV.own 8 l5)]) (AV.boxv 1 [AV.sl 8 l6] [(0, AV.own 8 l7)]) (AV.int .i64 n8) = (getC c3 0 fun a9 => asL 8 a9 fun l10 => ifB (decide ((n8 : Int) < (List.length l10 : Int))) (getC c3 0 fun a11 => asL 8 a11 fun l12 => idx l12 n8 fun c13 => getC c13 5 fun a14 => asB a14 fun b15 => ifB b15 (ifB (decide ((n2 : Int) < (List.length l1 : Int))) (idx l1 n2 fun c16 => getC c16 0 fun a17 => asI .i64 a17 fun n18 => ref35_fill.j1 (AV.sl 1 l1) (AV.int .i64 (w64 (n2 + 1))) (AV.boxv 1 c3 []) (AV.boxv 1 [AV.sl 8 l4] [(0, AV.own 8 l5)]) (AV.boxv 1 [AV.sl 8 l6] [(0, AV.own 8 l7)]) (AV.int .i64 n8) (AV.boxv 8 c13 []) (AV.int .i64 n18)) (ref35_fill.j1 (AV.sl 1 l1) (AV.int .i64 n2) (AV.boxv 1 c3 []) (AV.boxv 1 [AV.sl 8 l4] [(0, AV.own 8 l5)]) (AV.boxv 1 [AV.sl 8 l6] [(0, AV.own 8 l7)]) (AV.int .i64 n8) (AV.boxv 8 c13 []) (AV.int .i64 0))) (ref35_fill.j2 (AV.sl 1 l1) (AV.int .i64 n2) (AV.boxv 1 c3 []) (AV.boxv 1 [AV.sl 8 l4] [(0, AV.own 8 l5)]) (AV.boxv 1 [AV.sl 8 l6] [(0, AV.own 8 l7)]) (AV.int .i64 n8) (AV.boxv 8 c13 []))) (some (.tup [AV.agg 1 [AV.sl 8 l7], AV.int .i64 n2]))) :=
  (loopAt_eq S 17 d17 [1, 1, 0, 1, 0] _).trans (by kernel_rfl)
theorem ref35_fill.j1_eq (l1 : List (List AV)) (n2 : Int) (c3 : List AV) (l4 : List (List AV)) (l5 : List (List AV)) (l6 : List (List AV)) (l7 : List (List AV)) (n8 : Int) (c9 : List AV) (n10 : Int) : ref35_fill.j1 (AV.sl 1 l1) (AV.int .i64 n2) (AV.boxv 1 c3 []) (AV.boxv 1 [AV.sl 8 l4] [(0, AV.own 8 l5)]) (AV.boxv 1 [AV.sl 8 l6] [(0, AV.own 8 l7)]) (AV.int .i64 n8) (AV.boxv 8 c9 []) (AV.int .i64 n10) = ((ref35_atom (AV.agg 8 c9) (AV.int .i64 n10)).bind fun r11 => asC 8 r11 fun c12 => ref35_fill.j2 (AV.sl 1 l1) (AV.int .i64 n2) (AV.boxv 1 c3 []) (AV.boxv 1 [AV.sl 8 l4] [(0, AV.own 8 l5)]) (AV.boxv 1 [AV.sl 8 l6] [(0, AV.own 8 l7)]) (AV.int .i64 n8) (AV.boxv 8 c12 [])) :=
  (joinAt_eq S 17 d17 [1, 1, 0, 1, 0, 0, 1, 0, 0, 1, 0, 1, 0, 1] _).trans (by kernel_rfl)
theorem ref35_fill.j2_eq (l1 : List (List AV)) (n2 : Int) (c3 : List AV) (l4 : List (List AV)) (l5 : List (List AV)) (l6 : List (List AV)) (l7 : List (List AV)) (n8 : Int) (c9 : List AV) : ref35_fill.j2 (AV.sl 1 l1) (AV.int .i64 n2) (AV.boxv 1 c3 []) (AV.boxv 1 [AV.sl 8 l4] [(0, AV.own 8 l5)]) (AV.boxv 1 [AV.sl 8 l6] [(0, AV.own 8 l7)]) (AV.int .i64 n8) (AV.boxv 8 c9 []) = (ref35_fill.l3 (AV.sl 1 l1) (AV.int .i64 n2) (AV.boxv 1 c3 []) (AV.boxv 1 [AV.sl 8 l4] [(0, AV.own 8 l5)]) (AV.boxv 1 [AV.sl 8 l6] [(0, AV.own 8 l7)]) (AV.int .i64 n8) (AV.boxv 8 c9 []) (AV.own 2 []) (AV.int .i64 0)) :=
  (joinAt_eq S 17 d17 [1, 1, 0, 1, 0, 0, 1, 0, 0, 1] _).trans (by kernel_rfl)
theorem ref35_fill.l3_eq (l1 : List (List AV)) (n2 : Int) (c3 : List AV) (l4 : List (List AV)) (l5 : List (List AV)) (l6 : List (List AV)) (l7 : List (List AV)) (n8 : Int) (c9 : List AV) (l10 : List (List AV)) (n11 : Int) : ref35_fill.l3 (AV.sl 1 l1) (AV.int .i64 n2) (AV.boxv 1 c3 []) (AV.boxv 1 [AV.sl 8 l4] [(0, AV.own 8 l5)]) (AV.boxv 1 [AV.sl 8 l6] [(0, AV.own 8 l7)]) (AV.int .i64 n8) (AV.boxv 8 c9 []) (AV.own 2 l10) (AV.int .i64 n11) = (getC c9 7 fun a12 => asL 2 a12 fun l13 => ifB (decide ((n11 : Int) < (List.length l13 : Int))) (getC c9 7 fun a14 => asL 2 a14 fun l15 => idx l15 n11 fun c16 => getC c16 1 fun a17 => (ref35_fill (AV.agg 1 [a17]) (AV.sl 1 l1) (AV.int .i64 n2)).bind fun r18 => asT2 r18 fun a19 a20 => asC 1 a19 fun c21 => asI .i64 a20 fun n22 => getC c9 7 fun a23 => asL 2 a23 fun l24 => idx l24 n11 fun c25 => getC c25 0 fun a26 => asS a26 fun s27 => guardK (Nat.ble (List.length l10 + List.length ([(splice [AV.str s27, AV.sl 8 []] 1 c21)])) lim) <| ref35_fill.l3 (AV.sl 1 l1) (AV.int .i64 n22) (AV.boxv 1 c3 []) (AV.boxv 1 [AV.sl 8 l4] [(0, AV.own 8 l5)]) (AV.boxv 1 [AV.sl 8 l6] [(0, AV.own 8 l7)]) (AV.int .i64 n8) (AV.boxv 8 c9 []) (AV.own 2 (l10 ++ ([(splice [AV.str s27, AV.sl 8 []] 1 c21)]))) (AV.int .i64 (w64 (n11 + 1)))) (guardK (Nat.ble (List.length l7 + List.length [(List.set c9 7 (AV.sl 2 l10))]) lim) <| ref35_fill.l0 (AV.sl 1 l1) (AV.int .i64 n2) (AV.boxv 1 c3 []) (AV.boxv 1 [AV.sl 8 l4] [(0, AV.own 8 l5)]) (AV.boxv 1 [AV.sl 8 l6] [(0, AV.own 8 (l7 ++ [(List.set c9 7 (AV.sl 2 l10))]))]) (AV.int .i64 (w64 (n8 + 1))))) :=
  (loopAt_eq S 17 d17 [1, 1, 0, 1, 0, 0, 1, 0, 0, 1, 1, 1, 0, 1, 0] _).trans (by kernel_rfl)
end Go.Proofs.YtffojfcinkihnaaDoor.Abs
