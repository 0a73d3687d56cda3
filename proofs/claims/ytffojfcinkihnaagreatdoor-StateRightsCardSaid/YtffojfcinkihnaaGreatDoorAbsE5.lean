/- What the code comes to, function by function (printed by gen.py). -/
import Derived.Test.YtffojfcinkihnaaGreatDoorAbsT
set_option linter.unusedVariables false
set_option linter.unusedSimpArgs false
set_option linter.unusedSectionVars false
set_option linter.deprecated false
set_option linter.unnecessarySimpa false
namespace Go.Proofs.YtffojfcinkihnaaGreatDoor.Abs
set_option linter.unusedVariables false
set_option maxRecDepth 100000

/-! treillage/treillagelaw08.left: function 83 -/
noncomputable def d83 : FD := ⟨(Tryz.f83.body).getD .skip, Tryz.f83.results.toList, 77⟩
theorem run83 (l : List AV) : ωκ S 83 l = runM τ ann83 (ωκ S) [6] lpκ d83.code (look (argEnv 0 l)) (retV τ d83.rs) :=
  ωκ_run S 83 l d83 rfl (by show (Tryz.prog.funcs[83]?).bind toFD = _; rw [Tryz.func83]; rfl)
noncomputable def law08_left.l0 (a1 a2 a3 a7 : AV) : Option AV := loopAt S 83 d83 [1, 1, 0, 1, 0] (look [(1, a1), (2, a2), (3, a3), (7, a7)])
noncomputable def law08_left.l1 (a1 a2 a3 a7 a8 a9 : AV) : Option AV := loopAt S 83 d83 [1, 1, 0, 1, 0, 0, 1, 0, 0, 1, 1, 1, 1, 0] (look [(1, a1), (2, a2), (3, a3), (7, a7), (8, a8), (9, a9)])
theorem law08_left.f_eq (c1 : List AV) (n2 : Int) (n3 : Int) : law08_left (AV.agg 1 c1) (AV.int .i64 n2) (AV.int .i64 n3) = ((ifB (decide ((n2 : Int) = 0)) (some true) (getC c1 0 fun a5 => asL 8 a5 fun l6 => some (decide ((n3 : Int) < (List.length l6 : Int)))) : Option Bool).bind fun b4 => ifB b4 (some (AV.int .i64 (-1))) (law08_left.l0 (AV.int .i64 n2) (AV.int .i64 n3) (AV.boxv 1 c1 []) (AV.int .i64 0))) :=
  (run83 _).trans (by kernel_rfl)
theorem law08_left.l0_eq (n1 : Int) (n2 : Int) (c3 : List AV) (n4 : Int) : law08_left.l0 (AV.int .i64 n1) (AV.int .i64 n2) (AV.boxv 1 c3 []) (AV.int .i64 n4) = (getC c3 0 fun a5 => asL 8 a5 fun l6 => (ifB (decide ((n4 : Int) < (List.length l6 : Int))) (some (decide ((0 : Int) ≤ n2))) (some false) : Option Bool).bind fun b7 => ifB b7 (getC c3 0 fun a8 => asL 8 a8 fun l9 => idx l9 n4 fun c10 => getC c10 3 fun a11 => asS a11 fun s12 => (ifB (decide ((400 : Int) < (List.length s12 : Int))) (some true) (getC c10 7 fun a14 => asL 2 a14 fun l15 => some (decide ((100 : Int) < (List.length l15 : Int)))) : Option Bool).bind fun b13 => ifB b13 (some (AV.int .i64 (-1))) (law08_left.l1 (AV.int .i64 n1) (AV.int .i64 (w64 (n2 - 1))) (AV.boxv 1 c3 []) (AV.int .i64 n4) (AV.boxv 8 c10 []) (AV.int .i64 0))) (some (AV.int .i64 n2))) :=
  (loopAt_eq S 83 d83 [1, 1, 0, 1, 0] _).trans (by kernel_rfl)
theorem law08_left.l1_eq (n1 : Int) (n2 : Int) (c3 : List AV) (n4 : Int) (c5 : List AV) (n6 : Int) : law08_left.l1 (AV.int .i64 n1) (AV.int .i64 n2) (AV.boxv 1 c3 []) (AV.int .i64 n4) (AV.boxv 8 c5 []) (AV.int .i64 n6) = (getC c5 7 fun a7 => asL 2 a7 fun l8 => (ifB (decide ((n6 : Int) < (List.length l8 : Int))) (some (decide ((0 : Int) ≤ n2))) (some false) : Option Bool).bind fun b9 => ifB b9 (getC c5 7 fun a10 => asL 2 a10 fun l11 => idx l11 n6 fun c12 => getC c12 0 fun a13 => asS a13 fun s14 => ifB (decide ((100 : Int) < (List.length s14 : Int))) (some (AV.int .i64 (-1))) (getC c5 7 fun a15 => asL 2 a15 fun l16 => idx l16 n6 fun c17 => getC c17 1 fun a18 => (law08_left (AV.agg 1 [a18]) (AV.int .i64 (w64 (n1 - 1))) (AV.int .i64 n2)).bind fun r19 => asI .i64 r19 fun n20 => law08_left.l1 (AV.int .i64 n1) (AV.int .i64 n20) (AV.boxv 1 c3 []) (AV.int .i64 n4) (AV.boxv 8 c5 []) (AV.int .i64 (w64 (n6 + 1))))) (law08_left.l0 (AV.int .i64 n1) (AV.int .i64 n2) (AV.boxv 1 c3 []) (AV.int .i64 (w64 (n4 + 1))))) :=
  (loopAt_eq S 83 d83 [1, 1, 0, 1, 0, 0, 1, 0, 0, 1, 1, 1, 1, 0] _).trans (by kernel_rfl)

/-! treillage/lat.Right: function 85 -/
noncomputable def d85 : FD := ⟨(Tryz.f85.body).getD .skip, Tryz.f85.results.toList, 10⟩
theorem run85 (l : List AV) : ωκ S 85 l = runM τ (fun _ => none) (ωκ S) [2] lpκ d85.code (look (argEnv 0 l)) (retV τ d85.rs) :=
  ωκ_run S 85 l d85 rfl (by show (Tryz.prog.funcs[85]?).bind toFD = _; rw [Tryz.func85]; rfl)
theorem lat_Right.f_eq (c1 : List AV) : lat_Right (AV.agg 1 c1) = ((lat_listed (AV.agg 1 c1) (AV.int .i64 16)).bind fun r2 => asB r2 fun b3 => (ifB b3 ((rank_Weight (AV.agg 1 c1)).bind fun r5 => asI .i64 r5 fun n6 => some (decide ((n6 : Int) ≤ 512))) (some false) : Option Bool).bind fun b4 => some (AV.bool b4)) :=
  (run85 _).trans (by kernel_rfl)

/-! treillage/code.put: function 86 -/
noncomputable def d86 : FD := ⟨(Tryz.f86.body).getD .skip, Tryz.f86.results.toList, 69⟩
theorem run86 (l : List AV) : ωκ S 86 l = runM τ ann86 (ωκ S) [4] lpκ d86.code (look (argEnv 0 l)) (retV τ d86.rs) :=
  ωκ_run S 86 l d86 rfl (by show (Tryz.prog.funcs[86]?).bind toFD = _; rw [Tryz.func86]; rfl)
noncomputable def code_put.l0 (a0 a16 a17 a18 : AV) : Option AV := loopAt S 86 d86 [1, 1, 0, 1, 0] (look [(0, a0), (16, a16), (17, a17), (18, a18)])
noncomputable def code_put.l1 (a0 a16 a17 a18 a53 a54 a55 : AV) : Option AV := loopAt S 86 d86 [1, 1, 0, 1, 0, 0, 1, 1, 0, 0, 1, 1, 1, 0, 1, 1, 1, 1, 1, 0, 1, 1, 0] (look [(0, a0), (16, a16), (17, a17), (18, a18), (53, a53), (54, a54), (55, a55)])
theorem code_put.f_eq (l1 : List (List AV)) (c2 : List AV) : code_put (AV.sl 1 l1) (AV.agg 1 c2) = (getC c2 0 fun a3 => asL 8 a3 fun l4 => (vint_Put (AV.sl 1 l1) (AV.int .u64 (IntKind.wrap .u64 ((List.length l4 : Int))))).bind fun r5 => asL 1 r5 fun l6 => getC c2 0 fun a7 => asL 8 a7 fun l8 => code_put.l0 (AV.sl 1 l6) (AV.sl 8 l8) (AV.int .i64 (List.length l8 : Int)) (AV.int .i64 0)) :=
  (run86 _).trans (by kernel_rfl)
theorem code_put.l0_eq (l1 : List (List AV)) (l2 : List (List AV)) (n3 : Int) (n4 : Int) : code_put.l0 (AV.sl 1 l1) (AV.sl 8 l2) (AV.int .i64 n3) (AV.int .i64 n4) = (ifB (decide ((n4 : Int) < n3)) (idx l2 n4 fun c5 => (code_mark (AV.agg 8 c5)).bind fun r6 => asI .u64 r6 fun n7 => (vint_Put (AV.sl 1 l1) (AV.int .u64 n7)).bind fun r8 => asL 1 r8 fun l9 => getC c5 0 fun a10 => asI .i64 a10 fun n11 => ifB (decide ((n11 : Int) = 1)) (ifB (decide ((n11 : Int) = 1)) (getC c5 1 fun a12 => asI .i64 a12 fun n13 => (vint_PutInt (AV.sl 1 l9) (AV.int .i64 n13)).bind fun r14 => asL 1 r14 fun l15 => getC c5 2 fun a16 => asI .i64 a16 fun n17 => (vint_PutInt (AV.sl 1 l15) (AV.int .i64 n17)).bind fun r18 => asL 1 r18 fun l19 => code_put.l0 (AV.sl 1 l19) (AV.sl 8 l2) (AV.int .i64 n3) (AV.int .i64 (w64 (n4 + 1)))) (ifB (decide ((n11 : Int) = 3)) (getC c5 3 fun a20 => asS a20 fun s21 => (vint_PutText (AV.sl 1 l9) (AV.str s21)).bind fun r22 => asL 1 r22 fun l23 => code_put.l0 (AV.sl 1 l23) (AV.sl 8 l2) (AV.int .i64 n3) (AV.int .i64 (w64 (n4 + 1)))) (ifB (decide ((n11 : Int) = 4)) (getC c5 7 fun a24 => asL 2 a24 fun l25 => (vint_Put (AV.sl 1 l9) (AV.int .u64 (IntKind.wrap .u64 ((List.length l25 : Int))))).bind fun r26 => asL 1 r26 fun l27 => getC c5 7 fun a28 => asL 2 a28 fun l29 => code_put.l1 (AV.sl 1 l27) (AV.sl 8 l2) (AV.int .i64 n3) (AV.int .i64 n4) (AV.sl 2 l29) (AV.int .i64 (List.length l29 : Int)) (AV.int .i64 0)) (code_put.l0 (AV.sl 1 l9) (AV.sl 8 l2) (AV.int .i64 n3) (AV.int .i64 (w64 (n4 + 1))))))) (ifB (decide ((n11 : Int) = 2)) (getC c5 1 fun a30 => asI .i64 a30 fun n31 => (vint_PutInt (AV.sl 1 l9) (AV.int .i64 n31)).bind fun r32 => asL 1 r32 fun l33 => getC c5 2 fun a34 => asI .i64 a34 fun n35 => (vint_PutInt (AV.sl 1 l33) (AV.int .i64 n35)).bind fun r36 => asL 1 r36 fun l37 => code_put.l0 (AV.sl 1 l37) (AV.sl 8 l2) (AV.int .i64 n3) (AV.int .i64 (w64 (n4 + 1)))) (ifB (decide ((n11 : Int) = 3)) (getC c5 3 fun a38 => asS a38 fun s39 => (vint_PutText (AV.sl 1 l9) (AV.str s39)).bind fun r40 => asL 1 r40 fun l41 => code_put.l0 (AV.sl 1 l41) (AV.sl 8 l2) (AV.int .i64 n3) (AV.int .i64 (w64 (n4 + 1)))) (ifB (decide ((n11 : Int) = 4)) (getC c5 7 fun a42 => asL 2 a42 fun l43 => (vint_Put (AV.sl 1 l9) (AV.int .u64 (IntKind.wrap .u64 ((List.length l43 : Int))))).bind fun r44 => asL 1 r44 fun l45 => getC c5 7 fun a46 => asL 2 a46 fun l47 => code_put.l1 (AV.sl 1 l45) (AV.sl 8 l2) (AV.int .i64 n3) (AV.int .i64 n4) (AV.sl 2 l47) (AV.int .i64 (List.length l47 : Int)) (AV.int .i64 0)) (code_put.l0 (AV.sl 1 l9) (AV.sl 8 l2) (AV.int .i64 n3) (AV.int .i64 (w64 (n4 + 1)))))))) (some (AV.sl 1 l1))) :=
  (loopAt_eq S 86 d86 [1, 1, 0, 1, 0] _).trans (by kernel_rfl)
theorem code_put.l1_eq (l1 : List (List AV)) (l2 : List (List AV)) (n3 : Int) (n4 : Int) (l5 : List (List AV)) (n6 : Int) (n7 : Int) : code_put.l1 (AV.sl 1 l1) (AV.sl 8 l2) (AV.int .i64 n3) (AV.int .i64 n4) (AV.sl 2 l5) (AV.int .i64 n6) (AV.int .i64 n7) = (ifB (decide ((n7 : Int) < n6)) (idx l5 n7 fun c8 => getC c8 0 fun a9 => asS a9 fun s10 => (vint_PutText (AV.sl 1 l1) (AV.str s10)).bind fun r11 => asL 1 r11 fun l12 => getC c8 1 fun a13 => (code_put (AV.sl 1 l12) (AV.agg 1 [(frz a13)])).bind fun r14 => asL 1 r14 fun l15 => code_put.l1 (AV.sl 1 l15) (AV.sl 8 l2) (AV.int .i64 n3) (AV.int .i64 n4) (AV.sl 2 l5) (AV.int .i64 n6) (AV.int .i64 (w64 (n7 + 1)))) (code_put.l0 (AV.sl 1 l1) (AV.sl 8 l2) (AV.int .i64 n3) (AV.int .i64 (w64 (n4 + 1))))) :=
  (loopAt_eq S 86 d86 [1, 1, 0, 1, 0, 0, 1, 1, 0, 0, 1, 1, 1, 0, 1, 1, 1, 1, 1, 0, 1, 1, 0] _).trans (by kernel_rfl)

/-! slices.rotateLeft[treillage/api.Thing]: function 87 -/
noncomputable def d87 : FD := ⟨(Tryz.f87.body).getD .skip, Tryz.f87.results.toList, 14⟩
theorem run87 (l : List AV) : ωκ S 87 l = runM τ (fun _ => none) (ωκ S) [] lpκ d87.code (look (argEnv 0 l)) (retV τ d87.rs) :=
  ωκ_run S 87 l d87 rfl (by show (Tryz.prog.funcs[87]?).bind toFD = _; rw [Tryz.func87]; rfl)
theorem slices_rotateLeft__Thing.f_eq (l1 : List (List AV)) (n2 : Int) : slices_rotateLeft__Thing (AV.sl 3 l1) (AV.int .i64 n2) = (cutTo l1 n2 fun l3 => (slices_Reverse__Thing (AV.sl 3 l3)).bind fun r4 => asT0 r4 (cutFrom l1 n2 fun l5 => (slices_Reverse__Thing (AV.sl 3 l5)).bind fun r6 => asT0 r6 ((slices_Reverse__Thing (AV.sl 3 l1)).bind fun r7 => asT0 r7 (some (.tup []))))) :=
  (run87 _).trans (by kernel_rfl)

/-! treillage/treillageref08.Terms: function 90 -/
noncomputable def d90 : FD := ⟨(Tryz.f90.body).getD .skip, Tryz.f90.results.toList, 65⟩
theorem run90 (l : List AV) : ωκ S 90 l = runM τ ann90 (ωκ S) [4] lpκ d90.code (look (argEnv 0 l)) (retV τ d90.rs) :=
  ωκ_run S 90 l d90 rfl (by show (Tryz.prog.funcs[90]?).bind toFD = _; rw [Tryz.func90]; rfl)
noncomputable def ref08_Terms.l0 (a2 a3 a6 : AV) : Option AV := loopAt S 90 d90 [1, 1, 1, 0, 1, 0] (look [(2, a2), (3, a3), (6, a6)])
theorem ref08_Terms.f_eq (c1 : List AV) (c2 : List AV) : ref08_Terms (AV.agg 8 c1) (AV.agg 8 c2) = ((ref08_plain (AV.agg 8 c1) (AV.agg 8 c2)).bind fun r3 => asI .i64 r3 fun n4 => ifB (!decide ((n4 : Int) = 0)) (some (AV.int .i64 n4)) (ref08_Terms.l0 (AV.boxv 8 c1 []) (AV.boxv 8 c2 []) (AV.int .i64 0))) :=
  (run90 _).trans (by kernel_rfl)
theorem ref08_Terms.l0_eq (c1 : List AV) (c2 : List AV) (n3 : Int) : ref08_Terms.l0 (AV.boxv 8 c1 []) (AV.boxv 8 c2 []) (AV.int .i64 n3) = (getC c1 7 fun a4 => asL 2 a4 fun l5 => (ifB (decide ((n3 : Int) < (List.length l5 : Int))) (getC c2 7 fun a7 => asL 2 a7 fun l8 => some (decide ((n3 : Int) < (List.length l8 : Int)))) (some false) : Option Bool).bind fun b6 => ifB b6 (getC c1 7 fun a9 => asL 2 a9 fun l10 => idx l10 n3 fun c11 => getC c11 0 fun a12 => asS a12 fun s13 => getC c2 7 fun a14 => asL 2 a14 fun l15 => idx l15 n3 fun c16 => getC c16 0 fun a17 => asS a17 fun s18 => (ref08_texts (AV.str s13) (AV.str s18)).bind fun r19 => asI .i64 r19 fun n20 => ifB (decide ((n20 : Int) = 0)) (getC c1 7 fun a21 => asL 2 a21 fun l22 => idx l22 n3 fun c23 => getC c23 1 fun a24 => getC c2 7 fun a25 => asL 2 a25 fun l26 => idx l26 n3 fun c27 => getC c27 1 fun a28 => (ref08_Compare (AV.agg 1 [a24]) (AV.agg 1 [a28])).bind fun r29 => asI .i64 r29 fun n30 => ifB (!decide ((n30 : Int) = 0)) (some (AV.int .i64 n30)) (ref08_Terms.l0 (AV.boxv 8 c1 []) (AV.boxv 8 c2 []) (AV.int .i64 (w64 (n3 + 1))))) (ifB (!decide ((n20 : Int) = 0)) (some (AV.int .i64 n20)) (ref08_Terms.l0 (AV.boxv 8 c1 []) (AV.boxv 8 c2 []) (AV.int .i64 (w64 (n3 + 1)))))) (getC c1 7 fun a31 => asL 2 a31 fun l32 => getC c2 7 fun a33 => asL 2 a33 fun l34 => (ref08_nums (AV.int .i64 (List.length l32 : Int)) (AV.int .i64 (List.length l34 : Int))).bind fun r35 => asI .i64 r35 fun n36 => some (AV.int .i64 n36))) :=
  (loopAt_eq S 90 d90 [1, 1, 1, 0, 1, 0] _).trans (by kernel_rfl)

/-! treillage/treillageref08.nums: function 91 -/
noncomputable def d91 : FD := ⟨(Tryz.f91.body).getD .skip, Tryz.f91.results.toList, 11⟩
theorem run91 (l : List AV) : ωκ S 91 l = runM τ (fun _ => none) (ωκ S) [4] lpκ d91.code (look (argEnv 0 l)) (retV τ d91.rs) :=
  ωκ_run S 91 l d91 rfl (by show (Tryz.prog.funcs[91]?).bind toFD = _; rw [Tryz.func91]; rfl)
theorem ref08_nums.f_eq (n1 : Int) (n2 : Int) : ref08_nums (AV.int .i64 n1) (AV.int .i64 n2) = (ifB (decide ((n1 : Int) < n2)) (some (AV.int .i64 (-1))) (ifB (decide ((n2 : Int) < n1)) (some (AV.int .i64 1)) (some (AV.int .i64 0)))) :=
  (run91 _).trans (by kernel_rfl)

/-! treillage/fact.one: function 92 -/
noncomputable def d92 : FD := ⟨(Tryz.f92.body).getD .skip, Tryz.f92.results.toList, 28⟩
theorem run92 (l : List AV) : ωκ S 92 l = runM τ (fun _ => none) (ωκ S) [3] lpκ d92.code (look (argEnv 0 l)) (retV τ d92.rs) :=
  ωκ_run S 92 l d92 rfl (by show (Tryz.prog.funcs[92]?).bind toFD = _; rw [Tryz.func92]; rfl)
theorem fact_one.f_eq (c1 : List AV) : fact_one (AV.agg 1 c1) = (getC c1 0 fun a2 => asL 8 a2 fun l3 => ifB (decide (((List.length l3 : Int) : Int) = 0)) (some (.tup [AV.agg 8 [AV.int .i64 0, AV.int .i64 0, AV.int .i64 0, AV.str [], AV.bool false, AV.bool false, AV.bool false, AV.sl 2 []], AV.int .i64 31])) (getC c1 0 fun a4 => asL 8 a4 fun l5 => (ifB (decide ((1 : Int) < (List.length l5 : Int))) (some true) (getC c1 0 fun a7 => asL 8 a7 fun l8 => idx l8 0 fun c9 => getC c9 0 fun a10 => asI .i64 a10 fun n11 => some (decide ((n11 : Int) = 5))) : Option Bool).bind fun b6 => ifB b6 (some (.tup [AV.agg 8 [AV.int .i64 0, AV.int .i64 0, AV.int .i64 0, AV.str [], AV.bool false, AV.bool false, AV.bool false, AV.sl 2 []], AV.int .i64 28])) (getC c1 0 fun a12 => asL 8 a12 fun l13 => idx l13 0 fun c14 => some (.tup [AV.agg 8 c14, AV.int .i64 0])))) :=
  (run92 _).trans (by kernel_rfl)

/-! treillage/lat.Of: function 93 -/
noncomputable def d93 : FD := ⟨(Tryz.f93.body).getD .skip, Tryz.f93.results.toList, 50⟩
theorem run93 (l : List AV) : ωκ S 93 l = runM τ ann93 (ωκ S) [3] lpκ d93.code (look (argEnv 0 l)) (retV τ d93.rs) :=
  ωκ_run S 93 l d93 rfl (by show (Tryz.prog.funcs[93]?).bind toFD = _; rw [Tryz.func93]; rfl)
noncomputable def lat_Of.l0 (a0 a2 a4 a13 a14 a15 : AV) : Option AV := loopAt S 93 d93 [1, 1, 1, 0, 1, 0] (look [(0, a0), (2, a2), (4, a4), (13, a13), (14, a14), (15, a15)])
noncomputable def lat_Of.l1 (a0 a2 a4 a13 a14 a15 a30 a31 a32 : AV) : Option AV := loopAt S 93 d93 [1, 1, 1, 0, 1, 0, 0, 1, 1, 0, 0, 1, 1, 1, 1, 0] (look [(0, a0), (2, a2), (4, a4), (13, a13), (14, a14), (15, a15), (30, a30), (31, a31), (32, a32)])
theorem lat_Of.f_eq (l1 : List (List AV)) : lat_Of (AV.sl 8 l1) = (ifB (decide ((512 : Int) < (List.length l1 : Int))) (some (.tup [AV.agg 1 [AV.sl 8 []], AV.int .i64 1])) (lat_Of.l0 (AV.sl 8 l1) (AV.boxv 1 [AV.sl 8 []] [(0, AV.own 8 [])]) (AV.int .i64 1) (AV.sl 8 l1) (AV.int .i64 (List.length l1 : Int)) (AV.int .i64 0))) :=
  (run93 _).trans (by kernel_rfl)
theorem lat_Of.l0_eq (l1 : List (List AV)) (l2 : List (List AV)) (l3 : List (List AV)) (n4 : Int) (l5 : List (List AV)) (n6 : Int) (n7 : Int) : lat_Of.l0 (AV.sl 8 l1) (AV.boxv 1 [AV.sl 8 l2] [(0, AV.own 8 l3)]) (AV.int .i64 n4) (AV.sl 8 l5) (AV.int .i64 n6) (AV.int .i64 n7) = (ifB (decide ((n7 : Int) < n6)) (idx l5 n7 fun c8 => (lat_shaped (AV.agg 8 c8) (AV.int .i64 17)).bind fun r9 => asB r9 fun b10 => ifB (!b10) (some (.tup [AV.agg 1 [AV.sl 8 []], AV.int .i64 1])) ((rank_Depth (AV.agg 1 [AV.sl 8 [c8]])).bind fun r11 => asI .i64 r11 fun n12 => getC c8 7 fun a13 => asL 2 a13 fun l14 => lat_Of.l1 (AV.sl 8 l1) (AV.boxv 1 [AV.sl 8 l2] [(0, AV.own 8 l3)]) (AV.int .i64 (max (n4 : Int) n12)) (AV.sl 8 l5) (AV.int .i64 n6) (AV.int .i64 n7) (AV.sl 2 l14) (AV.int .i64 (List.length l14 : Int)) (AV.int .i64 0))) (ifB (decide ((16 : Int) < n4)) (some (.tup [AV.agg 1 [AV.sl 8 []], AV.int .i64 22])) ((lat_settle (AV.sl 8 l1)).bind fun r15 => asT2 r15 fun a16 a17 => asC 1 a16 fun c18 => asI .i64 a17 fun n19 => some (.tup [AV.agg 1 c18, AV.int .i64 n19])))) :=
  (loopAt_eq S 93 d93 [1, 1, 1, 0, 1, 0] _).trans (by kernel_rfl)
theorem lat_Of.l1_eq (l1 : List (List AV)) (l2 : List (List AV)) (l3 : List (List AV)) (n4 : Int) (l5 : List (List AV)) (n6 : Int) (n7 : Int) (l8 : List (List AV)) (n9 : Int) (n10 : Int) : lat_Of.l1 (AV.sl 8 l1) (AV.boxv 1 [AV.sl 8 l2] [(0, AV.own 8 l3)]) (AV.int .i64 n4) (AV.sl 8 l5) (AV.int .i64 n6) (AV.int .i64 n7) (AV.sl 2 l8) (AV.int .i64 n9) (AV.int .i64 n10) = (ifB (decide ((n10 : Int) < n9)) (idx l8 n10 fun c11 => getC c11 1 fun a12 => (lat_Right (AV.agg 1 [(frz a12)])).bind fun r13 => asB r13 fun b14 => ifB (!b14) (some (.tup [AV.agg 1 [AV.sl 8 []], AV.int .i64 1])) (lat_Of.l1 (AV.sl 8 l1) (AV.boxv 1 [AV.sl 8 l2] [(0, AV.own 8 l3)]) (AV.int .i64 n4) (AV.sl 8 l5) (AV.int .i64 n6) (AV.int .i64 n7) (AV.sl 2 l8) (AV.int .i64 n9) (AV.int .i64 (w64 (n10 + 1))))) (lat_Of.l0 (AV.sl 8 l1) (AV.boxv 1 [AV.sl 8 l2] [(0, AV.own 8 l3)]) (AV.int .i64 n4) (AV.sl 8 l5) (AV.int .i64 n6) (AV.int .i64 (w64 (n7 + 1))))) :=
  (loopAt_eq S 93 d93 [1, 1, 1, 0, 1, 0, 0, 1, 1, 0, 0, 1, 1, 1, 1, 0] _).trans (by kernel_rfl)

/-! treillage/name.small: function 95 -/
noncomputable def d95 : FD := ⟨(Tryz.f95.body).getD .skip, Tryz.f95.results.toList, 9⟩
theorem run95 (l : List AV) : ωκ S 95 l = runM τ (fun _ => none) (ωκ S) [2] lpκ d95.code (look (argEnv 0 l)) (retV τ d95.rs) :=
  ωκ_run S 95 l d95 rfl (by show (Tryz.prog.funcs[95]?).bind toFD = _; rw [Tryz.func95]; rfl)
theorem name_small.f_eq (n1 : Int) : name_small (AV.int .i32 n1) = ((ifB (decide ((97 : Int) ≤ n1)) (some (decide ((n1 : Int) ≤ 122))) (some false) : Option Bool).bind fun b2 => some (AV.bool b2)) :=
  (run95 _).trans (by kernel_rfl)

/-! treillage/fact.all: function 96 -/
noncomputable def d96 : FD := ⟨(Tryz.f96.body).getD .skip, Tryz.f96.results.toList, 25⟩
theorem run96 (l : List AV) : ωκ S 96 l = runM τ (fun _ => none) (ωκ S) [4] lpκ d96.code (look (argEnv 0 l)) (retV τ d96.rs) :=
  ωκ_run S 96 l d96 rfl (by show (Tryz.prog.funcs[96]?).bind toFD = _; rw [Tryz.func96]; rfl)
theorem fact_all.f_eq (c1 : List AV) (f2 : Nat) (c3 : List AV) : fact_all (AV.agg 1 c1) (AV.fn f2 c3) = ((fact_one (AV.agg 1 c1)).bind fun r4 => asT2 r4 fun a5 a6 => asC 8 a5 fun c7 => asI .i64 a6 fun n8 => ifB (!decide ((n8 : Int) = 0)) (some (AV.bool false)) (getC c7 0 fun a9 => asI .i64 a9 fun n10 => ifB (!decide ((n10 : Int) = 4)) ((ωκ S f2 ([AV.agg 8 c7] ++ c3)).bind fun r11 => asB r11 fun b12 => some (AV.bool b12)) (getC c7 7 fun a13 => asL 2 a13 fun l14 => (slices_ContainsFunc__Field (AV.sl 2 l14) (AV.fn 131 [AV.eptr 1 [AV.fn f2 c3] 0])).bind fun r15 => asB r15 fun b16 => some (AV.bool (!b16))))) :=
  (run96 _).trans (by kernel_rfl)

/-! treillage/scalar.Atom: function 97 -/
noncomputable def d97 : FD := ⟨(Tryz.f97.body).getD .skip, Tryz.f97.results.toList, 9⟩
theorem run97 (l : List AV) : ωκ S 97 l = runM τ (fun _ => none) (ωκ S) [2] lpκ d97.code (look (argEnv 0 l)) (retV τ d97.rs) :=
  ωκ_run S 97 l d97 rfl (by show (Tryz.prog.funcs[97]?).bind toFD = _; rw [Tryz.func97]; rfl)
theorem scalar_Atom.f_eq (c1 : List AV) : scalar_Atom (AV.agg 8 c1) = ((scalar_Right (AV.agg 8 c1)).bind fun r2 => asB r2 fun b3 => (ifB b3 ((scalar_one (AV.agg 8 c1)).bind fun r5 => asB r5 fun b6 => some b6) (some false) : Option Bool).bind fun b4 => some (AV.bool b4)) :=
  (run97 _).trans (by kernel_rfl)

/-! slices.Index[[]string,string]: function 98 -/
noncomputable def d98 : FD := ⟨(Tryz.f98.body).getD .skip, Tryz.f98.results.toList, 19⟩
theorem run98 (l : List AV) : ωκ S 98 l = runM τ ann98 (ωκ S) [4] lpκ d98.code (look (argEnv 0 l)) (retV τ d98.rs) :=
  ωκ_run S 98 l d98 rfl (by show (Tryz.prog.funcs[98]?).bind toFD = _; rw [Tryz.func98]; rfl)
noncomputable def slices_Index__string.l0 (a0 a1 a7 a8 : AV) : Option AV := loopAt S 98 d98 [1, 0, 1, 0] (look [(0, a0), (1, a1), (7, a7), (8, a8)])
theorem slices_Index__string.f_eq (l1 : List (List AV)) (s2 : List UInt8) : slices_Index__string (AV.sl 1 l1) (AV.str s2) = (slices_Index__string.l0 (AV.sl 1 l1) (AV.str s2) (AV.int .i64 (List.length l1 : Int)) (AV.int .i64 0)) :=
  (run98 _).trans (by kernel_rfl)
theorem slices_Index__string.l0_eq (l1 : List (List AV)) (s2 : List UInt8) (n3 : Int) (n4 : Int) : slices_Index__string.l0 (AV.sl 1 l1) (AV.str s2) (AV.int .i64 n3) (AV.int .i64 n4) = (ifB (decide ((n4 : Int) < n3)) (idx l1 n4 fun c5 => getC c5 0 fun a6 => asS a6 fun s7 => ifB (decide ((s2 : List UInt8) = s7)) (some (AV.int .i64 n4)) (slices_Index__string.l0 (AV.sl 1 l1) (AV.str s2) (AV.int .i64 n3) (AV.int .i64 (w64 (n4 + 1))))) (some (AV.int .i64 (-1)))) :=
  (loopAt_eq S 98 d98 [1, 0, 1, 0] _).trans (by kernel_rfl)
end Go.Proofs.YtffojfcinkihnaaGreatDoor.Abs
