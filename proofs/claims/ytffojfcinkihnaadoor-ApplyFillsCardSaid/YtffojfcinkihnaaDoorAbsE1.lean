/- What the code comes to, function by function (printed by gen.py). -/
import Derived.Test.YtffojfcinkihnaaDoorAbsT
set_option linter.unusedVariables false
set_option linter.unusedSimpArgs false
set_option linter.unusedSectionVars false
set_option linter.deprecated false
set_option linter.unnecessarySimpa false
namespace Go.Proofs.YtffojfcinkihnaaDoor.Abs
set_option linter.unusedVariables false
set_option maxRecDepth 100000

/-! treillage/treillageref08.Compare: function 18 -/
noncomputable def d18 : FD := ⟨(Tryd.f18.body).getD .skip, Tryd.f18.results.toList, 42⟩
theorem run18 (l : List AV) : ωκ S 18 l = runM τ ann18 (ωκ S) [4] lpκ d18.code (look (argEnv 0 l)) (retV τ d18.rs) :=
  ωκ_run S 18 l d18 rfl (by show (Tryd.prog.funcs[18]?).bind toFD = _; rw [Tryd.func18]; rfl)
noncomputable def ref08_Compare.l0 (a2 a3 a5 : AV) : Option AV := loopAt S 18 d18 [1, 0, 1, 0] (look [(2, a2), (3, a3), (5, a5)])
theorem ref08_Compare.f_eq (c1 : List AV) (c2 : List AV) : ref08_Compare (AV.agg 1 c1) (AV.agg 1 c2) = (ref08_Compare.l0 (AV.boxv 1 c1 []) (AV.boxv 1 c2 []) (AV.int .i64 0)) :=
  (run18 _).trans (by kernel_rfl)
theorem ref08_Compare.l0_eq (c1 : List AV) (c2 : List AV) (n3 : Int) : ref08_Compare.l0 (AV.boxv 1 c1 []) (AV.boxv 1 c2 []) (AV.int .i64 n3) = (getC c1 0 fun a4 => asL 8 a4 fun l5 => (ifB (decide ((n3 : Int) < (List.length l5 : Int))) (getC c2 0 fun a7 => asL 8 a7 fun l8 => some (decide ((n3 : Int) < (List.length l8 : Int)))) (some false) : Option Bool).bind fun b6 => ifB b6 (getC c1 0 fun a9 => asL 8 a9 fun l10 => idx l10 n3 fun c11 => getC c2 0 fun a12 => asL 8 a12 fun l13 => idx l13 n3 fun c14 => (ref08_Terms (AV.agg 8 c11) (AV.agg 8 c14)).bind fun r15 => asI .i64 r15 fun n16 => ifB (!decide ((n16 : Int) = 0)) (some (AV.int .i64 n16)) (ref08_Compare.l0 (AV.boxv 1 c1 []) (AV.boxv 1 c2 []) (AV.int .i64 (w64 (n3 + 1))))) (getC c1 0 fun a17 => asL 8 a17 fun l18 => getC c2 0 fun a19 => asL 8 a19 fun l20 => (ref08_nums (AV.int .i64 (List.length l18 : Int)) (AV.int .i64 (List.length l20 : Int))).bind fun r21 => asI .i64 r21 fun n22 => some (AV.int .i64 n22))) :=
  (loopAt_eq S 18 d18 [1, 0, 1, 0] _).trans (by kernel_rfl)

/-! treillage/treillageref11.Settled: function 19 -/
noncomputable def d19 : FD := ⟨(Tryd.f19.body).getD .skip, Tryd.f19.results.toList, 9⟩
theorem run19 (l : List AV) : ωκ S 19 l = runM τ (fun _ => none) (ωκ S) [2] lpκ d19.code (look (argEnv 0 l)) (retV τ d19.rs) :=
  ωκ_run S 19 l d19 rfl (by show (Tryd.prog.funcs[19]?).bind toFD = _; rw [Tryd.func19]; rfl)
theorem ref11_Settled.f_eq (c1 : List AV) : ref11_Settled (AV.agg 1 c1) = ((ref09_Right (AV.agg 1 c1)).bind fun r2 => asB r2 fun b3 => (ifB b3 ((ref11_settled (AV.agg 1 c1) (AV.bool false)).bind fun r5 => asB r5 fun b6 => some b6) (some false) : Option Bool).bind fun b4 => some (AV.bool b4)) :=
  (run19 _).trans (by kernel_rfl)

/-! treillage/treillageref09.Right: function 20 -/
noncomputable def d20 : FD := ⟨(Tryd.f20.body).getD .skip, Tryd.f20.results.toList, 77⟩
theorem run20 (l : List AV) : ωκ S 20 l = runM τ ann20 (ωκ S) [2] lpκ d20.code (look (argEnv 0 l)) (retV τ d20.rs) :=
  ωκ_run S 20 l d20 rfl (by show (Tryd.prog.funcs[20]?).bind toFD = _; rw [Tryd.func20]; rfl)
noncomputable def ref09_Right.l0 (a1 a3 : AV) : Option AV := loopAt S 20 d20 [1, 1, 0, 1, 0] (look [(1, a1), (3, a3)])
noncomputable def ref09_Right.l1 (a1 a4 : AV) : Option AV := loopAt S 20 d20 [1, 1, 1, 0, 1, 0] (look [(1, a1), (4, a4)])
noncomputable def ref09_Right.l2 (a1 a4 a5 : AV) : Option AV := loopAt S 20 d20 [1, 1, 1, 0, 1, 0, 0, 1, 0, 0, 1, 0] (look [(1, a1), (4, a4), (5, a5)])
theorem ref09_Right.f_eq (c1 : List AV) : ref09_Right (AV.agg 1 c1) = ((ref08_Weight (AV.agg 1 c1)).bind fun r2 => asI .i64 r2 fun n3 => (ifB (decide ((512 : Int) < n3)) (some true) ((ref08_Depth (AV.agg 1 c1)).bind fun r5 => asI .i64 r5 fun n6 => some (decide ((16 : Int) < n6))) : Option Bool).bind fun b4 => ifB b4 (some (AV.bool false)) (ref09_Right.l0 (AV.boxv 1 c1 []) (AV.int .i64 0))) :=
  (run20 _).trans (by kernel_rfl)
theorem ref09_Right.l0_eq (c1 : List AV) (n2 : Int) : ref09_Right.l0 (AV.boxv 1 c1 []) (AV.int .i64 n2) = (getC c1 0 fun a3 => asL 8 a3 fun l4 => ifB (decide ((n2 : Int) < (List.length l4 : Int))) (getC c1 0 fun a5 => asL 8 a5 fun l6 => idx l6 n2 fun c7 => (ref09_Term (AV.agg 8 c7)).bind fun r8 => asB r8 fun b9 => (ifB (!b9) (some true) ((ifB (decide ((0 : Int) < n2)) (getC c1 0 fun a12 => asL 8 a12 fun l13 => idx l13 (w64 (n2 - 1)) fun c14 => getC c1 0 fun a15 => asL 8 a15 fun l16 => idx l16 n2 fun c17 => (ref08_Terms (AV.agg 8 c14) (AV.agg 8 c17)).bind fun r18 => asI .i64 r18 fun n19 => some (decide ((0 : Int) ≤ n19))) (some false) : Option Bool).bind fun b11 => some b11) : Option Bool).bind fun b10 => ifB b10 (some (AV.bool false)) (ref09_Right.l0 (AV.boxv 1 c1 []) (AV.int .i64 (w64 (n2 + 1))))) (ref09_Right.l1 (AV.boxv 1 c1 []) (AV.int .i64 0))) :=
  (loopAt_eq S 20 d20 [1, 1, 0, 1, 0] _).trans (by kernel_rfl)
theorem ref09_Right.l1_eq (c1 : List AV) (n2 : Int) : ref09_Right.l1 (AV.boxv 1 c1 []) (AV.int .i64 n2) = (getC c1 0 fun a3 => asL 8 a3 fun l4 => ifB (decide ((n2 : Int) < (List.length l4 : Int))) (ref09_Right.l2 (AV.boxv 1 c1 []) (AV.int .i64 n2) (AV.int .i64 0)) (some (AV.bool true))) :=
  (loopAt_eq S 20 d20 [1, 1, 1, 0, 1, 0] _).trans (by kernel_rfl)
theorem ref09_Right.l2_eq (c1 : List AV) (n2 : Int) (n3 : Int) : ref09_Right.l2 (AV.boxv 1 c1 []) (AV.int .i64 n2) (AV.int .i64 n3) = (getC c1 0 fun a4 => asL 8 a4 fun l5 => ifB (decide ((n3 : Int) < (List.length l5 : Int))) ((ifB (!decide ((n2 : Int) = n3)) (getC c1 0 fun a7 => asL 8 a7 fun l8 => idx l8 n2 fun c9 => getC c1 0 fun a10 => asL 8 a10 fun l11 => idx l11 n3 fun c12 => (ref09_under (AV.agg 8 c9) (AV.agg 8 c12)).bind fun r13 => asB r13 fun b14 => some b14) (some false) : Option Bool).bind fun b6 => ifB b6 (some (AV.bool false)) (ref09_Right.l2 (AV.boxv 1 c1 []) (AV.int .i64 n2) (AV.int .i64 (w64 (n3 + 1))))) (ref09_Right.l1 (AV.boxv 1 c1 []) (AV.int .i64 (w64 (n2 + 1))))) :=
  (loopAt_eq S 20 d20 [1, 1, 1, 0, 1, 0, 0, 1, 0, 0, 1, 0] _).trans (by kernel_rfl)

/-! treillage/treillageref09.Under: function 21 -/
noncomputable def d21 : FD := ⟨(Tryd.f21.body).getD .skip, Tryd.f21.results.toList, 39⟩
theorem run21 (l : List AV) : ωκ S 21 l = runM τ ann21 (ωκ S) [4] lpκ d21.code (look (argEnv 0 l)) (retV τ d21.rs) :=
  ωκ_run S 21 l d21 rfl (by show (Tryd.prog.funcs[21]?).bind toFD = _; rw [Tryd.func21]; rfl)
noncomputable def ref09_Under.l0 (a2 a3 a5 : AV) : Option AV := loopAt S 21 d21 [1, 0, 1, 0] (look [(2, a2), (3, a3), (5, a5)])
noncomputable def ref09_Under.l1 (a2 a3 a5 a6 a7 : AV) : Option AV := loopAt S 21 d21 [1, 0, 1, 0, 0, 1, 0, 0, 1, 0, 1, 0] (look [(2, a2), (3, a3), (5, a5), (6, a6), (7, a7)])
theorem ref09_Under.f_eq (c1 : List AV) (c2 : List AV) : ref09_Under (AV.agg 1 c1) (AV.agg 1 c2) = (ref09_Under.l0 (AV.boxv 1 c1 []) (AV.boxv 1 c2 []) (AV.int .i64 0)) :=
  (run21 _).trans (by kernel_rfl)
theorem ref09_Under.l0_eq (c1 : List AV) (c2 : List AV) (n3 : Int) : ref09_Under.l0 (AV.boxv 1 c1 []) (AV.boxv 1 c2 []) (AV.int .i64 n3) = (getC c1 0 fun a4 => asL 8 a4 fun l5 => ifB (decide ((n3 : Int) < (List.length l5 : Int))) (ref09_Under.l1 (AV.boxv 1 c1 []) (AV.boxv 1 c2 []) (AV.int .i64 n3) (AV.bool false) (AV.int .i64 0)) (some (AV.bool true))) :=
  (loopAt_eq S 21 d21 [1, 0, 1, 0] _).trans (by kernel_rfl)
theorem ref09_Under.l1_eq (c1 : List AV) (c2 : List AV) (n3 : Int) (n4 : Int) : ref09_Under.l1 (AV.boxv 1 c1 []) (AV.boxv 1 c2 []) (AV.int .i64 n3) (AV.bool false) (AV.int .i64 n4) = (getC c2 0 fun a5 => asL 8 a5 fun l6 => (ifB (decide ((n4 : Int) < (List.length l6 : Int))) (some true) (some false) : Option Bool).bind fun b7 => ifB b7 (getC c1 0 fun a8 => asL 8 a8 fun l9 => idx l9 n3 fun c10 => getC c2 0 fun a11 => asL 8 a11 fun l12 => idx l12 n4 fun c13 => (ref09_under (AV.agg 8 c10) (AV.agg 8 c13)).bind fun r14 => asB r14 fun b15 => ref09_Under.l1 (AV.boxv 1 c1 []) (AV.boxv 1 c2 []) (AV.int .i64 n3) (AV.bool b15) (AV.int .i64 (w64 (n4 + 1)))) (some (AV.bool false))) :=
  (loopAt_eq S 21 d21 [1, 0, 1, 0, 0, 1, 0, 0, 1, 0, 1, 0] _).trans (by kernel_rfl)
theorem ref09_Under.l1_eq2 (c1 : List AV) (c2 : List AV) (n3 : Int) (b4 : Bool) (n5 : Int) : ref09_Under.l1 (AV.boxv 1 c1 []) (AV.boxv 1 c2 []) (AV.int .i64 n3) (AV.bool b4) (AV.int .i64 n5) = (getC c2 0 fun a6 => asL 8 a6 fun l7 => (ifB (decide ((n5 : Int) < (List.length l7 : Int))) (some (!b4)) (some false) : Option Bool).bind fun b8 => ifB b8 (getC c1 0 fun a9 => asL 8 a9 fun l10 => idx l10 n3 fun c11 => getC c2 0 fun a12 => asL 8 a12 fun l13 => idx l13 n5 fun c14 => (ref09_under (AV.agg 8 c11) (AV.agg 8 c14)).bind fun r15 => asB r15 fun b16 => ref09_Under.l1 (AV.boxv 1 c1 []) (AV.boxv 1 c2 []) (AV.int .i64 n3) (AV.bool b16) (AV.int .i64 (w64 (n5 + 1)))) (ifB (!b4) (some (AV.bool false)) (ref09_Under.l0 (AV.boxv 1 c1 []) (AV.boxv 1 c2 []) (AV.int .i64 (w64 (n3 + 1)))))) :=
  (loopAt_eq S 21 d21 [1, 0, 1, 0, 0, 1, 0, 0, 1, 0, 1, 0] _).trans (by kernel_rfl)

/-! treillage/treillagelaw08.left: function 22 -/
noncomputable def d22 : FD := ⟨(Tryd.f22.body).getD .skip, Tryd.f22.results.toList, 77⟩
theorem run22 (l : List AV) : ωκ S 22 l = runM τ ann22 (ωκ S) [6] lpκ d22.code (look (argEnv 0 l)) (retV τ d22.rs) :=
  ωκ_run S 22 l d22 rfl (by show (Tryd.prog.funcs[22]?).bind toFD = _; rw [Tryd.func22]; rfl)
noncomputable def law08_left.l0 (a1 a2 a3 a7 : AV) : Option AV := loopAt S 22 d22 [1, 1, 0, 1, 0] (look [(1, a1), (2, a2), (3, a3), (7, a7)])
noncomputable def law08_left.l1 (a1 a2 a3 a7 a8 a9 : AV) : Option AV := loopAt S 22 d22 [1, 1, 0, 1, 0, 0, 1, 0, 0, 1, 1, 1, 1, 0] (look [(1, a1), (2, a2), (3, a3), (7, a7), (8, a8), (9, a9)])
theorem law08_left.f_eq (c1 : List AV) (n2 : Int) (n3 : Int) : law08_left (AV.agg 1 c1) (AV.int .i64 n2) (AV.int .i64 n3) = ((ifB (decide ((n2 : Int) = 0)) (some true) (getC c1 0 fun a5 => asL 8 a5 fun l6 => some (decide ((n3 : Int) < (List.length l6 : Int)))) : Option Bool).bind fun b4 => ifB b4 (some (AV.int .i64 (-1))) (law08_left.l0 (AV.int .i64 n2) (AV.int .i64 n3) (AV.boxv 1 c1 []) (AV.int .i64 0))) :=
  (run22 _).trans (by kernel_rfl)
theorem law08_left.l0_eq (n1 : Int) (n2 : Int) (c3 : List AV) (n4 : Int) : law08_left.l0 (AV.int .i64 n1) (AV.int .i64 n2) (AV.boxv 1 c3 []) (AV.int .i64 n4) = (getC c3 0 fun a5 => asL 8 a5 fun l6 => (ifB (decide ((n4 : Int) < (List.length l6 : Int))) (some (decide ((0 : Int) ≤ n2))) (some false) : Option Bool).bind fun b7 => ifB b7 (getC c3 0 fun a8 => asL 8 a8 fun l9 => idx l9 n4 fun c10 => getC c10 3 fun a11 => asS a11 fun s12 => (ifB (decide ((400 : Int) < (List.length s12 : Int))) (some true) (getC c10 7 fun a14 => asL 2 a14 fun l15 => some (decide ((100 : Int) < (List.length l15 : Int)))) : Option Bool).bind fun b13 => ifB b13 (some (AV.int .i64 (-1))) (law08_left.l1 (AV.int .i64 n1) (AV.int .i64 (w64 (n2 - 1))) (AV.boxv 1 c3 []) (AV.int .i64 n4) (AV.boxv 8 c10 []) (AV.int .i64 0))) (some (AV.int .i64 n2))) :=
  (loopAt_eq S 22 d22 [1, 1, 0, 1, 0] _).trans (by kernel_rfl)
theorem law08_left.l1_eq (n1 : Int) (n2 : Int) (c3 : List AV) (n4 : Int) (c5 : List AV) (n6 : Int) : law08_left.l1 (AV.int .i64 n1) (AV.int .i64 n2) (AV.boxv 1 c3 []) (AV.int .i64 n4) (AV.boxv 8 c5 []) (AV.int .i64 n6) = (getC c5 7 fun a7 => asL 2 a7 fun l8 => (ifB (decide ((n6 : Int) < (List.length l8 : Int))) (some (decide ((0 : Int) ≤ n2))) (some false) : Option Bool).bind fun b9 => ifB b9 (getC c5 7 fun a10 => asL 2 a10 fun l11 => idx l11 n6 fun c12 => getC c12 0 fun a13 => asS a13 fun s14 => ifB (decide ((100 : Int) < (List.length s14 : Int))) (some (AV.int .i64 (-1))) (getC c5 7 fun a15 => asL 2 a15 fun l16 => idx l16 n6 fun c17 => getC c17 1 fun a18 => (law08_left (AV.agg 1 [a18]) (AV.int .i64 (w64 (n1 - 1))) (AV.int .i64 n2)).bind fun r19 => asI .i64 r19 fun n20 => law08_left.l1 (AV.int .i64 n1) (AV.int .i64 n20) (AV.boxv 1 c3 []) (AV.int .i64 n4) (AV.boxv 8 c5 []) (AV.int .i64 (w64 (n6 + 1))))) (law08_left.l0 (AV.int .i64 n1) (AV.int .i64 n2) (AV.boxv 1 c3 []) (AV.int .i64 (w64 (n4 + 1))))) :=
  (loopAt_eq S 22 d22 [1, 1, 0, 1, 0, 0, 1, 0, 0, 1, 1, 1, 1, 0] _).trans (by kernel_rfl)

/-! treillage/lat.Right: function 23 -/
noncomputable def d23 : FD := ⟨(Tryd.f23.body).getD .skip, Tryd.f23.results.toList, 10⟩
theorem run23 (l : List AV) : ωκ S 23 l = runM τ (fun _ => none) (ωκ S) [2] lpκ d23.code (look (argEnv 0 l)) (retV τ d23.rs) :=
  ωκ_run S 23 l d23 rfl (by show (Tryd.prog.funcs[23]?).bind toFD = _; rw [Tryd.func23]; rfl)
theorem lat_Right.f_eq (c1 : List AV) : lat_Right (AV.agg 1 c1) = ((lat_listed (AV.agg 1 c1) (AV.int .i64 16)).bind fun r2 => asB r2 fun b3 => (ifB b3 ((rank_Weight (AV.agg 1 c1)).bind fun r5 => asI .i64 r5 fun n6 => some (decide ((n6 : Int) ≤ 512))) (some false) : Option Bool).bind fun b4 => some (AV.bool b4)) :=
  (run23 _).trans (by kernel_rfl)

/-! treillage/fact.all: function 24 -/
noncomputable def d24 : FD := ⟨(Tryd.f24.body).getD .skip, Tryd.f24.results.toList, 25⟩
theorem run24 (l : List AV) : ωκ S 24 l = runM τ (fun _ => none) (ωκ S) [4] lpκ d24.code (look (argEnv 0 l)) (retV τ d24.rs) :=
  ωκ_run S 24 l d24 rfl (by show (Tryd.prog.funcs[24]?).bind toFD = _; rw [Tryd.func24]; rfl)
theorem fact_all.f_eq (c1 : List AV) (f2 : Nat) (c3 : List AV) : fact_all (AV.agg 1 c1) (AV.fn f2 c3) = ((fact_one (AV.agg 1 c1)).bind fun r4 => asT2 r4 fun a5 a6 => asC 8 a5 fun c7 => asI .i64 a6 fun n8 => ifB (!decide ((n8 : Int) = 0)) (some (AV.bool false)) (getC c7 0 fun a9 => asI .i64 a9 fun n10 => ifB (!decide ((n10 : Int) = 4)) ((ωκ S f2 ([AV.agg 8 c7] ++ c3)).bind fun r11 => asB r11 fun b12 => some (AV.bool b12)) (getC c7 7 fun a13 => asL 2 a13 fun l14 => (slices_ContainsFunc__Field (AV.sl 2 l14) (AV.fn 41 [AV.eptr 1 [AV.fn f2 c3] 0])).bind fun r15 => asB r15 fun b16 => some (AV.bool (!b16))))) :=
  (run24 _).trans (by kernel_rfl)

/-! treillage/fact.Ready$1: function 25 -/
noncomputable def d25 : FD := ⟨(Tryd.f25.body).getD .skip, Tryd.f25.results.toList, 9⟩
theorem run25 (l : List AV) : ωκ S 25 l = runM τ (fun _ => none) (ωκ S) [2] lpκ d25.code (look (argEnv 0 l)) (retV τ d25.rs) :=
  ωκ_run S 25 l d25 rfl (by show (Tryd.prog.funcs[25]?).bind toFD = _; rw [Tryd.func25]; rfl)
theorem fact_Ready_1.f_eq (c1 : List AV) : fact_Ready_1 (AV.agg 8 c1) = (getC c1 5 fun a2 => asB a2 fun b3 => (ifB b3 (some true) ((scalar_Atom (AV.agg 8 c1)).bind fun r5 => asB r5 fun b6 => some b6) : Option Bool).bind fun b4 => some (AV.bool b4)) :=
  (run25 _).trans (by kernel_rfl)

/-! treillage/scalar.Atom: function 26 -/
noncomputable def d26 : FD := ⟨(Tryd.f26.body).getD .skip, Tryd.f26.results.toList, 9⟩
theorem run26 (l : List AV) : ωκ S 26 l = runM τ (fun _ => none) (ωκ S) [2] lpκ d26.code (look (argEnv 0 l)) (retV τ d26.rs) :=
  ωκ_run S 26 l d26 rfl (by show (Tryd.prog.funcs[26]?).bind toFD = _; rw [Tryd.func26]; rfl)
theorem scalar_Atom.f_eq (c1 : List AV) : scalar_Atom (AV.agg 8 c1) = ((scalar_Right (AV.agg 8 c1)).bind fun r2 => asB r2 fun b3 => (ifB b3 ((scalar_one (AV.agg 8 c1)).bind fun r5 => asB r5 fun b6 => some b6) (some false) : Option Bool).bind fun b4 => some (AV.bool b4)) :=
  (run26 _).trans (by kernel_rfl)

/-! treillage/apply.firm: function 29 -/
noncomputable def d29 : FD := ⟨(Tryd.f29.body).getD .skip, Tryd.f29.results.toList, 34⟩
theorem run29 (l : List AV) : ωκ S 29 l = runM τ (fun _ => none) (ωκ S) [] lpκ d29.code (look (argEnv 0 l)) (retV τ d29.rs) :=
  ωκ_run S 29 l d29 rfl (by show (Tryd.prog.funcs[29]?).bind toFD = _; rw [Tryd.func29]; rfl)
theorem apply_firm.f_eq (c1 : List AV) (n2 : Int) : apply_firm (AV.agg 8 c1) (AV.int .i64 n2) = (getC c1 0 fun a3 => asI .i64 a3 fun n4 => ifB (decide ((n4 : Int) = 1)) ((apply_modulo (AV.int .i64 n2) (AV.int .i64 2)).bind fun r5 => asI .i64 r5 fun n6 => (scalar_Truth (AV.bool (decide ((n6 : Int) = 1)))).bind fun r7 => asC 8 r7 fun c8 => some (AV.agg 8 c8)) (ifB (decide ((n4 : Int) = 2)) (getC c1 1 fun a9 => asI .i64 a9 fun n10 => getC c1 2 fun a11 => asI .i64 a11 fun n12 => getC c1 1 fun a13 => asI .i64 a13 fun n14 => (apply_modulo (AV.int .i64 n2) (AV.int .i64 (w64 ((w64 (n12 - n14)) + 1)))).bind fun r15 => asI .i64 r15 fun n16 => some (AV.agg 8 [AV.int .i64 2, AV.int .i64 (w64 (n10 + n16)), AV.int .i64 (w64 (n10 + n16)), AV.str [], AV.bool false, AV.bool false, AV.bool false, AV.sl 2 []])) ((num_Text (AV.int .i64 n2)).bind fun r17 => asS r17 fun s18 => guardK (Nat.ble (List.length [116] + List.length s18) lim) <| some (AV.agg 8 [AV.int .i64 3, AV.int .i64 0, AV.int .i64 0, AV.str ([116] ++ s18), AV.bool false, AV.bool false, AV.bool false, AV.sl 2 []])))) :=
  (run29 _).trans (by kernel_rfl)

/-! treillage/treillageref11.settled: function 30 -/
noncomputable def d30 : FD := ⟨(Tryd.f30.body).getD .skip, Tryd.f30.results.toList, 51⟩
theorem run30 (l : List AV) : ωκ S 30 l = runM τ ann30 (ωκ S) [4] lpκ d30.code (look (argEnv 0 l)) (retV τ d30.rs) :=
  ωκ_run S 30 l d30 rfl (by show (Tryd.prog.funcs[30]?).bind toFD = _; rw [Tryd.func30]; rfl)
noncomputable def ref11_settled.l0 (a1 a5 a6 : AV) : Option AV := loopAt S 30 d30 [1, 1, 1, 1, 0, 1, 0] (look [(1, a1), (5, a5), (6, a6)])
theorem ref11_settled.f_eq (c1 : List AV) (b2 : Bool) : ref11_settled (AV.agg 1 c1) (AV.bool b2) = (getC c1 0 fun a3 => asL 8 a3 fun l4 => (ifB (!decide (((List.length l4 : Int) : Int) = 1)) (some true) (getC c1 0 fun a6 => asL 8 a6 fun l7 => idx l7 0 fun c8 => getC c8 0 fun a9 => asI .i64 a9 fun n10 => some (decide ((n10 : Int) = 5))) : Option Bool).bind fun b5 => ifB b5 (some (AV.bool false)) (getC c1 0 fun a11 => asL 8 a11 fun l12 => idx l12 0 fun c13 => getC c13 0 fun a14 => asI .i64 a14 fun n15 => ifB (!decide ((n15 : Int) = 4)) ((ref07_Single (AV.agg 8 c13)).bind fun r16 => asB r16 fun b17 => (ifB b17 (some true) ((ifB b2 (getC c13 5 fun a20 => asB a20 fun b21 => some b21) (some false) : Option Bool).bind fun b19 => some b19) : Option Bool).bind fun b18 => some (AV.bool b18)) (ref11_settled.l0 (AV.bool b2) (AV.boxv 8 c13 []) (AV.int .i64 0)))) :=
  (run30 _).trans (by kernel_rfl)
theorem ref11_settled.l0_eq (b1 : Bool) (c2 : List AV) (n3 : Int) : ref11_settled.l0 (AV.bool b1) (AV.boxv 8 c2 []) (AV.int .i64 n3) = (getC c2 7 fun a4 => asL 2 a4 fun l5 => ifB (decide ((n3 : Int) < (List.length l5 : Int))) (getC c2 7 fun a6 => asL 2 a6 fun l7 => idx l7 n3 fun c8 => getC c8 1 fun a9 => (ref11_settled (AV.agg 1 [a9]) (AV.bool b1)).bind fun r10 => asB r10 fun b11 => ifB (!b11) (some (AV.bool false)) (ref11_settled.l0 (AV.bool b1) (AV.boxv 8 c2 []) (AV.int .i64 (w64 (n3 + 1))))) (some (AV.bool true))) :=
  (loopAt_eq S 30 d30 [1, 1, 1, 1, 0, 1, 0] _).trans (by kernel_rfl)

/-! treillage/treillageref35.atom: function 31 -/
noncomputable def d31 : FD := ⟨(Tryd.f31.body).getD .skip, Tryd.f31.results.toList, 35⟩
theorem run31 (l : List AV) : ωκ S 31 l = runM τ (fun _ => none) (ωκ S) [] lpκ d31.code (look (argEnv 0 l)) (retV τ d31.rs) :=
  ωκ_run S 31 l d31 rfl (by show (Tryd.prog.funcs[31]?).bind toFD = _; rw [Tryd.func31]; rfl)
theorem ref35_atom.f_eq (c1 : List AV) (n2 : Int) : ref35_atom (AV.agg 8 c1) (AV.int .i64 n2) = (getC c1 0 fun a3 => asI .i64 a3 fun n4 => ifB (decide ((n4 : Int) = 1)) ((ref35_mod (AV.int .i64 n2) (AV.int .i64 2)).bind fun r5 => asI .i64 r5 fun n6 => (ref35_mod (AV.int .i64 n2) (AV.int .i64 2)).bind fun r7 => asI .i64 r7 fun n8 => some (AV.agg 8 [AV.int .i64 1, AV.int .i64 n6, AV.int .i64 n8, AV.str [], AV.bool false, AV.bool false, AV.bool false, AV.sl 2 []])) (getC c1 0 fun a9 => asI .i64 a9 fun n10 => ifB (decide ((n10 : Int) = 2)) (getC c1 1 fun a11 => asI .i64 a11 fun n12 => getC c1 2 fun a13 => asI .i64 a13 fun n14 => getC c1 1 fun a15 => asI .i64 a15 fun n16 => (ref35_mod (AV.int .i64 n2) (AV.int .i64 (w64 ((w64 (n14 - n16)) + 1)))).bind fun r17 => asI .i64 r17 fun n18 => some (AV.agg 8 [AV.int .i64 2, AV.int .i64 (w64 (n12 + n18)), AV.int .i64 (w64 (n12 + n18)), AV.str [], AV.bool false, AV.bool false, AV.bool false, AV.sl 2 []])) ((ref01_Text (AV.int .i64 n2)).bind fun r19 => asS r19 fun s20 => guardK (Nat.ble (List.length [116] + List.length s20) lim) <| some (AV.agg 8 [AV.int .i64 3, AV.int .i64 0, AV.int .i64 0, AV.str ([116] ++ s20), AV.bool false, AV.bool false, AV.bool false, AV.sl 2 []])))) :=
  (run31 _).trans (by kernel_rfl)
end Go.Proofs.YtffojfcinkihnaaDoor.Abs
