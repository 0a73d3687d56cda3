/- What the code comes to, function by function (printed by gen.py). -/
import Derived.Test.YtffojfcinkihnaaDoorAbsT
set_option linter.unusedVariables false
set_option linter.unusedSimpArgs false
set_option linter.unusedSectionVars false
set_option linter.deprecated false
set_option linter.unnecessarySimpa false
namespace Go.Proofs.YtffojfcinkihnaaDoor.Abs
set_option linter.unusedVariables false
set_option maxRecDepth 100000

/-! treillage/treillageref08.Terms: function 32 -/
noncomputable def d32 : FD := ⟨(Tryd.f32.body).getD .skip, Tryd.f32.results.toList, 65⟩
theorem run32 (l : List AV) : ωκ S 32 l = runM τ ann32 (ωκ S) [4] lpκ d32.code (look (argEnv 0 l)) (retV τ d32.rs) :=
  ωκ_run S 32 l d32 rfl (by show (Tryd.prog.funcs[32]?).bind toFD = _; rw [Tryd.func32]; rfl)
noncomputable def ref08_Terms.l0 (a2 a3 a6 : AV) : Option AV := loopAt S 32 d32 [1, 1, 1, 0, 1, 0] (look [(2, a2), (3, a3), (6, a6)])
theorem ref08_Terms.f_eq (c1 : List AV) (c2 : List AV) : ref08_Terms (AV.agg 8 c1) (AV.agg 8 c2) = ((ref08_plain (AV.agg 8 c1) (AV.agg 8 c2)).bind fun r3 => asI .i64 r3 fun n4 => ifB (!decide ((n4 : Int) = 0)) (some (AV.int .i64 n4)) (ref08_Terms.l0 (AV.boxv 8 c1 []) (AV.boxv 8 c2 []) (AV.int .i64 0))) :=
  (run32 _).trans (by kernel_rfl)
theorem ref08_Terms.l0_eq (c1 : List AV) (c2 : List AV) (n3 : Int) : ref08_Terms.l0 (AV.boxv 8 c1 []) (AV.boxv 8 c2 []) (AV.int .i64 n3) = (getC c1 7 fun a4 => asL 2 a4 fun l5 => (ifB (decide ((n3 : Int) < (List.length l5 : Int))) (getC c2 7 fun a7 => asL 2 a7 fun l8 => some (decide ((n3 : Int) < (List.length l8 : Int)))) (some false) : Option Bool).bind fun b6 => ifB b6 (getC c1 7 fun a9 => asL 2 a9 fun l10 => idx l10 n3 fun c11 => getC c11 0 fun a12 => asS a12 fun s13 => getC c2 7 fun a14 => asL 2 a14 fun l15 => idx l15 n3 fun c16 => getC c16 0 fun a17 => asS a17 fun s18 => (ref08_texts (AV.str s13) (AV.str s18)).bind fun r19 => asI .i64 r19 fun n20 => ifB (decide ((n20 : Int) = 0)) (getC c1 7 fun a21 => asL 2 a21 fun l22 => idx l22 n3 fun c23 => getC c23 1 fun a24 => getC c2 7 fun a25 => asL 2 a25 fun l26 => idx l26 n3 fun c27 => getC c27 1 fun a28 => (ref08_Compare (AV.agg 1 [a24]) (AV.agg 1 [a28])).bind fun r29 => asI .i64 r29 fun n30 => ifB (!decide ((n30 : Int) = 0)) (some (AV.int .i64 n30)) (ref08_Terms.l0 (AV.boxv 8 c1 []) (AV.boxv 8 c2 []) (AV.int .i64 (w64 (n3 + 1))))) (ifB (!decide ((n20 : Int) = 0)) (some (AV.int .i64 n20)) (ref08_Terms.l0 (AV.boxv 8 c1 []) (AV.boxv 8 c2 []) (AV.int .i64 (w64 (n3 + 1)))))) (getC c1 7 fun a31 => asL 2 a31 fun l32 => getC c2 7 fun a33 => asL 2 a33 fun l34 => (ref08_nums (AV.int .i64 (List.length l32 : Int)) (AV.int .i64 (List.length l34 : Int))).bind fun r35 => asI .i64 r35 fun n36 => some (AV.int .i64 n36))) :=
  (loopAt_eq S 32 d32 [1, 1, 1, 0, 1, 0] _).trans (by kernel_rfl)

/-! treillage/treillageref08.nums: function 33 -/
noncomputable def d33 : FD := ⟨(Tryd.f33.body).getD .skip, Tryd.f33.results.toList, 11⟩
theorem run33 (l : List AV) : ωκ S 33 l = runM τ (fun _ => none) (ωκ S) [4] lpκ d33.code (look (argEnv 0 l)) (retV τ d33.rs) :=
  ωκ_run S 33 l d33 rfl (by show (Tryd.prog.funcs[33]?).bind toFD = _; rw [Tryd.func33]; rfl)
theorem ref08_nums.f_eq (n1 : Int) (n2 : Int) : ref08_nums (AV.int .i64 n1) (AV.int .i64 n2) = (ifB (decide ((n1 : Int) < n2)) (some (AV.int .i64 (-1))) (ifB (decide ((n2 : Int) < n1)) (some (AV.int .i64 1)) (some (AV.int .i64 0)))) :=
  (run33 _).trans (by kernel_rfl)

/-! treillage/treillageref08.Depth: function 34 -/
noncomputable def d34 : FD := ⟨(Tryd.f34.body).getD .skip, Tryd.f34.results.toList, 39⟩
theorem run34 (l : List AV) : ωκ S 34 l = runM τ ann34 (ωκ S) [2] lpκ d34.code (look (argEnv 0 l)) (retV τ d34.rs) :=
  ωκ_run S 34 l d34 rfl (by show (Tryd.prog.funcs[34]?).bind toFD = _; rw [Tryd.func34]; rfl)
noncomputable def ref08_Depth.l0 (a1 a3 a4 : AV) : Option AV := loopAt S 34 d34 [1, 1, 0, 1, 0] (look [(1, a1), (3, a3), (4, a4)])
noncomputable def ref08_Depth.l1 (a1 a3 a4 a5 a6 : AV) : Option AV := loopAt S 34 d34 [1, 1, 0, 1, 0, 0, 1, 0, 0, 1, 1, 0] (look [(1, a1), (3, a3), (4, a4), (5, a5), (6, a6)])
theorem ref08_Depth.f_eq (c1 : List AV) : ref08_Depth (AV.agg 1 c1) = (ref08_Depth.l0 (AV.boxv 1 c1 []) (AV.int .i64 0) (AV.int .i64 0)) :=
  (run34 _).trans (by kernel_rfl)
theorem ref08_Depth.l0_eq (c1 : List AV) (n2 : Int) (n3 : Int) : ref08_Depth.l0 (AV.boxv 1 c1 []) (AV.int .i64 n2) (AV.int .i64 n3) = (getC c1 0 fun a4 => asL 8 a4 fun l5 => ifB (decide ((n3 : Int) < (List.length l5 : Int))) (getC c1 0 fun a6 => asL 8 a6 fun l7 => idx l7 n3 fun c8 => getC c8 7 fun a9 => asL 2 a9 fun l10 => ref08_Depth.l1 (AV.boxv 1 c1 []) (AV.int .i64 n2) (AV.int .i64 n3) (AV.sl 2 l10) (AV.int .i64 0)) (some (AV.int .i64 (w64 (1 + n2))))) :=
  (loopAt_eq S 34 d34 [1, 1, 0, 1, 0] _).trans (by kernel_rfl)
theorem ref08_Depth.l1_eq (c1 : List AV) (n2 : Int) (n3 : Int) (l4 : List (List AV)) (n5 : Int) : ref08_Depth.l1 (AV.boxv 1 c1 []) (AV.int .i64 n2) (AV.int .i64 n3) (AV.sl 2 l4) (AV.int .i64 n5) = (ifB (decide ((n5 : Int) < (List.length l4 : Int))) (idx l4 n5 fun c6 => getC c6 1 fun a7 => (ref08_Depth (AV.agg 1 [a7])).bind fun r8 => asI .i64 r8 fun n9 => ifB (decide ((n2 : Int) < n9)) (ref08_Depth.l1 (AV.boxv 1 c1 []) (AV.int .i64 n9) (AV.int .i64 n3) (AV.sl 2 l4) (AV.int .i64 (w64 (n5 + 1)))) (ref08_Depth.l1 (AV.boxv 1 c1 []) (AV.int .i64 n2) (AV.int .i64 n3) (AV.sl 2 l4) (AV.int .i64 (w64 (n5 + 1))))) (ref08_Depth.l0 (AV.boxv 1 c1 []) (AV.int .i64 n2) (AV.int .i64 (w64 (n3 + 1))))) :=
  (loopAt_eq S 34 d34 [1, 1, 0, 1, 0, 0, 1, 0, 0, 1, 1, 0] _).trans (by kernel_rfl)

/-! treillage/treillageref09.Term: function 35 -/
noncomputable def d35 : FD := ⟨(Tryd.f35.body).getD .skip, Tryd.f35.results.toList, 75⟩
theorem run35 (l : List AV) : ωκ S 35 l = runM τ ann35 (ωκ S) [2] lpκ d35.code (look (argEnv 0 l)) (retV τ d35.rs) :=
  ωκ_run S 35 l d35 rfl (by show (Tryd.prog.funcs[35]?).bind toFD = _; rw [Tryd.func35]; rfl)
noncomputable def ref09_Term.l0 (a1 a3 : AV) : Option AV := loopAt S 35 d35 [1, 1, 1, 1, 0, 1, 0] (look [(1, a1), (3, a3)])
theorem ref09_Term.f_eq (c1 : List AV) : ref09_Term (AV.agg 8 c1) = (getC c1 0 fun a2 => asI .i64 a2 fun n3 => ifB (decide ((n3 : Int) = 5)) ((ref08_Terms (AV.agg 8 c1) (AV.agg 8 [AV.int .i64 5, AV.int .i64 0, AV.int .i64 0, AV.str [], AV.bool false, AV.bool false, AV.bool false, AV.sl 2 []])).bind fun r4 => asI .i64 r4 fun n5 => some (AV.bool (decide ((n5 : Int) = 0)))) (getC c1 0 fun a6 => asI .i64 a6 fun n7 => ifB (!decide ((n7 : Int) = 4)) ((ref07_Right (AV.agg 8 c1)).bind fun r8 => asB r8 fun b9 => some (AV.bool b9)) (getC c1 1 fun a10 => asI .i64 a10 fun n11 => (ifB (!decide ((n11 : Int) = 0)) (some true) (getC c1 2 fun a13 => asI .i64 a13 fun n14 => some (!decide ((n14 : Int) = 0))) : Option Bool).bind fun b12 => (ifB b12 (some true) (getC c1 3 fun a16 => asS a16 fun s17 => some (!decide ((s17 : List UInt8) = []))) : Option Bool).bind fun b15 => (ifB b15 (some true) (getC c1 4 fun a19 => asB a19 fun b20 => some b20) : Option Bool).bind fun b18 => (ifB b18 (some true) (getC c1 5 fun a22 => asB a22 fun b23 => some b23) : Option Bool).bind fun b21 => (ifB b21 (some true) (getC c1 7 fun a25 => asL 2 a25 fun l26 => some (decide ((32 : Int) < (List.length l26 : Int)))) : Option Bool).bind fun b24 => (ifB b24 (some true) (getC c1 7 fun a28 => asL 2 a28 fun l29 => (ref09_names (AV.sl 2 l29)).bind fun r30 => asB r30 fun b31 => some (!b31)) : Option Bool).bind fun b27 => ifB b27 (some (AV.bool false)) (ref09_Term.l0 (AV.boxv 8 c1 []) (AV.int .i64 0))))) :=
  (run35 _).trans (by kernel_rfl)
theorem ref09_Term.l0_eq (c1 : List AV) (n2 : Int) : ref09_Term.l0 (AV.boxv 8 c1 []) (AV.int .i64 n2) = (getC c1 7 fun a3 => asL 2 a3 fun l4 => ifB (decide ((n2 : Int) < (List.length l4 : Int))) (getC c1 7 fun a5 => asL 2 a5 fun l6 => idx l6 n2 fun c7 => getC c7 1 fun a8 => asL 8 a8 fun l9 => (ifB (decide (((List.length l9 : Int) : Int) = 0)) (some true) (getC c1 7 fun a11 => asL 2 a11 fun l12 => idx l12 n2 fun c13 => getC c13 1 fun a14 => (ref09_Right (AV.agg 1 [a14])).bind fun r15 => asB r15 fun b16 => some (!b16)) : Option Bool).bind fun b10 => ifB b10 (some (AV.bool false)) (ref09_Term.l0 (AV.boxv 8 c1 []) (AV.int .i64 (w64 (n2 + 1))))) (some (AV.bool true))) :=
  (loopAt_eq S 35 d35 [1, 1, 1, 1, 0, 1, 0] _).trans (by kernel_rfl)

/-! treillage/treillageref09.under: function 36 -/
noncomputable def d36 : FD := ⟨(Tryd.f36.body).getD .skip, Tryd.f36.results.toList, 85⟩
theorem run36 (l : List AV) : ωκ S 36 l = runM τ ann36 (ωκ S) [4] lpκ d36.code (look (argEnv 0 l)) (retV τ d36.rs) :=
  ωκ_run S 36 l d36 rfl (by show (Tryd.prog.funcs[36]?).bind toFD = _; rw [Tryd.func36]; rfl)
noncomputable def ref09_under.l0 (a2 a3 a5 : AV) : Option AV := loopAt S 36 d36 [1, 1, 1, 1, 0, 1, 0] (look [(2, a2), (3, a3), (5, a5)])
noncomputable def ref09_under.l1 (a2 a3 a6 : AV) : Option AV := loopAt S 36 d36 [1, 1, 1, 1, 1, 0, 1, 0] (look [(2, a2), (3, a3), (6, a6)])
theorem ref09_under.f_eq (c1 : List AV) (c2 : List AV) : ref09_under (AV.agg 8 c1) (AV.agg 8 c2) = (getC c2 0 fun a3 => asI .i64 a3 fun n4 => ifB (decide ((n4 : Int) = 5)) (some (AV.bool true)) (getC c1 0 fun a5 => asI .i64 a5 fun n6 => (ifB (!decide ((n6 : Int) = 4)) (some true) (getC c2 0 fun a8 => asI .i64 a8 fun n9 => some (!decide ((n9 : Int) = 4))) : Option Bool).bind fun b7 => ifB b7 ((ref07_Below (AV.agg 8 c1) (AV.agg 8 c2)).bind fun r10 => asB r10 fun b11 => some (AV.bool b11)) (getC c1 6 fun a12 => asB a12 fun b13 => (ifB b13 (getC c2 6 fun a15 => asB a15 fun b16 => some (!b16)) (some false) : Option Bool).bind fun b14 => ifB b14 (some (AV.bool false)) (ref09_under.l0 (AV.boxv 8 c1 []) (AV.boxv 8 c2 []) (AV.int .i64 0))))) :=
  (run36 _).trans (by kernel_rfl)
theorem ref09_under.l0_eq (c1 : List AV) (c2 : List AV) (n3 : Int) : ref09_under.l0 (AV.boxv 8 c1 []) (AV.boxv 8 c2 []) (AV.int .i64 n3) = (getC c1 7 fun a4 => asL 2 a4 fun l5 => (ifB (decide ((n3 : Int) < (List.length l5 : Int))) (getC c2 6 fun a7 => asB a7 fun b8 => some (!b8)) (some false) : Option Bool).bind fun b6 => ifB b6 (getC c2 7 fun a9 => asL 2 a9 fun l10 => getC c1 7 fun a11 => asL 2 a11 fun l12 => idx l12 n3 fun c13 => getC c13 0 fun a14 => asS a14 fun s15 => (ref09_Find (AV.sl 2 l10) (AV.str s15)).bind fun r16 => asI .i64 r16 fun n17 => ifB (decide ((n17 : Int) < 0)) (some (AV.bool false)) (ref09_under.l0 (AV.boxv 8 c1 []) (AV.boxv 8 c2 []) (AV.int .i64 (w64 (n3 + 1))))) (ref09_under.l1 (AV.boxv 8 c1 []) (AV.boxv 8 c2 []) (AV.int .i64 0))) :=
  (loopAt_eq S 36 d36 [1, 1, 1, 1, 0, 1, 0] _).trans (by kernel_rfl)
theorem ref09_under.l1_eq (c1 : List AV) (c2 : List AV) (n3 : Int) : ref09_under.l1 (AV.boxv 8 c1 []) (AV.boxv 8 c2 []) (AV.int .i64 n3) = (getC c2 7 fun a4 => asL 2 a4 fun l5 => ifB (decide ((n3 : Int) < (List.length l5 : Int))) (getC c1 7 fun a6 => asL 2 a6 fun l7 => getC c2 7 fun a8 => asL 2 a8 fun l9 => idx l9 n3 fun c10 => getC c10 0 fun a11 => asS a11 fun s12 => (ref09_Find (AV.sl 2 l7) (AV.str s12)).bind fun r13 => asI .i64 r13 fun n14 => (ifB (decide ((n14 : Int) < 0)) (some true) (getC c1 7 fun a16 => asL 2 a16 fun l17 => idx l17 n14 fun c18 => getC c18 1 fun a19 => getC c2 7 fun a20 => asL 2 a20 fun l21 => idx l21 n3 fun c22 => getC c22 1 fun a23 => (ref09_Under (AV.agg 1 [a19]) (AV.agg 1 [a23])).bind fun r24 => asB r24 fun b25 => some (!b25)) : Option Bool).bind fun b15 => ifB b15 (some (AV.bool false)) (ref09_under.l1 (AV.boxv 8 c1 []) (AV.boxv 8 c2 []) (AV.int .i64 (w64 (n3 + 1))))) (some (AV.bool true))) :=
  (loopAt_eq S 36 d36 [1, 1, 1, 1, 1, 0, 1, 0] _).trans (by kernel_rfl)

/-! treillage/lat.listed: function 37 -/
noncomputable def d37 : FD := ⟨(Tryd.f37.body).getD .skip, Tryd.f37.results.toList, 73⟩
theorem run37 (l : List AV) : ωκ S 37 l = runM τ ann37 (ωκ S) [4] lpκ d37.code (look (argEnv 0 l)) (retV τ d37.rs) :=
  ωκ_run S 37 l d37 rfl (by show (Tryd.prog.funcs[37]?).bind toFD = _; rw [Tryd.func37]; rfl)
noncomputable def lat_listed.l0 (a1 a2 a20 a21 a22 : AV) : Option AV := loopAt S 37 d37 [1, 1, 0, 1, 0] (look [(1, a1), (2, a2), (20, a20), (21, a21), (22, a22)])
noncomputable def lat_listed.l1 (a2 a48 a49 a50 : AV) : Option AV := loopAt S 37 d37 [1, 1, 1, 0, 1, 0] (look [(2, a2), (48, a48), (49, a49), (50, a50)])
noncomputable def lat_listed.l2 (a2 a7 a8 a48 a49 a50 a56 a57 a58 : AV) : Option AV := loopAt S 37 d37 [1, 1, 1, 0, 1, 0, 0, 1, 1, 0, 0, 1, 1, 0] (look [(2, a2), (7, a7), (8, a8), (48, a48), (49, a49), (50, a50), (56, a56), (57, a57), (58, a58)])
theorem lat_listed.f_eq (c1 : List AV) (n2 : Int) : lat_listed (AV.agg 1 c1) (AV.int .i64 n2) = ((ifB (decide ((n2 : Int) < 1)) (some true) (getC c1 0 fun a4 => asL 8 a4 fun l5 => some (decide ((512 : Int) < (List.length l5 : Int)))) : Option Bool).bind fun b3 => ifB b3 (some (AV.bool false)) (getC c1 0 fun a6 => asL 8 a6 fun l7 => lat_listed.l0 (AV.int .i64 n2) (AV.boxv 1 c1 []) (AV.sl 8 l7) (AV.int .i64 (List.length l7 : Int)) (AV.int .i64 0))) :=
  (run37 _).trans (by kernel_rfl)
theorem lat_listed.l0_eq (n1 : Int) (c2 : List AV) (l3 : List (List AV)) (n4 : Int) (n5 : Int) : lat_listed.l0 (AV.int .i64 n1) (AV.boxv 1 c2 []) (AV.sl 8 l3) (AV.int .i64 n4) (AV.int .i64 n5) = (ifB (decide ((n5 : Int) < n4)) (idx l3 n5 fun c6 => (lat_shaped (AV.agg 8 c6) (AV.int .i64 n1)).bind fun r7 => asB r7 fun b8 => (ifB (!b8) (some true) ((ifB (decide ((0 : Int) < n5)) (getC c2 0 fun a11 => asL 8 a11 fun l12 => idx l12 (w64 (n5 - 1)) fun c13 => (rank_Terms (AV.agg 8 c13) (AV.agg 8 c6)).bind fun r14 => asI .i64 r14 fun n15 => some (decide ((0 : Int) ≤ n15))) (some false) : Option Bool).bind fun b10 => some b10) : Option Bool).bind fun b9 => ifB b9 (some (AV.bool false)) (lat_listed.l0 (AV.int .i64 n1) (AV.boxv 1 c2 []) (AV.sl 8 l3) (AV.int .i64 n4) (AV.int .i64 (w64 (n5 + 1))))) (getC c2 0 fun a16 => asL 8 a16 fun l17 => lat_listed.l1 (AV.boxv 1 c2 []) (AV.sl 8 l17) (AV.int .i64 (List.length l17 : Int)) (AV.int .i64 0))) :=
  (loopAt_eq S 37 d37 [1, 1, 0, 1, 0] _).trans (by kernel_rfl)
theorem lat_listed.l1_eq (c1 : List AV) (l2 : List (List AV)) (n3 : Int) (n4 : Int) : lat_listed.l1 (AV.boxv 1 c1 []) (AV.sl 8 l2) (AV.int .i64 n3) (AV.int .i64 n4) = (ifB (decide ((n4 : Int) < n3)) (idx l2 n4 fun c5 => getC c1 0 fun a6 => asL 8 a6 fun l7 => lat_listed.l2 (AV.boxv 1 c1 []) (AV.int .i64 n4) (AV.boxv 8 c5 []) (AV.sl 8 l2) (AV.int .i64 n3) (AV.int .i64 n4) (AV.sl 8 l7) (AV.int .i64 (List.length l7 : Int)) (AV.int .i64 0)) (some (AV.bool true))) :=
  (loopAt_eq S 37 d37 [1, 1, 1, 0, 1, 0] _).trans (by kernel_rfl)
theorem lat_listed.l2_eq (c1 : List AV) (n2 : Int) (c3 : List AV) (l4 : List (List AV)) (n5 : Int) (n6 : Int) (l7 : List (List AV)) (n8 : Int) (n9 : Int) : lat_listed.l2 (AV.boxv 1 c1 []) (AV.int .i64 n2) (AV.boxv 8 c3 []) (AV.sl 8 l4) (AV.int .i64 n5) (AV.int .i64 n6) (AV.sl 8 l7) (AV.int .i64 n8) (AV.int .i64 n9) = (ifB (decide ((n9 : Int) < n8)) (idx l7 n9 fun c10 => (ifB (!decide ((n2 : Int) = n9)) ((lat_below (AV.agg 8 c3) (AV.agg 8 c10)).bind fun r12 => asB r12 fun b13 => some b13) (some false) : Option Bool).bind fun b11 => ifB b11 (some (AV.bool false)) (lat_listed.l2 (AV.boxv 1 c1 []) (AV.int .i64 n2) (AV.boxv 8 c3 []) (AV.sl 8 l4) (AV.int .i64 n5) (AV.int .i64 n6) (AV.sl 8 l7) (AV.int .i64 n8) (AV.int .i64 (w64 (n9 + 1))))) (lat_listed.l1 (AV.boxv 1 c1 []) (AV.sl 8 l4) (AV.int .i64 n5) (AV.int .i64 (w64 (n6 + 1))))) :=
  (loopAt_eq S 37 d37 [1, 1, 1, 0, 1, 0, 0, 1, 1, 0, 0, 1, 1, 0] _).trans (by kernel_rfl)

/-! treillage/rank.Weight: function 38 -/
noncomputable def d38 : FD := ⟨(Tryd.f38.body).getD .skip, Tryd.f38.results.toList, 33⟩
theorem run38 (l : List AV) : ωκ S 38 l = runM τ ann38 (ωκ S) [2] lpκ d38.code (look (argEnv 0 l)) (retV τ d38.rs) :=
  ωκ_run S 38 l d38 rfl (by show (Tryd.prog.funcs[38]?).bind toFD = _; rw [Tryd.func38]; rfl)
noncomputable def rank_Weight.l0 (a3 a12 a13 a14 : AV) : Option AV := loopAt S 38 d38 [1, 1, 0, 1, 0] (look [(3, a3), (12, a12), (13, a13), (14, a14)])
noncomputable def rank_Weight.l1 (a3 a12 a13 a14 a19 a20 a21 : AV) : Option AV := loopAt S 38 d38 [1, 1, 0, 1, 0, 0, 1, 1, 0, 0, 1, 1, 0] (look [(3, a3), (12, a12), (13, a13), (14, a14), (19, a19), (20, a20), (21, a21)])
theorem rank_Weight.f_eq (c1 : List AV) : rank_Weight (AV.agg 1 c1) = (getC c1 0 fun a2 => asL 8 a2 fun l3 => getC c1 0 fun a4 => asL 8 a4 fun l5 => rank_Weight.l0 (AV.int .i64 (List.length l3 : Int)) (AV.sl 8 l5) (AV.int .i64 (List.length l5 : Int)) (AV.int .i64 0)) :=
  (run38 _).trans (by kernel_rfl)
theorem rank_Weight.l0_eq (n1 : Int) (l2 : List (List AV)) (n3 : Int) (n4 : Int) : rank_Weight.l0 (AV.int .i64 n1) (AV.sl 8 l2) (AV.int .i64 n3) (AV.int .i64 n4) = (ifB (decide ((n4 : Int) < n3)) (idx l2 n4 fun c5 => getC c5 7 fun a6 => asL 2 a6 fun l7 => rank_Weight.l1 (AV.int .i64 n1) (AV.sl 8 l2) (AV.int .i64 n3) (AV.int .i64 n4) (AV.sl 2 l7) (AV.int .i64 (List.length l7 : Int)) (AV.int .i64 0)) (some (AV.int .i64 n1))) :=
  (loopAt_eq S 38 d38 [1, 1, 0, 1, 0] _).trans (by kernel_rfl)
theorem rank_Weight.l1_eq (n1 : Int) (l2 : List (List AV)) (n3 : Int) (n4 : Int) (l5 : List (List AV)) (n6 : Int) (n7 : Int) : rank_Weight.l1 (AV.int .i64 n1) (AV.sl 8 l2) (AV.int .i64 n3) (AV.int .i64 n4) (AV.sl 2 l5) (AV.int .i64 n6) (AV.int .i64 n7) = (ifB (decide ((n7 : Int) < n6)) (idx l5 n7 fun c8 => getC c8 1 fun a9 => (rank_Weight (AV.agg 1 [(frz a9)])).bind fun r10 => asI .i64 r10 fun n11 => rank_Weight.l1 (AV.int .i64 (w64 (n1 + n11))) (AV.sl 8 l2) (AV.int .i64 n3) (AV.int .i64 n4) (AV.sl 2 l5) (AV.int .i64 n6) (AV.int .i64 (w64 (n7 + 1)))) (rank_Weight.l0 (AV.int .i64 n1) (AV.sl 8 l2) (AV.int .i64 n3) (AV.int .i64 (w64 (n4 + 1))))) :=
  (loopAt_eq S 38 d38 [1, 1, 0, 1, 0, 0, 1, 1, 0, 0, 1, 1, 0] _).trans (by kernel_rfl)

/-! treillage/fact.one: function 39 -/
noncomputable def d39 : FD := ⟨(Tryd.f39.body).getD .skip, Tryd.f39.results.toList, 28⟩
theorem run39 (l : List AV) : ωκ S 39 l = runM τ (fun _ => none) (ωκ S) [3] lpκ d39.code (look (argEnv 0 l)) (retV τ d39.rs) :=
  ωκ_run S 39 l d39 rfl (by show (Tryd.prog.funcs[39]?).bind toFD = _; rw [Tryd.func39]; rfl)
theorem fact_one.f_eq (c1 : List AV) : fact_one (AV.agg 1 c1) = (getC c1 0 fun a2 => asL 8 a2 fun l3 => ifB (decide (((List.length l3 : Int) : Int) = 0)) (some (.tup [AV.agg 8 [AV.int .i64 0, AV.int .i64 0, AV.int .i64 0, AV.str [], AV.bool false, AV.bool false, AV.bool false, AV.sl 2 []], AV.int .i64 31])) (getC c1 0 fun a4 => asL 8 a4 fun l5 => (ifB (decide ((1 : Int) < (List.length l5 : Int))) (some true) (getC c1 0 fun a7 => asL 8 a7 fun l8 => idx l8 0 fun c9 => getC c9 0 fun a10 => asI .i64 a10 fun n11 => some (decide ((n11 : Int) = 5))) : Option Bool).bind fun b6 => ifB b6 (some (.tup [AV.agg 8 [AV.int .i64 0, AV.int .i64 0, AV.int .i64 0, AV.str [], AV.bool false, AV.bool false, AV.bool false, AV.sl 2 []], AV.int .i64 28])) (getC c1 0 fun a12 => asL 8 a12 fun l13 => idx l13 0 fun c14 => some (.tup [AV.agg 8 c14, AV.int .i64 0])))) :=
  (run39 _).trans (by kernel_rfl)

/-! slices.ContainsFunc[[]treillage/api.Field,treillage/api.Field]: function 40 -/
noncomputable def d40 : FD := ⟨(Tryd.f40.body).getD .skip, Tryd.f40.results.toList, 9⟩
theorem run40 (l : List AV) : ωκ S 40 l = runM τ (fun _ => none) (ωκ S) [4] lpκ d40.code (look (argEnv 0 l)) (retV τ d40.rs) :=
  ωκ_run S 40 l d40 rfl (by show (Tryd.prog.funcs[40]?).bind toFD = _; rw [Tryd.func40]; rfl)
theorem slices_ContainsFunc__Field.f_eq (l1 : List (List AV)) (f2 : Nat) (c3 : List AV) : slices_ContainsFunc__Field (AV.sl 2 l1) (AV.fn f2 c3) = ((slices_IndexFunc__Field (AV.sl 2 l1) (AV.fn f2 c3)).bind fun r4 => asI .i64 r4 fun n5 => some (AV.bool (decide ((0 : Int) ≤ n5)))) :=
  (run40 _).trans (by kernel_rfl)

/-! treillage/fact.all$1: function 41 -/
noncomputable def d41 : FD := ⟨(Tryd.f41.body).getD .skip, Tryd.f41.results.toList, 9⟩
theorem run41 (l : List AV) : ωκ S 41 l = runM τ (fun _ => none) (ωκ S) [3] lpκ d41.code (look (argEnv 0 l)) (retV τ d41.rs) :=
  ωκ_run S 41 l d41 rfl (by show (Tryd.prog.funcs[41]?).bind toFD = _; rw [Tryd.func41]; rfl)
theorem fact_all_1.f_eq (c1 : List AV) (f2 : Nat) (c3 : List AV) : fact_all_1 (AV.agg 2 c1) (AV.eptr 1 [AV.fn f2 c3] 0) = (getC c1 1 fun a4 => (fact_all (AV.agg 1 [(frz a4)]) (AV.fn f2 c3)).bind fun r5 => asB r5 fun b6 => some (AV.bool (!b6))) :=
  (run41 _).trans (by kernel_rfl)

/-! treillage/scalar.Right: function 42 -/
noncomputable def d42 : FD := ⟨(Tryd.f42.body).getD .skip, Tryd.f42.results.toList, 79⟩
theorem run42 (l : List AV) : ωκ S 42 l = runM τ ann42 (ωκ S) [2] lpκ d42.code (look (argEnv 0 l)) (retV τ d42.rs) :=
  ωκ_run S 42 l d42 rfl (by show (Tryd.prog.funcs[42]?).bind toFD = _; rw [Tryd.func42]; rfl)
noncomputable def scalar_Right.j0 (a1 a3 a4 : AV) : Option AV := joinAt S 42 d42 [1, 1, 1, 1, 0, 1, 0] (look [(1, a1), (3, a3), (4, a4)])
theorem scalar_Right.f_eq (c1 : List AV) : scalar_Right (AV.agg 8 c1) = ((scalar_bare (AV.agg 8 c1)).bind fun r2 => asB r2 fun b3 => (ifB (!b3) (some true) (getC c1 5 fun a5 => asB a5 fun b6 => (ifB b6 ((scalar_one (AV.agg 8 c1)).bind fun r8 => asB r8 fun b9 => some b9) (some false) : Option Bool).bind fun b7 => some b7) : Option Bool).bind fun b4 => ifB b4 (some (AV.bool false)) (getC c1 0 fun a10 => asI .i64 a10 fun n11 => ifB (decide ((n11 : Int) = 3)) (getC c1 1 fun a12 => asI .i64 a12 fun n13 => (ifB (decide ((n13 : Int) = 0)) (getC c1 2 fun a15 => asI .i64 a15 fun n16 => some (decide ((n16 : Int) = 0))) (some false) : Option Bool).bind fun b14 => (ifB b14 (getC c1 4 fun a18 => asB a18 fun b19 => (ifB b19 (getC c1 3 fun a21 => asS a21 fun s22 => some (decide ((s22 : List UInt8) = []))) (some false) : Option Bool).bind fun b20 => (ifB b20 (some true) (getC c1 4 fun a24 => asB a24 fun b25 => (ifB (!b25) (getC c1 3 fun a27 => asS a27 fun s28 => some (decide (((List.length s28 : Int) : Int) ≤ 256))) (some false) : Option Bool).bind fun b26 => some b26) : Option Bool).bind fun b23 => some b23) (some false) : Option Bool).bind fun b17 => some (AV.bool b17)) (ifB (decide ((n11 : Int) = 2)) (scalar_Right.j0 (AV.boxv 8 c1 []) (AV.int .i64 9007199254740992) (AV.int .i64 (-9007199254740992))) (ifB (decide ((n11 : Int) = 1)) (scalar_Right.j0 (AV.boxv 8 c1 []) (AV.int .i64 1) (AV.int .i64 0)) (some (AV.bool false)))))) :=
  (run42 _).trans (by kernel_rfl)
theorem scalar_Right.j0_eq (c1 : List AV) (n2 : Int) (n3 : Int) : scalar_Right.j0 (AV.boxv 8 c1 []) (AV.int .i64 n2) (AV.int .i64 n3) = (getC c1 1 fun a4 => asI .i64 a4 fun n5 => (ifB (decide ((n3 : Int) ≤ n5)) (getC c1 1 fun a7 => asI .i64 a7 fun n8 => getC c1 2 fun a9 => asI .i64 a9 fun n10 => some (decide ((n8 : Int) ≤ n10))) (some false) : Option Bool).bind fun b6 => (ifB b6 (getC c1 2 fun a12 => asI .i64 a12 fun n13 => some (decide ((n13 : Int) ≤ n2))) (some false) : Option Bool).bind fun b11 => (ifB b11 (getC c1 3 fun a15 => asS a15 fun s16 => some (decide ((s16 : List UInt8) = []))) (some false) : Option Bool).bind fun b14 => (ifB b14 (getC c1 4 fun a18 => asB a18 fun b19 => some (!b19)) (some false) : Option Bool).bind fun b17 => some (AV.bool b17)) :=
  (joinAt_eq S 42 d42 [1, 1, 1, 1, 0, 1, 0] _).trans (by kernel_rfl)

/-! treillage/scalar.one: function 43 -/
noncomputable def d43 : FD := ⟨(Tryd.f43.body).getD .skip, Tryd.f43.results.toList, 14⟩
theorem run43 (l : List AV) : ωκ S 43 l = runM τ (fun _ => none) (ωκ S) [2] lpκ d43.code (look (argEnv 0 l)) (retV τ d43.rs) :=
  ωκ_run S 43 l d43 rfl (by show (Tryd.prog.funcs[43]?).bind toFD = _; rw [Tryd.func43]; rfl)
theorem scalar_one.f_eq (c1 : List AV) : scalar_one (AV.agg 8 c1) = (getC c1 0 fun a2 => asI .i64 a2 fun n3 => ifB (decide ((n3 : Int) = 3)) (getC c1 4 fun a4 => asB a4 fun b5 => some (AV.bool (!b5))) (getC c1 1 fun a6 => asI .i64 a6 fun n7 => getC c1 2 fun a8 => asI .i64 a8 fun n9 => some (AV.bool (decide ((n7 : Int) = n9))))) :=
  (run43 _).trans (by kernel_rfl)
end Go.Proofs.YtffojfcinkihnaaDoor.Abs
