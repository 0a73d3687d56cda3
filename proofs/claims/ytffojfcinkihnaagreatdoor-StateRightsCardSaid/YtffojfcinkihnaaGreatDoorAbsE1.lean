/- What the code comes to, function by function (printed by gen.py). -/
import Derived.Test.YtffojfcinkihnaaGreatDoorAbsT
set_option linter.unusedVariables false
set_option linter.unusedSimpArgs false
set_option linter.unusedSectionVars false
set_option linter.deprecated false
set_option linter.unnecessarySimpa false
namespace Go.Proofs.YtffojfcinkihnaaGreatDoor.Abs
set_option linter.unusedVariables false
set_option maxRecDepth 100000

/-! treillage/treillageref30.Right: function 18 -/
noncomputable def d18 : FD := ⟨(Tryz.f18.body).getD .skip, Tryz.f18.results.toList, 71⟩
theorem run18 (l : List AV) : ωκ S 18 l = runM τ ann18 (ωκ S) [2] lpκ d18.code (look (argEnv 0 l)) (retV τ d18.rs) :=
  ωκ_run S 18 l d18 rfl (by show (Tryz.prog.funcs[18]?).bind toFD = _; rw [Tryz.func18]; rfl)
noncomputable def ref30_Right.l0 (a0 a3 : AV) : Option AV := loopAt S 18 d18 [1, 0, 1, 0] (look [(0, a0), (3, a3)])
theorem ref30_Right.f_eq (l1 : List (List AV)) : ref30_Right (AV.sl 3 l1) = (ref30_Right.l0 (AV.sl 3 l1) (AV.int .i64 0)) :=
  (run18 _).trans (by kernel_rfl)
theorem ref30_Right.l0_eq (l1 : List (List AV)) (n2 : Int) : ref30_Right.l0 (AV.sl 3 l1) (AV.int .i64 n2) = (ifB (decide ((n2 : Int) < (List.length l1 : Int))) (idx l1 n2 fun c3 => getC c3 1 fun a4 => (ref11_One (AV.agg 1 [(frz a4)])).bind fun r5 => asT2 r5 fun a6 a7 => asC 8 a6 fun c8 => asI .i64 a7 fun n9 => (ifB (!decide ((n9 : Int) = 0)) (some true) (getC c8 0 fun a11 => asI .i64 a11 fun n12 => some (!decide ((n12 : Int) = 4))) : Option Bool).bind fun b10 => (ifB b10 (some true) (getC c3 1 fun a14 => (ref11_Settled (AV.agg 1 [(frz a14)])).bind fun r15 => asB r15 fun b16 => some (!b16)) : Option Bool).bind fun b13 => (ifB b13 (some true) (getC c3 2 fun a18 => asL 1 a18 fun l19 => (ref02_Rising (AV.sl 1 l19)).bind fun r20 => asB r20 fun b21 => some (!b21)) : Option Bool).bind fun b17 => (ifB b17 (some true) (getC c3 2 fun a23 => asL 1 a23 fun l24 => getC c3 0 fun a25 => asS a25 fun s26 => (ref17_Has (AV.sl 1 l24) (AV.str s26)).bind fun r27 => asB r27 fun b28 => some b28) : Option Bool).bind fun b22 => ifB b22 (some (AV.bool false)) (ref30_Right.l0 (AV.sl 3 l1) (AV.int .i64 (w64 (n2 + 1))))) ((ifB (decide ((256 : Int) < (List.length l1 : Int))) (some true) ((ref30_Names (AV.sl 3 l1)).bind fun r30 => asL 1 r30 fun l31 => (ref02_Rising (AV.sl 1 l31)).bind fun r32 => asB r32 fun b33 => some (!b33)) : Option Bool).bind fun b29 => ifB b29 (some (AV.bool false)) ((ref30_Names (AV.sl 3 l1)).bind fun r34 => asL 1 r34 fun l35 => (ref30_Lines (AV.sl 3 l1)).bind fun r36 => asL 2 r36 fun l37 => (ref17_Order (AV.sl 1 l35) (AV.sl 2 l37)).bind fun r38 => asT2 r38 fun a39 a40 => asL 1 a39 fun l41 => asL 1 a40 fun l42 => some (AV.bool (decide (((List.length l42 : Int) : Int) = 0)))))) :=
  (loopAt_eq S 18 d18 [1, 0, 1, 0] _).trans (by kernel_rfl)

/-! treillage/state.Same: function 19 -/
noncomputable def d19 : FD := ⟨(Tryz.f19.body).getD .skip, Tryz.f19.results.toList, 8⟩
theorem run19 (l : List AV) : ωκ S 19 l = runM τ (fun _ => none) (ωκ S) [4] lpκ d19.code (look (argEnv 0 l)) (retV τ d19.rs) :=
  ωκ_run S 19 l d19 rfl (by show (Tryz.prog.funcs[19]?).bind toFD = _; rw [Tryz.func19]; rfl)
theorem state_Same.f_eq (l1 : List (List AV)) (l2 : List (List AV)) : state_Same (AV.sl 3 l1) (AV.sl 3 l2) = ((slices_EqualFunc__Thing (AV.sl 3 l1) (AV.sl 3 l2) (AV.fn 46 [])).bind fun r3 => asB r3 fun b4 => some (AV.bool b4)) :=
  (run19 _).trans (by kernel_rfl)

/-! treillage/treillageref30.Find: function 20 -/
noncomputable def d20 : FD := ⟨(Tryz.f20.body).getD .skip, Tryz.f20.results.toList, 20⟩
theorem run20 (l : List AV) : ωκ S 20 l = runM τ ann20 (ωκ S) [4] lpκ d20.code (look (argEnv 0 l)) (retV τ d20.rs) :=
  ωκ_run S 20 l d20 rfl (by show (Tryz.prog.funcs[20]?).bind toFD = _; rw [Tryz.func20]; rfl)
noncomputable def ref30_Find.l0 (a0 a1 a5 : AV) : Option AV := loopAt S 20 d20 [1, 0, 1, 0] (look [(0, a0), (1, a1), (5, a5)])
theorem ref30_Find.f_eq (l1 : List (List AV)) (s2 : List UInt8) : ref30_Find (AV.sl 3 l1) (AV.str s2) = (ref30_Find.l0 (AV.sl 3 l1) (AV.str s2) (AV.int .i64 0)) :=
  (run20 _).trans (by kernel_rfl)
theorem ref30_Find.l0_eq (l1 : List (List AV)) (s2 : List UInt8) (n3 : Int) : ref30_Find.l0 (AV.sl 3 l1) (AV.str s2) (AV.int .i64 n3) = (ifB (decide ((n3 : Int) < (List.length l1 : Int))) (idx l1 n3 fun c4 => getC c4 0 fun a5 => asS a5 fun s6 => ifB (decide ((s6 : List UInt8) = s2)) (some (AV.int .i64 n3)) (ref30_Find.l0 (AV.sl 3 l1) (AV.str s2) (AV.int .i64 (w64 (n3 + 1))))) (some (AV.int .i64 (-1)))) :=
  (loopAt_eq S 20 d20 [1, 0, 1, 0] _).trans (by kernel_rfl)

/-! treillage/treillagelaw33.Few: function 21 -/
noncomputable def d21 : FD := ⟨(Tryz.f21.body).getD .skip, Tryz.f21.results.toList, 21⟩
theorem run21 (l : List AV) : ωκ S 21 l = runM τ ann21 (ωκ S) [2] lpκ d21.code (look (argEnv 0 l)) (retV τ d21.rs) :=
  ωκ_run S 21 l d21 rfl (by show (Tryz.prog.funcs[21]?).bind toFD = _; rw [Tryz.func21]; rfl)
noncomputable def law33_Few.l0 (a0 a3 a4 : AV) : Option AV := loopAt S 21 d21 [1, 1, 0, 1, 0] (look [(0, a0), (3, a3), (4, a4)])
theorem law33_Few.f_eq (l1 : List (List AV)) : law33_Few (AV.sl 4 l1) = (law33_Few.l0 (AV.sl 4 l1) (AV.own 3 []) (AV.int .i64 0)) :=
  (run21 _).trans (by kernel_rfl)
theorem law33_Few.l0_eq (l1 : List (List AV)) (l2 : List (List AV)) (n3 : Int) : law33_Few.l0 (AV.sl 4 l1) (AV.own 3 l2) (AV.int .i64 n3) = (ifB (decide ((n3 : Int) < (List.length l1 : Int))) (idx l1 n3 fun c4 => getC c4 1 fun a5 => getC c4 2 fun a6 => getC c4 3 fun a7 => guardK (Nat.ble (List.length l2 + List.length ([[a5, a6, a7]])) lim) <| law33_Few.l0 (AV.sl 4 l1) (AV.own 3 (l2 ++ ([[a5, a6, a7]]))) (AV.int .i64 (w64 (n3 + 1)))) ((law30_Few (AV.sl 3 l2)).bind fun r8 => asB r8 fun b9 => some (AV.bool b9))) :=
  (loopAt_eq S 21 d21 [1, 1, 0, 1, 0] _).trans (by kernel_rfl)

/-! treillage/treillagelaw35.awake: function 22 -/
noncomputable def d22 : FD := ⟨(Tryz.f22.body).getD .skip, Tryz.f22.results.toList, 56⟩
theorem run22 (l : List AV) : ωκ S 22 l = runM τ (fun _ => none) (ωκ S) [0] lpκ d22.code (look (argEnv 0 l)) (retV τ d22.rs) :=
  ωκ_run S 22 l d22 rfl (by show (Tryz.prog.funcs[22]?).bind toFD = _; rw [Tryz.func22]; rfl)
theorem law35_awake.f_eq  : law35_awake = ((apply_Fill (AV.agg 1 [AV.sl 8 ([[AV.int .i64 4, AV.int .i64 0, AV.int .i64 0, AV.str [], AV.bool false, AV.bool false, AV.bool false, AV.sl 2 ([[AV.str [105, 100], AV.sl 8 ([[AV.int .i64 3, AV.int .i64 0, AV.int .i64 0, AV.str [], AV.bool true, AV.bool true, AV.bool false, AV.sl 2 []]])]])]])]) (AV.sl 1 ([[AV.int .i64 7]]))).bind fun r1 => asT3 r1 fun a2 a3 a4 => asC 1 a2 fun c5 => asI .i64 a3 fun n6 => asI .i64 a4 fun n7 => (ifB (decide ((n7 : Int) = 0)) (some (decide ((n6 : Int) = 1))) (some false) : Option Bool).bind fun b8 => (ifB b8 (getC c5 0 fun a10 => asL 8 a10 fun l11 => some (decide (((List.length l11 : Int) : Int) = 1))) (some false) : Option Bool).bind fun b9 => (ifB b9 (getC c5 0 fun a13 => asL 8 a13 fun l14 => idx l14 0 fun c15 => getC c15 7 fun a16 => asL 2 a16 fun l17 => some (decide (((List.length l17 : Int) : Int) = 1))) (some false) : Option Bool).bind fun b12 => (ifB b12 (getC c5 0 fun a19 => asL 8 a19 fun l20 => idx l20 0 fun c21 => getC c21 7 fun a22 => asL 2 a22 fun l23 => idx l23 0 fun c24 => getC c24 1 fun a25 => asL 8 a25 fun l26 => idx l26 0 fun c27 => getC c27 3 fun a28 => asS a28 fun s29 => some (decide ((s29 : List UInt8) = [116, 55]))) (some false) : Option Bool).bind fun b18 => some (AV.bool b18)) :=
  (run22 _).trans (by kernel_rfl)

/-! treillage/apply.Actions: function 23 -/
noncomputable def d23 : FD := ⟨(Tryz.f23.body).getD .skip, Tryz.f23.results.toList, 71⟩
theorem run23 (l : List AV) : ωκ S 23 l = runM τ ann23 (ωκ S) [6, 7, 8] lpκ d23.code (look (argEnv 0 l)) (retV τ d23.rs) :=
  ωκ_run S 23 l d23 rfl (by show (Tryz.prog.funcs[23]?).bind toFD = _; rw [Tryz.func23]; rfl)
noncomputable def apply_Actions.l0 (a1 a2 a6 a19 a20 a21 : AV) : Option AV := loopAt S 23 d23 [1, 1, 1, 0, 1, 0] (look [(1, a1), (2, a2), (6, a6), (19, a19), (20, a20), (21, a21)])
theorem apply_Actions.f_eq (l1 : List (List AV)) (l2 : List (List AV)) (l3 : List (List AV)) : apply_Actions (AV.sl 3 l1) (AV.sl 4 l2) (AV.sl 1 l3) = ((state_Right (AV.sl 3 l1)).bind fun r4 => asB r4 fun b5 => ifB (!b5) (some (.tup [AV.own 3 [], AV.int .i64 (-1), AV.int .i64 33])) (apply_Actions.l0 (AV.sl 4 l2) (AV.sl 1 l3) (AV.sl 3 l1) (AV.sl 4 l2) (AV.int .i64 (List.length l2 : Int)) (AV.int .i64 0))) :=
  (run23 _).trans (by kernel_rfl)
theorem apply_Actions.l0_eq (l1 : List (List AV)) (l2 : List (List AV)) (l3 : List (List AV)) (l4 : List (List AV)) (n5 : Int) (n6 : Int) : apply_Actions.l0 (AV.sl 4 l1) (AV.sl 1 l2) (AV.sl 3 l3) (AV.sl 4 l4) (AV.int .i64 n5) (AV.int .i64 n6) = (ifB (decide ((n6 : Int) < n5)) (idx l4 n6 fun c7 => (apply_refused (AV.sl 3 l3) (AV.agg 4 c7)).bind fun r8 => asI .i64 r8 fun n9 => ifB (!decide ((n9 : Int) = 0)) (some (.tup [AV.own 3 [], AV.int .i64 n6, AV.int .i64 n9])) (getC c7 0 fun a10 => asI .i64 a10 fun n11 => ifB (decide ((n11 : Int) = 1)) (getC c7 1 fun a12 => asS a12 fun s13 => (state_Drop (AV.sl 3 l3) (AV.str s13)).bind fun r14 => asL 3 r14 fun l15 => apply_Actions.l0 (AV.sl 4 l1) (AV.sl 1 l2) (AV.sl 3 l15) (AV.sl 4 l4) (AV.int .i64 n5) (AV.int .i64 (w64 (n6 + 1)))) (getC c7 2 fun a16 => (apply_Fill (AV.agg 1 [(frz a16)]) (AV.sl 1 l2)).bind fun r17 => asT3 r17 fun a18 a19 a20 => asC 1 a18 fun c21 => asI .i64 a19 fun n22 => asI .i64 a20 fun n23 => cutFrom l2 n22 fun l24 => getC c7 1 fun a25 => asS a25 fun s26 => getC c7 3 fun a27 => asL 1 a27 fun l28 => (state_Put (AV.sl 3 l3) (AV.agg 3 (splice (splice [AV.str s26, AV.sl 8 [], AV.sl 1 []] 1 c21) 2 [AV.sl 1 l28]))).bind fun r29 => asL 3 r29 fun l30 => apply_Actions.l0 (AV.sl 4 l1) (AV.sl 1 l24) (AV.sl 3 l30) (AV.sl 4 l4) (AV.int .i64 n5) (AV.int .i64 (w64 (n6 + 1)))))) ((state_Right (AV.sl 3 l3)).bind fun r31 => asB r31 fun b32 => ifB (!b32) (some (.tup [AV.own 3 [], AV.int .i64 (List.length l1 : Int), AV.int .i64 33])) ((state_Drop (AV.sl 3 l3) (AV.str [])).bind fun r33 => asL 3 r33 fun l34 => some (.tup [AV.sl 3 l34, AV.int .i64 (-1), AV.int .i64 0])))) :=
  (loopAt_eq S 23 d23 [1, 1, 1, 0, 1, 0] _).trans (by kernel_rfl)

/-! treillage/treillageref35.Actions: function 24 -/
noncomputable def d24 : FD := ⟨(Tryz.f24.body).getD .skip, Tryz.f24.results.toList, 73⟩
theorem run24 (l : List AV) : ωκ S 24 l = runM τ ann24 (ωκ S) [6, 7, 8] lpκ d24.code (look (argEnv 0 l)) (retV τ d24.rs) :=
  ωκ_run S 24 l d24 rfl (by show (Tryz.prog.funcs[24]?).bind toFD = _; rw [Tryz.func24]; rfl)
noncomputable def ref35_Actions.l0 (a1 a2 a9 a10 : AV) : Option AV := loopAt S 24 d24 [1, 1, 1, 0, 1, 0] (look [(1, a1), (2, a2), (9, a9), (10, a10)])
theorem ref35_Actions.f_eq (l1 : List (List AV)) (l2 : List (List AV)) (l3 : List (List AV)) : ref35_Actions (AV.sl 3 l1) (AV.sl 4 l2) (AV.sl 1 l3) = ((ref30_Right (AV.sl 3 l1)).bind fun r4 => asB r4 fun b5 => ifB (!b5) (some (.tup [AV.own 3 [], AV.int .i64 (-1), AV.int .i64 33])) (ref35_Actions.l0 (AV.sl 4 l2) (AV.sl 1 l3) (AV.sl 3 l1) (AV.int .i64 0))) :=
  (run24 _).trans (by kernel_rfl)
theorem ref35_Actions.l0_eq (l1 : List (List AV)) (l2 : List (List AV)) (l3 : List (List AV)) (n4 : Int) : ref35_Actions.l0 (AV.sl 4 l1) (AV.sl 1 l2) (AV.sl 3 l3) (AV.int .i64 n4) = (ifB (decide ((n4 : Int) < (List.length l1 : Int))) (idx l1 n4 fun c5 => (ref35_refused (AV.sl 3 l3) (AV.agg 4 c5)).bind fun r6 => asI .i64 r6 fun n7 => ifB (!decide ((n7 : Int) = 0)) (some (.tup [AV.own 3 [], AV.int .i64 n4, AV.int .i64 n7])) (getC c5 0 fun a8 => asI .i64 a8 fun n9 => ifB (decide ((n9 : Int) = 1)) (getC c5 1 fun a10 => asS a10 fun s11 => (ref30_Drop (AV.sl 3 l3) (AV.str s11)).bind fun r12 => asL 3 r12 fun l13 => ref35_Actions.l0 (AV.sl 4 l1) (AV.sl 1 l2) (AV.sl 3 l13) (AV.int .i64 (w64 (n4 + 1)))) (getC c5 2 fun a14 => (ref35_Fill (AV.agg 1 [(frz a14)]) (AV.sl 1 l2)).bind fun r15 => asT3 r15 fun a16 a17 a18 => asC 1 a16 fun c19 => asI .i64 a17 fun n20 => asI .i64 a18 fun n21 => cutFrom l2 n20 fun l22 => getC c5 1 fun a23 => asS a23 fun s24 => getC c5 3 fun a25 => asL 1 a25 fun l26 => (ref30_Put (AV.sl 3 l3) (AV.agg 3 (splice (splice [AV.str s24, AV.sl 8 [], AV.sl 1 []] 1 c19) 2 [AV.sl 1 l26]))).bind fun r27 => asL 3 r27 fun l28 => ref35_Actions.l0 (AV.sl 4 l1) (AV.sl 1 l22) (AV.sl 3 l28) (AV.int .i64 (w64 (n4 + 1)))))) ((ref30_Right (AV.sl 3 l3)).bind fun r29 => asB r29 fun b30 => ifB (!b30) (some (.tup [AV.own 3 [], AV.int .i64 (List.length l1 : Int), AV.int .i64 33])) (some (.tup [AV.sl 3 l3, AV.int .i64 (-1), AV.int .i64 0])))) :=
  (loopAt_eq S 24 d24 [1, 1, 1, 0, 1, 0] _).trans (by kernel_rfl)

/-! treillage/treillagelaw09.Few: function 25 -/
noncomputable def d25 : FD := ⟨(Tryz.f25.body).getD .skip, Tryz.f25.results.toList, 10⟩
theorem run25 (l : List AV) : ωκ S 25 l = runM τ (fun _ => none) (ωκ S) [2] lpκ d25.code (look (argEnv 0 l)) (retV τ d25.rs) :=
  ωκ_run S 25 l d25 rfl (by show (Tryz.prog.funcs[25]?).bind toFD = _; rw [Tryz.func25]; rfl)
theorem law09_Few.f_eq (c1 : List AV) : law09_Few (AV.agg 1 c1) = ((law08_Few (AV.agg 1 c1)).bind fun r2 => asB r2 fun b3 => (ifB b3 ((ref08_Weight (AV.agg 1 c1)).bind fun r5 => asI .i64 r5 fun n6 => some (decide ((n6 : Int) ≤ 40))) (some false) : Option Bool).bind fun b4 => some (AV.bool b4)) :=
  (run25 _).trans (by kernel_rfl)

/-! treillage/treillagelaw08.Plain: function 27 -/
noncomputable def d27 : FD := ⟨(Tryz.f27.body).getD .skip, Tryz.f27.results.toList, 59⟩
theorem run27 (l : List AV) : ωκ S 27 l = runM τ ann27 (ωκ S) [] lpκ d27.code (look (argEnv 0 l)) (retV τ d27.rs) :=
  ωκ_run S 27 l d27 rfl (by show (Tryz.prog.funcs[27]?).bind toFD = _; rw [Tryz.func27]; rfl)
noncomputable def law08_Plain.l0 (a1 a2 a3 a4 : AV) : Option AV := loopAt S 27 d27 [1, 1, 0, 1, 0] (look [(1, a1), (2, a2), (3, a3), (4, a4)])
noncomputable def law08_Plain.l1 (a1 a2 a3 a4 a5 a6 : AV) : Option AV := loopAt S 27 d27 [1, 1, 0, 1, 0, 0, 1, 0, 0, 1, 1, 0, 1, 0] (look [(1, a1), (2, a2), (3, a3), (4, a4), (5, a5), (6, a6)])
theorem law08_Plain.f_eq (c1 : List AV) : law08_Plain (AV.agg 1 c1) = (law08_Plain.l0 (AV.boxv 1 c1 []) (AV.boxv 1 [AV.sl 8 []] [(0, AV.own 8 [])]) (AV.boxv 1 [AV.sl 8 []] [(0, AV.own 8 [])]) (AV.int .i64 0)) :=
  (run27 _).trans (by kernel_rfl)
theorem law08_Plain.l0_eq (c1 : List AV) (l2 : List (List AV)) (l3 : List (List AV)) (l4 : List (List AV)) (l5 : List (List AV)) (n6 : Int) : law08_Plain.l0 (AV.boxv 1 c1 []) (AV.boxv 1 [AV.sl 8 l2] [(0, AV.own 8 l3)]) (AV.boxv 1 [AV.sl 8 l4] [(0, AV.own 8 l5)]) (AV.int .i64 n6) = (getC c1 0 fun a7 => asL 8 a7 fun l8 => ifB (decide ((n6 : Int) < (List.length l8 : Int))) (getC c1 0 fun a9 => asL 8 a9 fun l10 => idx l10 n6 fun c11 => law08_Plain.l1 (AV.boxv 1 c1 []) (AV.boxv 1 [AV.sl 8 l2] [(0, AV.own 8 l3)]) (AV.boxv 1 [AV.sl 8 l4] [(0, AV.own 8 l5)]) (AV.int .i64 n6) (AV.boxv 8 c11 [(7, AV.own 2 [])]) (AV.int .i64 0)) (some (AV.agg 1 [AV.sl 8 l5]))) :=
  (loopAt_eq S 27 d27 [1, 1, 0, 1, 0] _).trans (by kernel_rfl)
theorem law08_Plain.l1_eq (c1 : List AV) (l2 : List (List AV)) (l3 : List (List AV)) (l4 : List (List AV)) (l5 : List (List AV)) (n6 : Int) (c7 : List AV) (l8 : List (List AV)) (n9 : Int) : law08_Plain.l1 (AV.boxv 1 c1 []) (AV.boxv 1 [AV.sl 8 l2] [(0, AV.own 8 l3)]) (AV.boxv 1 [AV.sl 8 l4] [(0, AV.own 8 l5)]) (AV.int .i64 n6) (AV.boxv 8 c7 [(7, AV.own 2 l8)]) (AV.int .i64 n9) = (getC c1 0 fun a10 => asL 8 a10 fun l11 => idx l11 n6 fun c12 => getC c12 7 fun a13 => asL 2 a13 fun l14 => ifB (decide ((n9 : Int) < (List.length l14 : Int))) (getC c1 0 fun a15 => asL 8 a15 fun l16 => idx l16 n6 fun c17 => getC c17 7 fun a18 => asL 2 a18 fun l19 => idx l19 n9 fun c20 => getC c20 0 fun a21 => asS a21 fun s22 => getC c20 1 fun a23 => (law08_Plain (AV.agg 1 [(frz a23)])).bind fun r24 => asC 1 r24 fun c25 => guardK (Nat.ble (List.length l8 + List.length ([(splice [AV.str s22, AV.sl 8 []] 1 c25)])) lim) <| law08_Plain.l1 (AV.boxv 1 c1 []) (AV.boxv 1 [AV.sl 8 l2] [(0, AV.own 8 l3)]) (AV.boxv 1 [AV.sl 8 l4] [(0, AV.own 8 l5)]) (AV.int .i64 n6) (AV.boxv 8 c7 [(7, AV.own 2 (l8 ++ ([(splice [AV.str s22, AV.sl 8 []] 1 c25)])))]) (AV.int .i64 (w64 (n9 + 1)))) (guardK (Nat.ble (List.length l5 + List.length [(List.set c7 7 (AV.sl 2 l8))]) lim) <| law08_Plain.l0 (AV.boxv 1 c1 []) (AV.boxv 1 [AV.sl 8 l2] [(0, AV.own 8 l3)]) (AV.boxv 1 [AV.sl 8 l4] [(0, AV.own 8 (l5 ++ [(List.set c7 7 (AV.sl 2 l8))]))]) (AV.int .i64 (w64 (n6 + 1))))) :=
  (loopAt_eq S 27 d27 [1, 1, 0, 1, 0, 0, 1, 0, 0, 1, 1, 0, 1, 0] _).trans (by kernel_rfl)

/-! slices.IndexFunc[[]treillage/api.Thing,treillage/api.Thing]: function 28 -/
noncomputable def d28 : FD := ⟨(Tryz.f28.body).getD .skip, Tryz.f28.results.toList, 19⟩
theorem run28 (l : List AV) : ωκ S 28 l = runM τ ann28 (ωκ S) [4] lpκ d28.code (look (argEnv 0 l)) (retV τ d28.rs) :=
  ωκ_run S 28 l d28 rfl (by show (Tryz.prog.funcs[28]?).bind toFD = _; rw [Tryz.func28]; rfl)
noncomputable def slices_IndexFunc__Thing.l0 (a0 a1 a7 a8 : AV) : Option AV := loopAt S 28 d28 [1, 0, 1, 0] (look [(0, a0), (1, a1), (7, a7), (8, a8)])
theorem slices_IndexFunc__Thing.f_eq (l1 : List (List AV)) (f2 : Nat) (c3 : List AV) : slices_IndexFunc__Thing (AV.sl 3 l1) (AV.fn f2 c3) = (slices_IndexFunc__Thing.l0 (AV.sl 3 l1) (AV.fn f2 c3) (AV.int .i64 (List.length l1 : Int)) (AV.int .i64 0)) :=
  (run28 _).trans (by kernel_rfl)
theorem slices_IndexFunc__Thing.l0_eq (l1 : List (List AV)) (f2 : Nat) (c3 : List AV) (n4 : Int) (n5 : Int) : slices_IndexFunc__Thing.l0 (AV.sl 3 l1) (AV.fn f2 c3) (AV.int .i64 n4) (AV.int .i64 n5) = (ifB (decide ((n5 : Int) < n4)) (idx l1 n5 fun c6 => (ωκ S f2 ([AV.agg 3 c6] ++ c3)).bind fun r7 => asB r7 fun b8 => ifB b8 (some (AV.int .i64 n5)) (slices_IndexFunc__Thing.l0 (AV.sl 3 l1) (AV.fn f2 c3) (AV.int .i64 n4) (AV.int .i64 (w64 (n5 + 1))))) (some (AV.int .i64 (-1)))) :=
  (loopAt_eq S 28 d28 [1, 0, 1, 0] _).trans (by kernel_rfl)

/-! treillage/state.Put$1: function 29 -/
noncomputable def d29 : FD := ⟨(Tryz.f29.body).getD .skip, Tryz.f29.results.toList, 9⟩
theorem run29 (l : List AV) : ωκ S 29 l = runM τ (fun _ => none) (ωκ S) [3] lpκ d29.code (look (argEnv 0 l)) (retV τ d29.rs) :=
  ωκ_run S 29 l d29 rfl (by show (Tryz.prog.funcs[29]?).bind toFD = _; rw [Tryz.func29]; rfl)
theorem state_Put_1.f_eq (c1 : List AV) (c2 : List AV) : state_Put_1 (AV.agg 3 c1) (AV.eptr 3 c2 0) = (getC c1 0 fun a3 => asS a3 fun s4 => getC c2 0 fun a5 => asS a5 fun s6 => some (AV.bool (!(bytesLt s4 s6 || decide ((s4 : List UInt8) = s6))))) :=
  (run29 _).trans (by kernel_rfl)

/-! treillage/state.own: function 31 -/
noncomputable def d31 : FD := ⟨(Tryz.f31.body).getD .skip, Tryz.f31.results.toList, 12⟩
theorem run31 (l : List AV) : ωκ S 31 l = runM τ (fun _ => none) (ωκ S) [] lpκ d31.code (look (argEnv 0 l)) (retV τ d31.rs) :=
  ωκ_run S 31 l d31 rfl (by show (Tryz.prog.funcs[31]?).bind toFD = _; rw [Tryz.func31]; rfl)
theorem state_own.f_eq (c1 : List AV) : state_own (AV.agg 3 c1) = (getC c1 0 fun a2 => asS a2 fun s3 => getC c1 1 fun a4 => (rank_Copy (AV.agg 1 [(frz a4)])).bind fun r5 => asC 1 r5 fun c6 => getC c1 2 fun a7 => asL 1 a7 fun l8 => (slices_Clone__string (AV.sl 1 l8)).bind fun r9 => asL 1 r9 fun l10 => some (AV.agg 3 (splice (splice [AV.str s3, AV.sl 8 [], AV.sl 1 []] 1 c6) 2 [AV.sl 1 l10]))) :=
  (run31 _).trans (by kernel_rfl)
end Go.Proofs.YtffojfcinkihnaaGreatDoor.Abs
