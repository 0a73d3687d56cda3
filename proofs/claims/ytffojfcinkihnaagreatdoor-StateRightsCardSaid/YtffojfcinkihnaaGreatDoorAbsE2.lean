/- What the code comes to, function by function (printed by gen.py). -/
import Derived.Test.YtffojfcinkihnaaGreatDoorAbsT
set_option linter.unusedVariables false
set_option linter.unusedSimpArgs false
set_option linter.unusedSectionVars false
set_option linter.deprecated false
set_option linter.unnecessarySimpa false
namespace Go.Proofs.YtffojfcinkihnaaGreatDoor.Abs
set_option linter.unusedVariables false
set_option maxRecDepth 100000

/-! treillage/state.Find$1: function 32 -/
noncomputable def d32 : FD := ⟨(Tryz.f32.body).getD .skip, Tryz.f32.results.toList, 8⟩
theorem run32 (l : List AV) : ωκ S 32 l = runM τ (fun _ => none) (ωκ S) [3] lpκ d32.code (look (argEnv 0 l)) (retV τ d32.rs) :=
  ωκ_run S 32 l d32 rfl (by show (Tryz.prog.funcs[32]?).bind toFD = _; rw [Tryz.func32]; rfl)
theorem state_Find_1.f_eq (c1 : List AV) (s2 : List UInt8) : state_Find_1 (AV.agg 3 c1) (AV.eptr 1 [AV.str s2] 0) = (getC c1 0 fun a3 => asS a3 fun s4 => some (AV.bool (decide ((s4 : List UInt8) = s2)))) :=
  (run32 _).trans (by kernel_rfl)

/-! treillage/treillageref08.Same: function 33 -/
noncomputable def d33 : FD := ⟨(Tryz.f33.body).getD .skip, Tryz.f33.results.toList, 9⟩
theorem run33 (l : List AV) : ωκ S 33 l = runM τ (fun _ => none) (ωκ S) [4] lpκ d33.code (look (argEnv 0 l)) (retV τ d33.rs) :=
  ωκ_run S 33 l d33 rfl (by show (Tryz.prog.funcs[33]?).bind toFD = _; rw [Tryz.func33]; rfl)
theorem ref08_Same.f_eq (c1 : List AV) (c2 : List AV) : ref08_Same (AV.agg 1 c1) (AV.agg 1 c2) = ((ref08_Compare (AV.agg 1 c1) (AV.agg 1 c2)).bind fun r3 => asI .i64 r3 fun n4 => some (AV.bool (decide ((n4 : Int) = 0)))) :=
  (run33 _).trans (by kernel_rfl)

/-! treillage/treillageref02.Same: function 34 -/
noncomputable def d34 : FD := ⟨(Tryz.f34.body).getD .skip, Tryz.f34.results.toList, 26⟩
theorem run34 (l : List AV) : ωκ S 34 l = runM τ ann34 (ωκ S) [4] lpκ d34.code (look (argEnv 0 l)) (retV τ d34.rs) :=
  ωκ_run S 34 l d34 rfl (by show (Tryz.prog.funcs[34]?).bind toFD = _; rw [Tryz.func34]; rfl)
noncomputable def ref02_Same.l0 (a0 a1 a5 : AV) : Option AV := loopAt S 34 d34 [1, 1, 0, 1, 0] (look [(0, a0), (1, a1), (5, a5)])
theorem ref02_Same.f_eq (l1 : List (List AV)) (l2 : List (List AV)) : ref02_Same (AV.sl 1 l1) (AV.sl 1 l2) = (ifB (!decide (((List.length l1 : Int) : Int) = (List.length l2 : Int))) (some (AV.bool false)) (ref02_Same.l0 (AV.sl 1 l1) (AV.sl 1 l2) (AV.int .i64 0))) :=
  (run34 _).trans (by kernel_rfl)
theorem ref02_Same.l0_eq (l1 : List (List AV)) (l2 : List (List AV)) (n3 : Int) : ref02_Same.l0 (AV.sl 1 l1) (AV.sl 1 l2) (AV.int .i64 n3) = (ifB (decide ((n3 : Int) < (List.length l1 : Int))) (idx l1 n3 fun c4 => getC c4 0 fun a5 => asS a5 fun s6 => idx l2 n3 fun c7 => getC c7 0 fun a8 => asS a8 fun s9 => ifB (!decide ((s6 : List UInt8) = s9)) (some (AV.bool false)) (ref02_Same.l0 (AV.sl 1 l1) (AV.sl 1 l2) (AV.int .i64 (w64 (n3 + 1))))) (some (AV.bool true))) :=
  (loopAt_eq S 34 d34 [1, 1, 0, 1, 0] _).trans (by kernel_rfl)

/-! treillage/state.good: function 36 -/
noncomputable def d36 : FD := ⟨(Tryz.f36.body).getD .skip, Tryz.f36.results.toList, 41⟩
theorem run36 (l : List AV) : ωκ S 36 l = runM τ (fun _ => none) (ωκ S) [2] lpκ d36.code (look (argEnv 0 l)) (retV τ d36.rs) :=
  ωκ_run S 36 l d36 rfl (by show (Tryz.prog.funcs[36]?).bind toFD = _; rw [Tryz.func36]; rfl)
theorem state_good.f_eq (c1 : List AV) : state_good (AV.agg 3 c1) = (getC c1 1 fun a2 => (fact_One (AV.agg 1 [(frz a2)])).bind fun r3 => asT2 r3 fun a4 a5 => asC 8 a4 fun c6 => asI .i64 a5 fun n7 => getC c1 0 fun a8 => asS a8 fun s9 => (name_Right (AV.str s9)).bind fun r10 => asB r10 fun b11 => (ifB b11 (some (decide ((n7 : Int) = 0))) (some false) : Option Bool).bind fun b12 => (ifB b12 (getC c6 0 fun a14 => asI .i64 a14 fun n15 => some (decide ((n15 : Int) = 4))) (some false) : Option Bool).bind fun b13 => (ifB b13 (getC c1 1 fun a17 => (fact_Settled (AV.agg 1 [(frz a17)])).bind fun r18 => asB r18 fun b19 => some b19) (some false) : Option Bool).bind fun b16 => (ifB b16 (getC c1 2 fun a21 => asL 1 a21 fun l22 => (name_Rising (AV.sl 1 l22)).bind fun r23 => asB r23 fun b24 => some b24) (some false) : Option Bool).bind fun b20 => (ifB b20 (getC c1 2 fun a26 => asL 1 a26 fun l27 => getC c1 0 fun a28 => asS a28 fun s29 => (slices_Contains__string (AV.sl 1 l27) (AV.str s29)).bind fun r30 => asB r30 fun b31 => some (!b31)) (some false) : Option Bool).bind fun b25 => some (AV.bool b25)) :=
  (run36 _).trans (by kernel_rfl)

/-! treillage/treillageref11.One: function 38 -/
noncomputable def d38 : FD := ⟨(Tryz.f38.body).getD .skip, Tryz.f38.results.toList, 30⟩
theorem run38 (l : List AV) : ωκ S 38 l = runM τ (fun _ => none) (ωκ S) [3] lpκ d38.code (look (argEnv 0 l)) (retV τ d38.rs) :=
  ωκ_run S 38 l d38 rfl (by show (Tryz.prog.funcs[38]?).bind toFD = _; rw [Tryz.func38]; rfl)
theorem ref11_One.f_eq (c1 : List AV) : ref11_One (AV.agg 1 c1) = ((ref09_Right (AV.agg 1 c1)).bind fun r2 => asB r2 fun b3 => ifB (!b3) (some (.tup [AV.agg 8 [AV.int .i64 0, AV.int .i64 0, AV.int .i64 0, AV.str [], AV.bool false, AV.bool false, AV.bool false, AV.sl 2 []], AV.int .i64 1])) (getC c1 0 fun a4 => asL 8 a4 fun l5 => ifB (decide (((List.length l5 : Int) : Int) = 0)) (some (.tup [AV.agg 8 [AV.int .i64 0, AV.int .i64 0, AV.int .i64 0, AV.str [], AV.bool false, AV.bool false, AV.bool false, AV.sl 2 []], AV.int .i64 31])) (getC c1 0 fun a6 => asL 8 a6 fun l7 => (ifB (decide ((1 : Int) < (List.length l7 : Int))) (some true) (getC c1 0 fun a9 => asL 8 a9 fun l10 => idx l10 0 fun c11 => getC c11 0 fun a12 => asI .i64 a12 fun n13 => some (decide ((n13 : Int) = 5))) : Option Bool).bind fun b8 => ifB b8 (some (.tup [AV.agg 8 [AV.int .i64 0, AV.int .i64 0, AV.int .i64 0, AV.str [], AV.bool false, AV.bool false, AV.bool false, AV.sl 2 []], AV.int .i64 28])) (getC c1 0 fun a14 => asL 8 a14 fun l15 => idx l15 0 fun c16 => some (.tup [AV.agg 8 c16, AV.int .i64 0]))))) :=
  (run38 _).trans (by kernel_rfl)

/-! treillage/treillageref11.Settled: function 39 -/
noncomputable def d39 : FD := ⟨(Tryz.f39.body).getD .skip, Tryz.f39.results.toList, 9⟩
theorem run39 (l : List AV) : ωκ S 39 l = runM τ (fun _ => none) (ωκ S) [2] lpκ d39.code (look (argEnv 0 l)) (retV τ d39.rs) :=
  ωκ_run S 39 l d39 rfl (by show (Tryz.prog.funcs[39]?).bind toFD = _; rw [Tryz.func39]; rfl)
theorem ref11_Settled.f_eq (c1 : List AV) : ref11_Settled (AV.agg 1 c1) = ((ref09_Right (AV.agg 1 c1)).bind fun r2 => asB r2 fun b3 => (ifB b3 ((ref11_settled (AV.agg 1 c1) (AV.bool false)).bind fun r5 => asB r5 fun b6 => some b6) (some false) : Option Bool).bind fun b4 => some (AV.bool b4)) :=
  (run39 _).trans (by kernel_rfl)

/-! treillage/treillageref02.Rising: function 40 -/
noncomputable def d40 : FD := ⟨(Tryz.f40.body).getD .skip, Tryz.f40.results.toList, 32⟩
theorem run40 (l : List AV) : ωκ S 40 l = runM τ ann40 (ωκ S) [2] lpκ d40.code (look (argEnv 0 l)) (retV τ d40.rs) :=
  ωκ_run S 40 l d40 rfl (by show (Tryz.prog.funcs[40]?).bind toFD = _; rw [Tryz.func40]; rfl)
noncomputable def ref02_Rising.l0 (a0 a3 : AV) : Option AV := loopAt S 40 d40 [1, 0, 1, 0] (look [(0, a0), (3, a3)])
theorem ref02_Rising.f_eq (l1 : List (List AV)) : ref02_Rising (AV.sl 1 l1) = (ref02_Rising.l0 (AV.sl 1 l1) (AV.int .i64 0)) :=
  (run40 _).trans (by kernel_rfl)
theorem ref02_Rising.l0_eq (l1 : List (List AV)) (n2 : Int) : ref02_Rising.l0 (AV.sl 1 l1) (AV.int .i64 n2) = (ifB (decide ((n2 : Int) < (List.length l1 : Int))) (idx l1 n2 fun c3 => getC c3 0 fun a4 => asS a4 fun s5 => (ref02_Right (AV.str s5)).bind fun r6 => asB r6 fun b7 => (ifB (!b7) (some true) ((ifB (decide ((0 : Int) < n2)) (idx l1 (w64 (n2 - 1)) fun c10 => getC c10 0 fun a11 => asS a11 fun s12 => idx l1 n2 fun c13 => getC c13 0 fun a14 => asS a14 fun s15 => some (!bytesLt s12 s15)) (some false) : Option Bool).bind fun b9 => some b9) : Option Bool).bind fun b8 => ifB b8 (some (AV.bool false)) (ref02_Rising.l0 (AV.sl 1 l1) (AV.int .i64 (w64 (n2 + 1))))) (some (AV.bool true))) :=
  (loopAt_eq S 40 d40 [1, 0, 1, 0] _).trans (by kernel_rfl)

/-! treillage/treillageref17.Has: function 41 -/
noncomputable def d41 : FD := ⟨(Tryz.f41.body).getD .skip, Tryz.f41.results.toList, 18⟩
theorem run41 (l : List AV) : ωκ S 41 l = runM τ ann41 (ωκ S) [4] lpκ d41.code (look (argEnv 0 l)) (retV τ d41.rs) :=
  ωκ_run S 41 l d41 rfl (by show (Tryz.prog.funcs[41]?).bind toFD = _; rw [Tryz.func41]; rfl)
noncomputable def ref17_Has.l0 (a0 a1 a5 : AV) : Option AV := loopAt S 41 d41 [1, 0, 1, 0] (look [(0, a0), (1, a1), (5, a5)])
theorem ref17_Has.f_eq (l1 : List (List AV)) (s2 : List UInt8) : ref17_Has (AV.sl 1 l1) (AV.str s2) = (ref17_Has.l0 (AV.sl 1 l1) (AV.str s2) (AV.int .i64 0)) :=
  (run41 _).trans (by kernel_rfl)
theorem ref17_Has.l0_eq (l1 : List (List AV)) (s2 : List UInt8) (n3 : Int) : ref17_Has.l0 (AV.sl 1 l1) (AV.str s2) (AV.int .i64 n3) = (ifB (decide ((n3 : Int) < (List.length l1 : Int))) (idx l1 n3 fun c4 => getC c4 0 fun a5 => asS a5 fun s6 => ifB (decide ((s6 : List UInt8) = s2)) (some (AV.bool true)) (ref17_Has.l0 (AV.sl 1 l1) (AV.str s2) (AV.int .i64 (w64 (n3 + 1))))) (some (AV.bool false))) :=
  (loopAt_eq S 41 d41 [1, 0, 1, 0] _).trans (by kernel_rfl)

/-! treillage/treillageref30.Names: function 42 -/
noncomputable def d42 : FD := ⟨(Tryz.f42.body).getD .skip, Tryz.f42.results.toList, 20⟩
theorem run42 (l : List AV) : ωκ S 42 l = runM τ ann42 (ωκ S) [2] lpκ d42.code (look (argEnv 0 l)) (retV τ d42.rs) :=
  ωκ_run S 42 l d42 rfl (by show (Tryz.prog.funcs[42]?).bind toFD = _; rw [Tryz.func42]; rfl)
noncomputable def ref30_Names.l0 (a0 a3 a4 : AV) : Option AV := loopAt S 42 d42 [1, 1, 0, 1, 0] (look [(0, a0), (3, a3), (4, a4)])
theorem ref30_Names.f_eq (l1 : List (List AV)) : ref30_Names (AV.sl 3 l1) = (ref30_Names.l0 (AV.sl 3 l1) (AV.own 1 []) (AV.int .i64 0)) :=
  (run42 _).trans (by kernel_rfl)
theorem ref30_Names.l0_eq (l1 : List (List AV)) (l2 : List (List AV)) (n3 : Int) : ref30_Names.l0 (AV.sl 3 l1) (AV.own 1 l2) (AV.int .i64 n3) = (ifB (decide ((n3 : Int) < (List.length l1 : Int))) (idx l1 n3 fun c4 => getC c4 0 fun a5 => asS a5 fun s6 => guardK (Nat.ble (List.length l2 + List.length ([[AV.str s6]])) lim) <| ref30_Names.l0 (AV.sl 3 l1) (AV.own 1 (l2 ++ ([[AV.str s6]]))) (AV.int .i64 (w64 (n3 + 1)))) (some (AV.own 1 l2))) :=
  (loopAt_eq S 42 d42 [1, 1, 0, 1, 0] _).trans (by kernel_rfl)

/-! treillage/treillageref17.Order: function 43 -/
noncomputable def d43 : FD := ⟨(Tryz.f43.body).getD .skip, Tryz.f43.results.toList, 91⟩
theorem run43 (l : List AV) : ωκ S 43 l = runM τ ann43 (ωκ S) [4, 5] lpκ d43.code (look (argEnv 0 l)) (retV τ d43.rs) :=
  ωκ_run S 43 l d43 rfl (by show (Tryz.prog.funcs[43]?).bind toFD = _; rw [Tryz.func43]; rfl)
noncomputable def ref17_Order.l0 (a0 a1 a6 a7 : AV) : Option AV := loopAt S 43 d43 [1, 1, 0, 1, 0] (look [(0, a0), (1, a1), (6, a6), (7, a7)])
noncomputable def ref17_Order.l1 (a0 a1 a6 a7 a8 a9 a10 : AV) : Option AV := loopAt S 43 d43 [1, 1, 0, 1, 0, 0, 1, 0, 0, 1, 1, 0, 1, 0] (look [(0, a0), (1, a1), (6, a6), (7, a7), (8, a8), (9, a9), (10, a10)])
noncomputable def ref17_Order.l2 (a0 a6 a14 a15 : AV) : Option AV := loopAt S 43 d43 [1, 1, 1, 1, 0, 1, 0] (look [(0, a0), (6, a6), (14, a14), (15, a15)])
noncomputable def ref17_Order.l3 (a0 a1 a6 a7 a8 a9 a10 a11 a12 a13 : AV) : Option AV := loopAt S 43 d43 [1, 1, 0, 1, 0, 0, 1, 0, 0, 1, 1, 0, 1, 0, 0, 1, 0, 0, 1, 1, 1, 0, 1, 0] (look [(0, a0), (1, a1), (6, a6), (7, a7), (8, a8), (9, a9), (10, a10), (11, a11), (12, a12), (13, a13)])
theorem ref17_Order.f_eq (l1 : List (List AV)) (l2 : List (List AV)) : ref17_Order (AV.sl 1 l1) (AV.sl 2 l2) = (ref17_Order.l0 (AV.sl 1 l1) (AV.sl 2 l2) (AV.own 1 []) (AV.int .i64 0)) :=
  (run43 _).trans (by kernel_rfl)
theorem ref17_Order.l0_eq (l1 : List (List AV)) (l2 : List (List AV)) (l3 : List (List AV)) (n4 : Int) : ref17_Order.l0 (AV.sl 1 l1) (AV.sl 2 l2) (AV.own 1 l3) (AV.int .i64 n4) = (ifB (decide ((n4 : Int) < (List.length l1 : Int))) (ref17_Order.l1 (AV.sl 1 l1) (AV.sl 2 l2) (AV.own 1 l3) (AV.int .i64 n4) (AV.str []) (AV.bool false) (AV.int .i64 0)) (ref17_Order.l2 (AV.sl 1 l1) (AV.own 1 l3) (AV.own 1 []) (AV.int .i64 0))) :=
  (loopAt_eq S 43 d43 [1, 1, 0, 1, 0] _).trans (by kernel_rfl)
theorem ref17_Order.l1_eq (l1 : List (List AV)) (l2 : List (List AV)) (l3 : List (List AV)) (n4 : Int) (s5 : List UInt8) (n6 : Int) : ref17_Order.l1 (AV.sl 1 l1) (AV.sl 2 l2) (AV.own 1 l3) (AV.int .i64 n4) (AV.str s5) (AV.bool false) (AV.int .i64 n6) = ((ifB (decide ((n6 : Int) < (List.length l1 : Int))) (some true) (some false) : Option Bool).bind fun b7 => ifB b7 (idx l1 n6 fun c8 => getC c8 0 fun a9 => asS a9 fun s10 => (ref17_Has (AV.sl 1 l3) (AV.str s10)).bind fun r11 => asB r11 fun b12 => ifB b12 (ref17_Order.l1 (AV.sl 1 l1) (AV.sl 2 l2) (AV.own 1 l3) (AV.int .i64 n4) (AV.str s5) (AV.bool false) (AV.int .i64 (w64 (n6 + 1)))) (idx l1 n6 fun c13 => getC c13 0 fun a14 => asS a14 fun s15 => (ref17_To (AV.sl 2 l2) (AV.str s15)).bind fun r16 => asL 1 r16 fun l17 => ref17_Order.l3 (AV.sl 1 l1) (AV.sl 2 l2) (AV.own 1 l3) (AV.int .i64 n4) (AV.str s5) (AV.bool false) (AV.int .i64 n6) (AV.bool true) (AV.sl 1 l17) (AV.int .i64 0))) (ref17_Order.l0 (AV.sl 1 l1) (AV.sl 2 l2) (AV.own 1 l3) (AV.int .i64 (w64 (n4 + 1))))) :=
  (loopAt_eq S 43 d43 [1, 1, 0, 1, 0, 0, 1, 0, 0, 1, 1, 0, 1, 0] _).trans (by kernel_rfl)
theorem ref17_Order.l2_eq (l1 : List (List AV)) (l2 : List (List AV)) (l3 : List (List AV)) (n4 : Int) : ref17_Order.l2 (AV.sl 1 l1) (AV.own 1 l2) (AV.own 1 l3) (AV.int .i64 n4) = (ifB (decide ((n4 : Int) < (List.length l1 : Int))) (idx l1 n4 fun c5 => getC c5 0 fun a6 => asS a6 fun s7 => (ref17_Has (AV.sl 1 l2) (AV.str s7)).bind fun r8 => asB r8 fun b9 => ifB (!b9) (idx l1 n4 fun c10 => getC c10 0 fun a11 => asS a11 fun s12 => guardK (Nat.ble (List.length l3 + List.length ([[AV.str s12]])) lim) <| ref17_Order.l2 (AV.sl 1 l1) (AV.own 1 l2) (AV.own 1 (l3 ++ ([[AV.str s12]]))) (AV.int .i64 (w64 (n4 + 1)))) (ref17_Order.l2 (AV.sl 1 l1) (AV.own 1 l2) (AV.own 1 l3) (AV.int .i64 (w64 (n4 + 1))))) (some (.tup [AV.own 1 l2, AV.own 1 l3]))) :=
  (loopAt_eq S 43 d43 [1, 1, 1, 1, 0, 1, 0] _).trans (by kernel_rfl)
theorem ref17_Order.l3_eq (l1 : List (List AV)) (l2 : List (List AV)) (l3 : List (List AV)) (n4 : Int) (s5 : List UInt8) (n6 : Int) (l7 : List (List AV)) (n8 : Int) : ref17_Order.l3 (AV.sl 1 l1) (AV.sl 2 l2) (AV.own 1 l3) (AV.int .i64 n4) (AV.str s5) (AV.bool false) (AV.int .i64 n6) (AV.bool true) (AV.sl 1 l7) (AV.int .i64 n8) = (ifB (decide ((n8 : Int) < (List.length l7 : Int))) ((idx l7 n8 fun c10 => getC c10 0 fun a11 => asS a11 fun s12 => (ref17_Has (AV.sl 1 l3) (AV.str s12)).bind fun r13 => asB r13 fun b14 => some b14 : Option Bool).bind fun b9 => ref17_Order.l3 (AV.sl 1 l1) (AV.sl 2 l2) (AV.own 1 l3) (AV.int .i64 n4) (AV.str s5) (AV.bool false) (AV.int .i64 n6) (AV.bool b9) (AV.sl 1 l7) (AV.int .i64 (w64 (n8 + 1)))) (idx l1 n6 fun c15 => getC c15 0 fun a16 => asS a16 fun s17 => ref17_Order.l1 (AV.sl 1 l1) (AV.sl 2 l2) (AV.own 1 l3) (AV.int .i64 n4) (AV.str s17) (AV.bool true) (AV.int .i64 (w64 (n6 + 1))))) :=
  (loopAt_eq S 43 d43 [1, 1, 0, 1, 0, 0, 1, 0, 0, 1, 1, 0, 1, 0, 0, 1, 0, 0, 1, 1, 1, 0, 1, 0] _).trans (by kernel_rfl)
theorem ref17_Order.l3_eq2 (l1 : List (List AV)) (l2 : List (List AV)) (l3 : List (List AV)) (n4 : Int) (s5 : List UInt8) (n6 : Int) (b7 : Bool) (l8 : List (List AV)) (n9 : Int) : ref17_Order.l3 (AV.sl 1 l1) (AV.sl 2 l2) (AV.own 1 l3) (AV.int .i64 n4) (AV.str s5) (AV.bool false) (AV.int .i64 n6) (AV.bool b7) (AV.sl 1 l8) (AV.int .i64 n9) = (ifB (decide ((n9 : Int) < (List.length l8 : Int))) ((ifB b7 (idx l8 n9 fun c11 => getC c11 0 fun a12 => asS a12 fun s13 => (ref17_Has (AV.sl 1 l3) (AV.str s13)).bind fun r14 => asB r14 fun b15 => some b15) (some false) : Option Bool).bind fun b10 => ref17_Order.l3 (AV.sl 1 l1) (AV.sl 2 l2) (AV.own 1 l3) (AV.int .i64 n4) (AV.str s5) (AV.bool false) (AV.int .i64 n6) (AV.bool b10) (AV.sl 1 l8) (AV.int .i64 (w64 (n9 + 1)))) (ifB b7 (idx l1 n6 fun c16 => getC c16 0 fun a17 => asS a17 fun s18 => ref17_Order.l1 (AV.sl 1 l1) (AV.sl 2 l2) (AV.own 1 l3) (AV.int .i64 n4) (AV.str s18) (AV.bool true) (AV.int .i64 (w64 (n6 + 1)))) (ref17_Order.l1 (AV.sl 1 l1) (AV.sl 2 l2) (AV.own 1 l3) (AV.int .i64 n4) (AV.str s5) (AV.bool false) (AV.int .i64 (w64 (n6 + 1)))))) :=
  (loopAt_eq S 43 d43 [1, 1, 0, 1, 0, 0, 1, 0, 0, 1, 1, 0, 1, 0, 0, 1, 0, 0, 1, 1, 1, 0, 1, 0] _).trans (by kernel_rfl)
theorem ref17_Order.l1_eq2 (l1 : List (List AV)) (l2 : List (List AV)) (l3 : List (List AV)) (n4 : Int) (s5 : List UInt8) (n6 : Int) : ref17_Order.l1 (AV.sl 1 l1) (AV.sl 2 l2) (AV.own 1 l3) (AV.int .i64 n4) (AV.str s5) (AV.bool true) (AV.int .i64 n6) = ((ifB (decide ((n6 : Int) < (List.length l1 : Int))) (some false) (some false) : Option Bool).bind fun b7 => ifB b7 (idx l1 n6 fun c8 => getC c8 0 fun a9 => asS a9 fun s10 => (ref17_Has (AV.sl 1 l3) (AV.str s10)).bind fun r11 => asB r11 fun b12 => ifB b12 (ref17_Order.l1 (AV.sl 1 l1) (AV.sl 2 l2) (AV.own 1 l3) (AV.int .i64 n4) (AV.str s5) (AV.bool true) (AV.int .i64 (w64 (n6 + 1)))) (idx l1 n6 fun c13 => getC c13 0 fun a14 => asS a14 fun s15 => (ref17_To (AV.sl 2 l2) (AV.str s15)).bind fun r16 => asL 1 r16 fun l17 => ref17_Order.l3 (AV.sl 1 l1) (AV.sl 2 l2) (AV.own 1 l3) (AV.int .i64 n4) (AV.str s5) (AV.bool true) (AV.int .i64 n6) (AV.bool true) (AV.sl 1 l17) (AV.int .i64 0))) (guardK (Nat.ble (List.length l3 + List.length ([[AV.str s5]])) lim) <| ref17_Order.l0 (AV.sl 1 l1) (AV.sl 2 l2) (AV.own 1 (l3 ++ ([[AV.str s5]]))) (AV.int .i64 (w64 (n4 + 1))))) :=
  (loopAt_eq S 43 d43 [1, 1, 0, 1, 0, 0, 1, 0, 0, 1, 1, 0, 1, 0] _).trans (by kernel_rfl)
theorem ref17_Order.l3_eq3 (l1 : List (List AV)) (l2 : List (List AV)) (l3 : List (List AV)) (n4 : Int) (s5 : List UInt8) (n6 : Int) (l7 : List (List AV)) (n8 : Int) : ref17_Order.l3 (AV.sl 1 l1) (AV.sl 2 l2) (AV.own 1 l3) (AV.int .i64 n4) (AV.str s5) (AV.bool true) (AV.int .i64 n6) (AV.bool true) (AV.sl 1 l7) (AV.int .i64 n8) = (ifB (decide ((n8 : Int) < (List.length l7 : Int))) ((idx l7 n8 fun c10 => getC c10 0 fun a11 => asS a11 fun s12 => (ref17_Has (AV.sl 1 l3) (AV.str s12)).bind fun r13 => asB r13 fun b14 => some b14 : Option Bool).bind fun b9 => ref17_Order.l3 (AV.sl 1 l1) (AV.sl 2 l2) (AV.own 1 l3) (AV.int .i64 n4) (AV.str s5) (AV.bool true) (AV.int .i64 n6) (AV.bool b9) (AV.sl 1 l7) (AV.int .i64 (w64 (n8 + 1)))) (idx l1 n6 fun c15 => getC c15 0 fun a16 => asS a16 fun s17 => ref17_Order.l1 (AV.sl 1 l1) (AV.sl 2 l2) (AV.own 1 l3) (AV.int .i64 n4) (AV.str s17) (AV.bool true) (AV.int .i64 (w64 (n6 + 1))))) :=
  (loopAt_eq S 43 d43 [1, 1, 0, 1, 0, 0, 1, 0, 0, 1, 1, 0, 1, 0, 0, 1, 0, 0, 1, 1, 1, 0, 1, 0] _).trans (by kernel_rfl)
theorem ref17_Order.l3_eq4 (l1 : List (List AV)) (l2 : List (List AV)) (l3 : List (List AV)) (n4 : Int) (s5 : List UInt8) (n6 : Int) (b7 : Bool) (l8 : List (List AV)) (n9 : Int) : ref17_Order.l3 (AV.sl 1 l1) (AV.sl 2 l2) (AV.own 1 l3) (AV.int .i64 n4) (AV.str s5) (AV.bool true) (AV.int .i64 n6) (AV.bool b7) (AV.sl 1 l8) (AV.int .i64 n9) = (ifB (decide ((n9 : Int) < (List.length l8 : Int))) ((ifB b7 (idx l8 n9 fun c11 => getC c11 0 fun a12 => asS a12 fun s13 => (ref17_Has (AV.sl 1 l3) (AV.str s13)).bind fun r14 => asB r14 fun b15 => some b15) (some false) : Option Bool).bind fun b10 => ref17_Order.l3 (AV.sl 1 l1) (AV.sl 2 l2) (AV.own 1 l3) (AV.int .i64 n4) (AV.str s5) (AV.bool true) (AV.int .i64 n6) (AV.bool b10) (AV.sl 1 l8) (AV.int .i64 (w64 (n9 + 1)))) (ifB b7 (idx l1 n6 fun c16 => getC c16 0 fun a17 => asS a17 fun s18 => ref17_Order.l1 (AV.sl 1 l1) (AV.sl 2 l2) (AV.own 1 l3) (AV.int .i64 n4) (AV.str s18) (AV.bool true) (AV.int .i64 (w64 (n6 + 1)))) (ref17_Order.l1 (AV.sl 1 l1) (AV.sl 2 l2) (AV.own 1 l3) (AV.int .i64 n4) (AV.str s5) (AV.bool true) (AV.int .i64 (w64 (n6 + 1)))))) :=
  (loopAt_eq S 43 d43 [1, 1, 0, 1, 0, 0, 1, 0, 0, 1, 1, 0, 1, 0, 0, 1, 0, 0, 1, 1, 1, 0, 1, 0] _).trans (by kernel_rfl)

/-! treillage/treillageref30.Lines: function 44 -/
noncomputable def d44 : FD := ⟨(Tryz.f44.body).getD .skip, Tryz.f44.results.toList, 51⟩
theorem run44 (l : List AV) : ωκ S 44 l = runM τ ann44 (ωκ S) [2] lpκ d44.code (look (argEnv 0 l)) (retV τ d44.rs) :=
  ωκ_run S 44 l d44 rfl (by show (Tryz.prog.funcs[44]?).bind toFD = _; rw [Tryz.func44]; rfl)
noncomputable def ref30_Lines.l0 (a0 a3 a4 : AV) : Option AV := loopAt S 44 d44 [1, 1, 0, 1, 0] (look [(0, a0), (3, a3), (4, a4)])
noncomputable def ref30_Lines.l1 (a0 a3 a4 a5 : AV) : Option AV := loopAt S 44 d44 [1, 1, 0, 1, 0, 0, 1, 0, 0, 1, 0] (look [(0, a0), (3, a3), (4, a4), (5, a5)])
theorem ref30_Lines.f_eq (l1 : List (List AV)) : ref30_Lines (AV.sl 3 l1) = (ref30_Lines.l0 (AV.sl 3 l1) (AV.own 2 []) (AV.int .i64 0)) :=
  (run44 _).trans (by kernel_rfl)
theorem ref30_Lines.l0_eq (l1 : List (List AV)) (l2 : List (List AV)) (n3 : Int) : ref30_Lines.l0 (AV.sl 3 l1) (AV.own 2 l2) (AV.int .i64 n3) = (ifB (decide ((n3 : Int) < (List.length l1 : Int))) (ref30_Lines.l1 (AV.sl 3 l1) (AV.own 2 l2) (AV.int .i64 n3) (AV.int .i64 0)) (some (AV.own 2 l2))) :=
  (loopAt_eq S 44 d44 [1, 1, 0, 1, 0] _).trans (by kernel_rfl)
theorem ref30_Lines.l1_eq (l1 : List (List AV)) (l2 : List (List AV)) (n3 : Int) (n4 : Int) : ref30_Lines.l1 (AV.sl 3 l1) (AV.own 2 l2) (AV.int .i64 n3) (AV.int .i64 n4) = (idx l1 n3 fun c5 => getC c5 2 fun a6 => asL 1 a6 fun l7 => ifB (decide ((n4 : Int) < (List.length l7 : Int))) (idx l1 n3 fun c8 => getC c8 2 fun a9 => asL 1 a9 fun l10 => idx l10 n4 fun c11 => getC c11 0 fun a12 => asS a12 fun s13 => (ref30_Find (AV.sl 3 l1) (AV.str s13)).bind fun r14 => asI .i64 r14 fun n15 => ifB (decide ((0 : Int) ≤ n15)) (idx l1 n3 fun c16 => getC c16 0 fun a17 => asS a17 fun s18 => idx l1 n3 fun c19 => getC c19 2 fun a20 => asL 1 a20 fun l21 => idx l21 n4 fun c22 => getC c22 0 fun a23 => asS a23 fun s24 => guardK (Nat.ble (List.length l2 + List.length ([[AV.str s18, AV.str s24]])) lim) <| ref30_Lines.l1 (AV.sl 3 l1) (AV.own 2 (l2 ++ ([[AV.str s18, AV.str s24]]))) (AV.int .i64 n3) (AV.int .i64 (w64 (n4 + 1)))) (ref30_Lines.l1 (AV.sl 3 l1) (AV.own 2 l2) (AV.int .i64 n3) (AV.int .i64 (w64 (n4 + 1))))) (ref30_Lines.l0 (AV.sl 3 l1) (AV.own 2 l2) (AV.int .i64 (w64 (n3 + 1))))) :=
  (loopAt_eq S 44 d44 [1, 1, 0, 1, 0, 0, 1, 0, 0, 1, 0] _).trans (by kernel_rfl)

/-! slices.EqualFunc[[]treillage/api.Thing,[]treillage/api.Thing,treillage/api.Thing,treillage/api.Thing]: function 45 -/
noncomputable def d45 : FD := ⟨(Tryz.f45.body).getD .skip, Tryz.f45.results.toList, 32⟩
theorem run45 (l : List AV) : ωκ S 45 l = runM τ ann45 (ωκ S) [6] lpκ d45.code (look (argEnv 0 l)) (retV τ d45.rs) :=
  ωκ_run S 45 l d45 rfl (by show (Tryz.prog.funcs[45]?).bind toFD = _; rw [Tryz.func45]; rfl)
noncomputable def slices_EqualFunc__Thing.l0 (a1 a2 a15 a16 a17 : AV) : Option AV := loopAt S 45 d45 [1, 1, 0, 1, 0] (look [(1, a1), (2, a2), (15, a15), (16, a16), (17, a17)])
theorem slices_EqualFunc__Thing.f_eq (l1 : List (List AV)) (l2 : List (List AV)) (f3 : Nat) (c4 : List AV) : slices_EqualFunc__Thing (AV.sl 3 l1) (AV.sl 3 l2) (AV.fn f3 c4) = (ifB (!decide (((List.length l1 : Int) : Int) = (List.length l2 : Int))) (some (AV.bool false)) (slices_EqualFunc__Thing.l0 (AV.sl 3 l2) (AV.fn f3 c4) (AV.sl 3 l1) (AV.int .i64 (List.length l1 : Int)) (AV.int .i64 0))) :=
  (run45 _).trans (by kernel_rfl)
theorem slices_EqualFunc__Thing.l0_eq (l1 : List (List AV)) (f2 : Nat) (c3 : List AV) (l4 : List (List AV)) (n5 : Int) (n6 : Int) : slices_EqualFunc__Thing.l0 (AV.sl 3 l1) (AV.fn f2 c3) (AV.sl 3 l4) (AV.int .i64 n5) (AV.int .i64 n6) = (ifB (decide ((n6 : Int) < n5)) (idx l4 n6 fun c7 => idx l1 n6 fun c8 => (ωκ S f2 ([AV.agg 3 c7, AV.agg 3 c8] ++ c3)).bind fun r9 => asB r9 fun b10 => ifB (!b10) (some (AV.bool false)) (slices_EqualFunc__Thing.l0 (AV.sl 3 l1) (AV.fn f2 c3) (AV.sl 3 l4) (AV.int .i64 n5) (AV.int .i64 (w64 (n6 + 1))))) (some (AV.bool true))) :=
  (loopAt_eq S 45 d45 [1, 1, 0, 1, 0] _).trans (by kernel_rfl)
end Go.Proofs.YtffojfcinkihnaaGreatDoor.Abs
