/- What the code comes to, function by function (printed by gen.py). -/
import Derived.Test.YtffojfcinkihnaaGreatDoorAbsT
set_option linter.unusedVariables false
set_option linter.unusedSimpArgs false
set_option linter.unusedSectionVars false
set_option linter.deprecated false
set_option linter.unnecessarySimpa false
namespace Go.Proofs.YtffojfcinkihnaaGreatDoor.Abs
set_option linter.unusedVariables false
set_option maxRecDepth 100000

/-! treillage/fact.Settled: function 65 -/
noncomputable def d65 : FD := ⟨(Tryz.f65.body).getD .skip, Tryz.f65.results.toList, 9⟩
theorem run65 (l : List AV) : ωκ S 65 l = runM τ (fun _ => none) (ωκ S) [2] lpκ d65.code (look (argEnv 0 l)) (retV τ d65.rs) :=
  ωκ_run S 65 l d65 rfl (by show (Tryz.prog.funcs[65]?).bind toFD = _; rw [Tryz.func65]; rfl)
theorem fact_Settled.f_eq (c1 : List AV) : fact_Settled (AV.agg 1 c1) = ((lat_Right (AV.agg 1 c1)).bind fun r2 => asB r2 fun b3 => (ifB b3 ((fact_all (AV.agg 1 c1) (AV.fn 97 [])).bind fun r5 => asB r5 fun b6 => some b6) (some false) : Option Bool).bind fun b4 => some (AV.bool b4)) :=
  (run65 _).trans (by kernel_rfl)

/-! treillage/name.Rising: function 66 -/
noncomputable def d66 : FD := ⟨(Tryz.f66.body).getD .skip, Tryz.f66.results.toList, 29⟩
theorem run66 (l : List AV) : ωκ S 66 l = runM τ ann66 (ωκ S) [2] lpκ d66.code (look (argEnv 0 l)) (retV τ d66.rs) :=
  ωκ_run S 66 l d66 rfl (by show (Tryz.prog.funcs[66]?).bind toFD = _; rw [Tryz.func66]; rfl)
noncomputable def name_Rising.l0 (a0 a5 a6 a7 : AV) : Option AV := loopAt S 66 d66 [1, 0, 1, 0] (look [(0, a0), (5, a5), (6, a6), (7, a7)])
theorem name_Rising.f_eq (l1 : List (List AV)) : name_Rising (AV.sl 1 l1) = (name_Rising.l0 (AV.sl 1 l1) (AV.sl 1 l1) (AV.int .i64 (List.length l1 : Int)) (AV.int .i64 0)) :=
  (run66 _).trans (by kernel_rfl)
theorem name_Rising.l0_eq (l1 : List (List AV)) (l2 : List (List AV)) (n3 : Int) (n4 : Int) : name_Rising.l0 (AV.sl 1 l1) (AV.sl 1 l2) (AV.int .i64 n3) (AV.int .i64 n4) = (ifB (decide ((n4 : Int) < n3)) (idx l2 n4 fun c5 => getC c5 0 fun a6 => asS a6 fun s7 => (name_Right (AV.str s7)).bind fun r8 => asB r8 fun b9 => (ifB (!b9) (some true) ((ifB (decide ((0 : Int) < n4)) (idx l1 (w64 (n4 - 1)) fun c12 => getC c12 0 fun a13 => asS a13 fun s14 => some (bytesLt s7 s14 || decide ((s7 : List UInt8) = s14))) (some false) : Option Bool).bind fun b11 => some b11) : Option Bool).bind fun b10 => ifB b10 (some (AV.bool false)) (name_Rising.l0 (AV.sl 1 l1) (AV.sl 1 l2) (AV.int .i64 n3) (AV.int .i64 (w64 (n4 + 1))))) (some (AV.bool true))) :=
  (loopAt_eq S 66 d66 [1, 0, 1, 0] _).trans (by kernel_rfl)

/-! slices.Contains[[]string,string]: function 67 -/
noncomputable def d67 : FD := ⟨(Tryz.f67.body).getD .skip, Tryz.f67.results.toList, 9⟩
theorem run67 (l : List AV) : ωκ S 67 l = runM τ (fun _ => none) (ωκ S) [4] lpκ d67.code (look (argEnv 0 l)) (retV τ d67.rs) :=
  ωκ_run S 67 l d67 rfl (by show (Tryz.prog.funcs[67]?).bind toFD = _; rw [Tryz.func67]; rfl)
theorem slices_Contains__string.f_eq (l1 : List (List AV)) (s2 : List UInt8) : slices_Contains__string (AV.sl 1 l1) (AV.str s2) = ((slices_Index__string (AV.sl 1 l1) (AV.str s2)).bind fun r3 => asI .i64 r3 fun n4 => some (AV.bool (decide ((0 : Int) ≤ n4)))) :=
  (run67 _).trans (by kernel_rfl)

/-! treillage/treillageref09.Right: function 72 -/
noncomputable def d72 : FD := ⟨(Tryz.f72.body).getD .skip, Tryz.f72.results.toList, 77⟩
theorem run72 (l : List AV) : ωκ S 72 l = runM τ ann72 (ωκ S) [2] lpκ d72.code (look (argEnv 0 l)) (retV τ d72.rs) :=
  ωκ_run S 72 l d72 rfl (by show (Tryz.prog.funcs[72]?).bind toFD = _; rw [Tryz.func72]; rfl)
noncomputable def ref09_Right.l0 (a1 a3 : AV) : Option AV := loopAt S 72 d72 [1, 1, 0, 1, 0] (look [(1, a1), (3, a3)])
noncomputable def ref09_Right.l1 (a1 a4 : AV) : Option AV := loopAt S 72 d72 [1, 1, 1, 0, 1, 0] (look [(1, a1), (4, a4)])
noncomputable def ref09_Right.l2 (a1 a4 a5 : AV) : Option AV := loopAt S 72 d72 [1, 1, 1, 0, 1, 0, 0, 1, 0, 0, 1, 0] (look [(1, a1), (4, a4), (5, a5)])
theorem ref09_Right.f_eq (c1 : List AV) : ref09_Right (AV.agg 1 c1) = ((ref08_Weight (AV.agg 1 c1)).bind fun r2 => asI .i64 r2 fun n3 => (ifB (decide ((512 : Int) < n3)) (some true) ((ref08_Depth (AV.agg 1 c1)).bind fun r5 => asI .i64 r5 fun n6 => some (decide ((16 : Int) < n6))) : Option Bool).bind fun b4 => ifB b4 (some (AV.bool false)) (ref09_Right.l0 (AV.boxv 1 c1 []) (AV.int .i64 0))) :=
  (run72 _).trans (by kernel_rfl)
theorem ref09_Right.l0_eq (c1 : List AV) (n2 : Int) : ref09_Right.l0 (AV.boxv 1 c1 []) (AV.int .i64 n2) = (getC c1 0 fun a3 => asL 8 a3 fun l4 => ifB (decide ((n2 : Int) < (List.length l4 : Int))) (getC c1 0 fun a5 => asL 8 a5 fun l6 => idx l6 n2 fun c7 => (ref09_Term (AV.agg 8 c7)).bind fun r8 => asB r8 fun b9 => (ifB (!b9) (some true) ((ifB (decide ((0 : Int) < n2)) (getC c1 0 fun a12 => asL 8 a12 fun l13 => idx l13 (w64 (n2 - 1)) fun c14 => getC c1 0 fun a15 => asL 8 a15 fun l16 => idx l16 n2 fun c17 => (ref08_Terms (AV.agg 8 c14) (AV.agg 8 c17)).bind fun r18 => asI .i64 r18 fun n19 => some (decide ((0 : Int) ≤ n19))) (some false) : Option Bool).bind fun b11 => some b11) : Option Bool).bind fun b10 => ifB b10 (some (AV.bool false)) (ref09_Right.l0 (AV.boxv 1 c1 []) (AV.int .i64 (w64 (n2 + 1))))) (ref09_Right.l1 (AV.boxv 1 c1 []) (AV.int .i64 0))) :=
  (loopAt_eq S 72 d72 [1, 1, 0, 1, 0] _).trans (by kernel_rfl)
theorem ref09_Right.l1_eq (c1 : List AV) (n2 : Int) : ref09_Right.l1 (AV.boxv 1 c1 []) (AV.int .i64 n2) = (getC c1 0 fun a3 => asL 8 a3 fun l4 => ifB (decide ((n2 : Int) < (List.length l4 : Int))) (ref09_Right.l2 (AV.boxv 1 c1 []) (AV.int .i64 n2) (AV.int .i64 0)) (some (AV.bool true))) :=
  (loopAt_eq S 72 d72 [1, 1, 1, 0, 1, 0] _).trans (by kernel_rfl)
theorem ref09_Right.l2_eq (c1 : List AV) (n2 : Int) (n3 : Int) : ref09_Right.l2 (AV.boxv 1 c1 []) (AV.int .i64 n2) (AV.int .i64 n3) = (getC c1 0 fun a4 => asL 8 a4 fun l5 => ifB (decide ((n3 : Int) < (List.length l5 : Int))) ((ifB (!decide ((n2 : Int) = n3)) (getC c1 0 fun a7 => asL 8 a7 fun l8 => idx l8 n2 fun c9 => getC c1 0 fun a10 => asL 8 a10 fun l11 => idx l11 n3 fun c12 => (ref09_under (AV.agg 8 c9) (AV.agg 8 c12)).bind fun r13 => asB r13 fun b14 => some b14) (some false) : Option Bool).bind fun b6 => ifB b6 (some (AV.bool false)) (ref09_Right.l2 (AV.boxv 1 c1 []) (AV.int .i64 n2) (AV.int .i64 (w64 (n3 + 1))))) (ref09_Right.l1 (AV.boxv 1 c1 []) (AV.int .i64 (w64 (n2 + 1))))) :=
  (loopAt_eq S 72 d72 [1, 1, 1, 0, 1, 0, 0, 1, 0, 0, 1, 0] _).trans (by kernel_rfl)

/-! treillage/treillageref11.settled: function 73 -/
noncomputable def d73 : FD := ⟨(Tryz.f73.body).getD .skip, Tryz.f73.results.toList, 51⟩
theorem run73 (l : List AV) : ωκ S 73 l = runM τ ann73 (ωκ S) [4] lpκ d73.code (look (argEnv 0 l)) (retV τ d73.rs) :=
  ωκ_run S 73 l d73 rfl (by show (Tryz.prog.funcs[73]?).bind toFD = _; rw [Tryz.func73]; rfl)
noncomputable def ref11_settled.l0 (a1 a5 a6 : AV) : Option AV := loopAt S 73 d73 [1, 1, 1, 1, 0, 1, 0] (look [(1, a1), (5, a5), (6, a6)])
theorem ref11_settled.f_eq (c1 : List AV) (b2 : Bool) : ref11_settled (AV.agg 1 c1) (AV.bool b2) = (getC c1 0 fun a3 => asL 8 a3 fun l4 => (ifB (!decide (((List.length l4 : Int) : Int) = 1)) (some true) (getC c1 0 fun a6 => asL 8 a6 fun l7 => idx l7 0 fun c8 => getC c8 0 fun a9 => asI .i64 a9 fun n10 => some (decide ((n10 : Int) = 5))) : Option Bool).bind fun b5 => ifB b5 (some (AV.bool false)) (getC c1 0 fun a11 => asL 8 a11 fun l12 => idx l12 0 fun c13 => getC c13 0 fun a14 => asI .i64 a14 fun n15 => ifB (!decide ((n15 : Int) = 4)) ((ref07_Single (AV.agg 8 c13)).bind fun r16 => asB r16 fun b17 => (ifB b17 (some true) ((ifB b2 (getC c13 5 fun a20 => asB a20 fun b21 => some b21) (some false) : Option Bool).bind fun b19 => some b19) : Option Bool).bind fun b18 => some (AV.bool b18)) (ref11_settled.l0 (AV.bool b2) (AV.boxv 8 c13 []) (AV.int .i64 0)))) :=
  (run73 _).trans (by kernel_rfl)
theorem ref11_settled.l0_eq (b1 : Bool) (c2 : List AV) (n3 : Int) : ref11_settled.l0 (AV.bool b1) (AV.boxv 8 c2 []) (AV.int .i64 n3) = (getC c2 7 fun a4 => asL 2 a4 fun l5 => ifB (decide ((n3 : Int) < (List.length l5 : Int))) (getC c2 7 fun a6 => asL 2 a6 fun l7 => idx l7 n3 fun c8 => getC c8 1 fun a9 => (ref11_settled (AV.agg 1 [a9]) (AV.bool b1)).bind fun r10 => asB r10 fun b11 => ifB (!b11) (some (AV.bool false)) (ref11_settled.l0 (AV.bool b1) (AV.boxv 8 c2 []) (AV.int .i64 (w64 (n3 + 1))))) (some (AV.bool true))) :=
  (loopAt_eq S 73 d73 [1, 1, 1, 1, 0, 1, 0] _).trans (by kernel_rfl)

/-! treillage/treillageref02.Right: function 74 -/
noncomputable def d74 : FD := ⟨(Tryz.f74.body).getD .skip, Tryz.f74.results.toList, 67⟩
theorem run74 (l : List AV) : ωκ S 74 l = runM τ ann74 (ωκ S) [2] lpκ d74.code (look (argEnv 0 l)) (retV τ d74.rs) :=
  ωκ_run S 74 l d74 rfl (by show (Tryz.prog.funcs[74]?).bind toFD = _; rw [Tryz.func74]; rfl)
noncomputable def ref02_Right.l0 (a0 a3 : AV) : Option AV := loopAt S 74 d74 [1, 1, 0, 1, 0] (look [(0, a0), (3, a3)])
theorem ref02_Right.f_eq (s1 : List UInt8) : ref02_Right (AV.str s1) = ((ifB (decide (((List.length s1 : Int) : Int) < 1)) (some true) (some (decide ((16 : Int) < (List.length s1 : Int)))) : Option Bool).bind fun b2 => (ifB b2 (some true) ((ref02_Word (AV.str s1)).bind fun r4 => asI .i64 r4 fun n5 => some (decide ((0 : Int) < n5))) : Option Bool).bind fun b3 => (ifB b3 (some true) (idx s1 0 fun c7 => some (decide (((c7.toNat : Int) : Int) < 97))) : Option Bool).bind fun b6 => (ifB b6 (some true) (idx s1 0 fun c9 => some (decide ((122 : Int) < (c9.toNat : Int)))) : Option Bool).bind fun b8 => ifB b8 (some (AV.bool false)) (ref02_Right.l0 (AV.str s1) (AV.int .i64 1))) :=
  (run74 _).trans (by kernel_rfl)
theorem ref02_Right.l0_eq (s1 : List UInt8) (n2 : Int) : ref02_Right.l0 (AV.str s1) (AV.int .i64 n2) = (ifB (decide ((n2 : Int) < (List.length s1 : Int))) (idx s1 n2 fun c3 => (ifB (decide ((97 : Int) ≤ (c3.toNat : Int))) (idx s1 n2 fun c5 => some (decide (((c5.toNat : Int) : Int) ≤ 122))) (some false) : Option Bool).bind fun b4 => idx s1 n2 fun c6 => (ifB (decide ((48 : Int) ≤ (c6.toNat : Int))) (idx s1 n2 fun c8 => some (decide (((c8.toNat : Int) : Int) ≤ 57))) (some false) : Option Bool).bind fun b7 => (ifB (!b4) (some (!b7)) (some false) : Option Bool).bind fun b9 => (ifB b9 (idx s1 n2 fun c11 => some (!decide (((c11.toNat : Int) : Int) = 95))) (some false) : Option Bool).bind fun b10 => ifB b10 (some (AV.bool false)) (ref02_Right.l0 (AV.str s1) (AV.int .i64 (w64 (n2 + 1))))) (some (AV.bool true))) :=
  (loopAt_eq S 74 d74 [1, 1, 0, 1, 0] _).trans (by kernel_rfl)

/-! treillage/treillageref17.To: function 75 -/
noncomputable def d75 : FD := ⟨(Tryz.f75.body).getD .skip, Tryz.f75.results.toList, 28⟩
theorem run75 (l : List AV) : ωκ S 75 l = runM τ ann75 (ωκ S) [4] lpκ d75.code (look (argEnv 0 l)) (retV τ d75.rs) :=
  ωκ_run S 75 l d75 rfl (by show (Tryz.prog.funcs[75]?).bind toFD = _; rw [Tryz.func75]; rfl)
noncomputable def ref17_To.l0 (a0 a1 a5 a6 : AV) : Option AV := loopAt S 75 d75 [1, 1, 0, 1, 0] (look [(0, a0), (1, a1), (5, a5), (6, a6)])
theorem ref17_To.f_eq (l1 : List (List AV)) (s2 : List UInt8) : ref17_To (AV.sl 2 l1) (AV.str s2) = (ref17_To.l0 (AV.sl 2 l1) (AV.str s2) (AV.own 1 []) (AV.int .i64 0)) :=
  (run75 _).trans (by kernel_rfl)
theorem ref17_To.l0_eq (l1 : List (List AV)) (s2 : List UInt8) (l3 : List (List AV)) (n4 : Int) : ref17_To.l0 (AV.sl 2 l1) (AV.str s2) (AV.own 1 l3) (AV.int .i64 n4) = (ifB (decide ((n4 : Int) < (List.length l1 : Int))) (idx l1 n4 fun c5 => getC c5 0 fun a6 => asS a6 fun s7 => ifB (decide ((s7 : List UInt8) = s2)) (idx l1 n4 fun c8 => getC c8 1 fun a9 => asS a9 fun s10 => (ref17_Put (AV.sl 1 l3) (AV.str s10)).bind fun r11 => asL 1 r11 fun l12 => ref17_To.l0 (AV.sl 2 l1) (AV.str s2) (AV.sl 1 l12) (AV.int .i64 (w64 (n4 + 1)))) (ref17_To.l0 (AV.sl 2 l1) (AV.str s2) (AV.own 1 l3) (AV.int .i64 (w64 (n4 + 1))))) (some (AV.own 1 l3))) :=
  (loopAt_eq S 75 d75 [1, 1, 0, 1, 0] _).trans (by kernel_rfl)
theorem ref17_To.l0_eq2 (l1 : List (List AV)) (s2 : List UInt8) (l3 : List (List AV)) (n4 : Int) : ref17_To.l0 (AV.sl 2 l1) (AV.str s2) (AV.sl 1 l3) (AV.int .i64 n4) = (ifB (decide ((n4 : Int) < (List.length l1 : Int))) (idx l1 n4 fun c5 => getC c5 0 fun a6 => asS a6 fun s7 => ifB (decide ((s7 : List UInt8) = s2)) (idx l1 n4 fun c8 => getC c8 1 fun a9 => asS a9 fun s10 => (ref17_Put (AV.sl 1 l3) (AV.str s10)).bind fun r11 => asL 1 r11 fun l12 => ref17_To.l0 (AV.sl 2 l1) (AV.str s2) (AV.sl 1 l12) (AV.int .i64 (w64 (n4 + 1)))) (ref17_To.l0 (AV.sl 2 l1) (AV.str s2) (AV.sl 1 l3) (AV.int .i64 (w64 (n4 + 1))))) (some (AV.sl 1 l3))) :=
  (loopAt_eq S 75 d75 [1, 1, 0, 1, 0] _).trans (by kernel_rfl)

/-! treillage/rank.Compare: function 76 -/
noncomputable def d76 : FD := ⟨(Tryz.f76.body).getD .skip, Tryz.f76.results.toList, 10⟩
theorem run76 (l : List AV) : ωκ S 76 l = runM τ (fun _ => none) (ωκ S) [4] lpκ d76.code (look (argEnv 0 l)) (retV τ d76.rs) :=
  ωκ_run S 76 l d76 rfl (by show (Tryz.prog.funcs[76]?).bind toFD = _; rw [Tryz.func76]; rfl)
theorem rank_Compare.f_eq (c1 : List AV) (c2 : List AV) : rank_Compare (AV.agg 1 c1) (AV.agg 1 c2) = (getC c1 0 fun a3 => asL 8 a3 fun l4 => getC c2 0 fun a5 => asL 8 a5 fun l6 => (rank_lists__Term (AV.sl 8 l4) (AV.sl 8 l6) (AV.fn 115 [])).bind fun r7 => asI .i64 r7 fun n8 => some (AV.int .i64 n8)) :=
  (run76 _).trans (by kernel_rfl)

/-! treillage/fact.Ready: function 77 -/
noncomputable def d77 : FD := ⟨(Tryz.f77.body).getD .skip, Tryz.f77.results.toList, 9⟩
theorem run77 (l : List AV) : ωκ S 77 l = runM τ (fun _ => none) (ωκ S) [2] lpκ d77.code (look (argEnv 0 l)) (retV τ d77.rs) :=
  ωκ_run S 77 l d77 rfl (by show (Tryz.prog.funcs[77]?).bind toFD = _; rw [Tryz.func77]; rfl)
theorem fact_Ready.f_eq (c1 : List AV) : fact_Ready (AV.agg 1 c1) = ((lat_Right (AV.agg 1 c1)).bind fun r2 => asB r2 fun b3 => (ifB b3 ((fact_all (AV.agg 1 c1) (AV.fn 116 [])).bind fun r5 => asB r5 fun b6 => some b6) (some false) : Option Bool).bind fun b4 => some (AV.bool b4)) :=
  (run77 _).trans (by kernel_rfl)

/-! treillage/apply.good: function 80 -/
noncomputable def d80 : FD := ⟨(Tryz.f80.body).getD .skip, Tryz.f80.results.toList, 41⟩
theorem run80 (l : List AV) : ωκ S 80 l = runM τ (fun _ => none) (ωκ S) [2] lpκ d80.code (look (argEnv 0 l)) (retV τ d80.rs) :=
  ωκ_run S 80 l d80 rfl (by show (Tryz.prog.funcs[80]?).bind toFD = _; rw [Tryz.func80]; rfl)
theorem apply_good.f_eq (c1 : List AV) : apply_good (AV.agg 3 c1) = (getC c1 1 fun a2 => (fact_One (AV.agg 1 [(frz a2)])).bind fun r3 => asT2 r3 fun a4 a5 => asC 8 a4 fun c6 => asI .i64 a5 fun n7 => getC c1 0 fun a8 => asS a8 fun s9 => (name_Right (AV.str s9)).bind fun r10 => asB r10 fun b11 => (ifB b11 (some (decide ((n7 : Int) = 0))) (some false) : Option Bool).bind fun b12 => (ifB b12 (getC c6 0 fun a14 => asI .i64 a14 fun n15 => some (decide ((n15 : Int) = 4))) (some false) : Option Bool).bind fun b13 => (ifB b13 (getC c1 1 fun a17 => (fact_Ready (AV.agg 1 [(frz a17)])).bind fun r18 => asB r18 fun b19 => some b19) (some false) : Option Bool).bind fun b16 => (ifB b16 (getC c1 2 fun a21 => asL 1 a21 fun l22 => (name_Rising (AV.sl 1 l22)).bind fun r23 => asB r23 fun b24 => some b24) (some false) : Option Bool).bind fun b20 => (ifB b20 (getC c1 2 fun a26 => asL 1 a26 fun l27 => getC c1 0 fun a28 => asS a28 fun s29 => (slices_Contains__string (AV.sl 1 l27) (AV.str s29)).bind fun r30 => asB r30 fun b31 => some (!b31)) (some false) : Option Bool).bind fun b25 => some (AV.bool b25)) :=
  (run80 _).trans (by kernel_rfl)

/-! treillage/treillageref11.Ready: function 81 -/
noncomputable def d81 : FD := ⟨(Tryz.f81.body).getD .skip, Tryz.f81.results.toList, 9⟩
theorem run81 (l : List AV) : ωκ S 81 l = runM τ (fun _ => none) (ωκ S) [2] lpκ d81.code (look (argEnv 0 l)) (retV τ d81.rs) :=
  ωκ_run S 81 l d81 rfl (by show (Tryz.prog.funcs[81]?).bind toFD = _; rw [Tryz.func81]; rfl)
theorem ref11_Ready.f_eq (c1 : List AV) : ref11_Ready (AV.agg 1 c1) = ((ref09_Right (AV.agg 1 c1)).bind fun r2 => asB r2 fun b3 => (ifB b3 ((ref11_settled (AV.agg 1 c1) (AV.bool true)).bind fun r5 => asB r5 fun b6 => some b6) (some false) : Option Bool).bind fun b4 => some (AV.bool b4)) :=
  (run81 _).trans (by kernel_rfl)

/-! treillage/treillageref35.fill: function 82 -/
noncomputable def d82 : FD := ⟨(Tryz.f82.body).getD .skip, Tryz.f82.results.toList, 84⟩
theorem run82 (l : List AV) : ωκ S 82 l = runM τ ann82 (ωκ S) [7] lpκ d82.code (look (argEnv 0 l)) (retV τ d82.rs) :=
  ωκ_run S 82 l d82 rfl (by show (Tryz.prog.funcs[82]?).bind toFD = _; rw [Tryz.func82]; rfl)
noncomputable def ref35_fill.l0 (a1 a2 a3 a6 a8 a9 : AV) : Option AV := loopAt S 82 d82 [1, 1, 0, 1, 0] (look [(1, a1), (2, a2), (3, a3), (6, a6), (8, a8), (9, a9)])
noncomputable def ref35_fill.j1 (a1 a2 a3 a6 a8 a9 a10 a11 : AV) : Option AV := joinAt S 82 d82 [1, 1, 0, 1, 0, 0, 1, 0, 0, 1, 0, 1, 0, 1] (look [(1, a1), (2, a2), (3, a3), (6, a6), (8, a8), (9, a9), (10, a10), (11, a11)])
noncomputable def ref35_fill.j2 (a1 a2 a3 a6 a8 a9 a10 : AV) : Option AV := joinAt S 82 d82 [1, 1, 0, 1, 0, 0, 1, 0, 0, 1] (look [(1, a1), (2, a2), (3, a3), (6, a6), (8, a8), (9, a9), (10, a10)])
noncomputable def ref35_fill.l3 (a1 a2 a3 a6 a8 a9 a10 a12 a13 : AV) : Option AV := loopAt S 82 d82 [1, 1, 0, 1, 0, 0, 1, 0, 0, 1, 1, 1, 0, 1, 0] (look [(1, a1), (2, a2), (3, a3), (6, a6), (8, a8), (9, a9), (10, a10), (12, a12), (13, a13)])
theorem ref35_fill.f_eq (c1 : List AV) (l2 : List (List AV)) (n3 : Int) : ref35_fill (AV.agg 1 c1) (AV.sl 1 l2) (AV.int .i64 n3) = (ref35_fill.l0 (AV.sl 1 l2) (AV.int .i64 n3) (AV.boxv 1 c1 []) (AV.boxv 1 [AV.sl 8 []] [(0, AV.own 8 [])]) (AV.boxv 1 [AV.sl 8 []] [(0, AV.own 8 [])]) (AV.int .i64 0)) :=
  (run82 _).trans (by kernel_rfl)
theorem ref35_fill.l0_eq (l1 : List (List AV)) (n2 : Int) (c3 : List AV) (l4 : List (List AV)) (l5 : List (List AV)) (l6 : List (List AV)) (l7 : List (List AV)) (n8 : Int) : ref35_fill.l0 (AV.sl 1 l1) (AV.int .i64 n2) (AV.boxv 1 c3 []) (AV.boxv 1 [AV.sl 8 l4] [(0, AV.own 8 l5)]) (AV.boxv 1 [AV.sl 8 l6] [(0, AV.own 8 l7)]) (AV.int .i64 n8) = (getC c3 0 fun a9 => asL 8 a9 fun l10 => ifB (decide ((n8 : Int) < (List.length l10 : Int))) (getC c3 0 fun a11 => asL 8 a11 fun l12 => idx l12 n8 fun c13 => getC c13 5 fun a14 => asB a14 fun b15 => ifB b15 (ifB (decide ((n2 : Int) < (List.length l1 : Int))) (idx l1 n2 fun c16 => getC c16 0 fun a17 => asI .i64 a17 fun n18 => ref35_fill.j1 (AV.sl 1 l1) (AV.int .i64 (w64 (n2 + 1))) (AV.boxv 1 c3 []) (AV.boxv 1 [AV.sl 8 l4] [(0, AV.own 8 l5)]) (AV.boxv 1 [AV.sl 8 l6] [(0, AV.own 8 l7)]) (AV.int .i64 n8) (AV.boxv 8 c13 []) (AV.int .i64 n18)) (ref35_fill.j1 (AV.sl 1 l1) (AV.int .i64 n2) (AV.boxv 1 c3 []) (AV.boxv 1 [AV.sl 8 l4] [(0, AV.own 8 l5)]) (AV.boxv 1 [AV.sl 8 l6] [(0, AV.own 8 l7)]) (AV.int .i64 n8) (AV.boxv 8 c13 []) (AV.int .i64 0))) (ref35_fill.j2 (AV.sl 1 l1) (AV.int .i64 n2) (AV.boxv 1 c3 []) (AV.boxv 1 [AV.sl 8 l4] [(0, AV.own 8 l5)]) (AV.boxv 1 [AV.sl 8 l6] [(0, AV.own 8 l7)]) (AV.int .i64 n8) (AV.boxv 8 c13 []))) (some (.tup [AV.agg 1 [AV.sl 8 l7], AV.int .i64 n2]))) :=
  (loopAt_eq S 82 d82 [1, 1, 0, 1, 0] _).trans (by kernel_rfl)
theorem ref35_fill.j1_eq (l1 : List (List AV)) (n2 : Int) (c3 : List AV) (l4 : List (List AV)) (l5 : List (List AV)) (l6 : List (List AV)) (l7 : List (List AV)) (n8 : Int) (c9 : List AV) (n10 : Int) : ref35_fill.j1 (AV.sl 1 l1) (AV.int .i64 n2) (AV.boxv 1 c3 []) (AV.boxv 1 [AV.sl 8 l4] [(0, AV.own 8 l5)]) (AV.boxv 1 [AV.sl 8 l6] [(0, AV.own 8 l7)]) (AV.int .i64 n8) (AV.boxv 8 c9 []) (AV.int .i64 n10) = ((ref35_atom (AV.agg 8 c9) (AV.int .i64 n10)).bind fun r11 => asC 8 r11 fun c12 => ref35_fill.j2 (AV.sl 1 l1) (AV.int .i64 n2) (AV.boxv 1 c3 []) (AV.boxv 1 [AV.sl 8 l4] [(0, AV.own 8 l5)]) (AV.boxv 1 [AV.sl 8 l6] [(0, AV.own 8 l7)]) (AV.int .i64 n8) (AV.boxv 8 c12 [])) :=
  (joinAt_eq S 82 d82 [1, 1, 0, 1, 0, 0, 1, 0, 0, 1, 0, 1, 0, 1] _).trans (by kernel_rfl)
theorem ref35_fill.j2_eq (l1 : List (List AV)) (n2 : Int) (c3 : List AV) (l4 : List (List AV)) (l5 : List (List AV)) (l6 : List (List AV)) (l7 : List (List AV)) (n8 : Int) (c9 : List AV) : ref35_fill.j2 (AV.sl 1 l1) (AV.int .i64 n2) (AV.boxv 1 c3 []) (AV.boxv 1 [AV.sl 8 l4] [(0, AV.own 8 l5)]) (AV.boxv 1 [AV.sl 8 l6] [(0, AV.own 8 l7)]) (AV.int .i64 n8) (AV.boxv 8 c9 []) = (ref35_fill.l3 (AV.sl 1 l1) (AV.int .i64 n2) (AV.boxv 1 c3 []) (AV.boxv 1 [AV.sl 8 l4] [(0, AV.own 8 l5)]) (AV.boxv 1 [AV.sl 8 l6] [(0, AV.own 8 l7)]) (AV.int .i64 n8) (AV.boxv 8 c9 []) (AV.own 2 []) (AV.int .i64 0)) :=
  (joinAt_eq S 82 d82 [1, 1, 0, 1, 0, 0, 1, 0, 0, 1] _).trans (by kernel_rfl)
theorem ref35_fill.l3_eq (l1 : List (List AV)) (n2 : Int) (c3 : List AV) (l4 : List (List AV)) (l5 : List (List AV)) (l6 : List (List AV)) (l7 : List (List AV)) (n8 : Int) (c9 : List AV) (l10 : List (List AV)) (n11 : Int) : ref35_fill.l3 (AV.sl 1 l1) (AV.int .i64 n2) (AV.boxv 1 c3 []) (AV.boxv 1 [AV.sl 8 l4] [(0, AV.own 8 l5)]) (AV.boxv 1 [AV.sl 8 l6] [(0, AV.own 8 l7)]) (AV.int .i64 n8) (AV.boxv 8 c9 []) (AV.own 2 l10) (AV.int .i64 n11) = (getC c9 7 fun a12 => asL 2 a12 fun l13 => ifB (decide ((n11 : Int) < (List.length l13 : Int))) (getC c9 7 fun a14 => asL 2 a14 fun l15 => idx l15 n11 fun c16 => getC c16 1 fun a17 => (ref35_fill (AV.agg 1 [a17]) (AV.sl 1 l1) (AV.int .i64 n2)).bind fun r18 => asT2 r18 fun a19 a20 => asC 1 a19 fun c21 => asI .i64 a20 fun n22 => getC c9 7 fun a23 => asL 2 a23 fun l24 => idx l24 n11 fun c25 => getC c25 0 fun a26 => asS a26 fun s27 => guardK (Nat.ble (List.length l10 + List.length ([(splice [AV.str s27, AV.sl 8 []] 1 c21)])) lim) <| ref35_fill.l3 (AV.sl 1 l1) (AV.int .i64 n22) (AV.boxv 1 c3 []) (AV.boxv 1 [AV.sl 8 l4] [(0, AV.own 8 l5)]) (AV.boxv 1 [AV.sl 8 l6] [(0, AV.own 8 l7)]) (AV.int .i64 n8) (AV.boxv 8 c9 []) (AV.own 2 (l10 ++ ([(splice [AV.str s27, AV.sl 8 []] 1 c21)]))) (AV.int .i64 (w64 (n11 + 1)))) (guardK (Nat.ble (List.length l7 + List.length [(List.set c9 7 (AV.sl 2 l10))]) lim) <| ref35_fill.l0 (AV.sl 1 l1) (AV.int .i64 n2) (AV.boxv 1 c3 []) (AV.boxv 1 [AV.sl 8 l4] [(0, AV.own 8 l5)]) (AV.boxv 1 [AV.sl 8 l6] [(0, AV.own 8 (l7 ++ [(List.set c9 7 (AV.sl 2 l10))]))]) (AV.int .i64 (w64 (n8 + 1))))) :=
  (loopAt_eq S 82 d82 [1, 1, 0, 1, 0, 0, 1, 0, 0, 1, 1, 1, 0, 1, 0] _).trans (by kernel_rfl)
end Go.Proofs.YtffojfcinkihnaaGreatDoor.Abs
