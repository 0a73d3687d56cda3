/- What the code comes to, function by function (printed by gen.py). -/
import Derived.Test.YtffojfcinkihnaaGreatDoorAbsT
set_option linter.unusedVariables false
set_option linter.unusedSimpArgs false
set_option linter.unusedSectionVars false
set_option linter.deprecated false
set_option linter.unnecessarySimpa false
namespace Go.Proofs.YtffojfcinkihnaaGreatDoor.Abs
set_option linter.unusedVariables false
set_option maxRecDepth 100000

/-! slices.BinarySearch[[]string,string]: function 100 -/
noncomputable def d100 : FD := ⟨(Tryz.f100.body).getD .skip, Tryz.f100.results.toList, 54⟩
theorem run100 (l : List AV) : ωκ S 100 l = runM τ ann100 (ωκ S) [4, 5] lpκ d100.code (look (argEnv 0 l)) (retV τ d100.rs) :=
  ωκ_run S 100 l d100 rfl (by show (Tryz.prog.funcs[100]?).bind toFD = _; rw [Tryz.func100]; rfl)
noncomputable def slices_BinarySearch__string.l0 (a0 a1 a6 a7 a8 : AV) : Option AV := loopAt S 100 d100 [1, 1, 1, 0, 0] (look [(0, a0), (1, a1), (6, a6), (7, a7), (8, a8)])
theorem slices_BinarySearch__string.f_eq (l1 : List (List AV)) (s2 : List UInt8) : slices_BinarySearch__string (AV.sl 1 l1) (AV.str s2) = (slices_BinarySearch__string.l0 (AV.sl 1 l1) (AV.str s2) (AV.int .i64 (List.length l1 : Int)) (AV.int .i64 0) (AV.int .i64 (List.length l1 : Int))) :=
  (run100 _).trans (by kernel_rfl)
theorem slices_BinarySearch__string.l0_eq (l1 : List (List AV)) (s2 : List UInt8) (n3 : Int) (n4 : Int) (n5 : Int) : slices_BinarySearch__string.l0 (AV.sl 1 l1) (AV.str s2) (AV.int .i64 n3) (AV.int .i64 n4) (AV.int .i64 n5) = (ifB (decide ((n4 : Int) < n5)) (guardK (decide ((0 : Int) ≤ 1)) <| idx l1 (w64 (Int.fdiv (IntKind.wrap .u64 (w64 (n4 + n5))) (2 ^ (min (1 : Int).toNat (IntKind.bits .u64))))) fun c6 => getC c6 0 fun a7 => asS a7 fun s8 => (cmp_Less__string (AV.str s8) (AV.str s2)).bind fun r9 => asB r9 fun b10 => ifB b10 (slices_BinarySearch__string.l0 (AV.sl 1 l1) (AV.str s2) (AV.int .i64 n3) (AV.int .i64 (w64 ((w64 (Int.fdiv (IntKind.wrap .u64 (w64 (n4 + n5))) (2 ^ (min (1 : Int).toNat (IntKind.bits .u64))))) + 1))) (AV.int .i64 n5)) (slices_BinarySearch__string.l0 (AV.sl 1 l1) (AV.str s2) (AV.int .i64 n3) (AV.int .i64 n4) (AV.int .i64 (w64 (Int.fdiv (IntKind.wrap .u64 (w64 (n4 + n5))) (2 ^ (min (1 : Int).toNat (IntKind.bits .u64)))))))) ((ifB (decide ((n4 : Int) < n3)) (idx l1 n4 fun c12 => getC c12 0 fun a13 => asS a13 fun s14 => (ifB (decide ((s14 : List UInt8) = s2)) (some true) (idx l1 n4 fun c16 => getC c16 0 fun a17 => asS a17 fun s18 => (slices_isNaN__string (AV.str s18)).bind fun r19 => asB r19 fun b20 => (ifB b20 ((slices_isNaN__string (AV.str s2)).bind fun r22 => asB r22 fun b23 => some b23) (some false) : Option Bool).bind fun b21 => some b21) : Option Bool).bind fun b15 => some b15) (some false) : Option Bool).bind fun b11 => some (.tup [AV.int .i64 n4, AV.bool b11]))) :=
  (loopAt_eq S 100 d100 [1, 1, 1, 0, 0] _).trans (by kernel_rfl)

/-! treillage/graph.least[string]: function 105 -/
noncomputable def d105 : FD := ⟨(Tryz.f105.body).getD .skip, Tryz.f105.results.toList, 9⟩
theorem run105 (l : List AV) : ωκ S 105 l = runM τ (fun _ => none) (ωκ S) [2, 3] lpκ d105.code (look (argEnv 0 l)) (retV τ d105.rs) :=
  ωκ_run S 105 l d105 rfl (by show (Tryz.prog.funcs[105]?).bind toFD = _; rw [Tryz.func105]; rfl)
theorem graph_least__string.f_eq (l1 : List (List AV)) : graph_least__string (AV.sl 1 l1) = (idx l1 0 fun c2 => getC c2 0 fun a3 => asS a3 fun s4 => cutFrom l1 1 fun l5 => some (.tup [AV.str s4, AV.sl 1 l5])) :=
  (run105 _).trans (by kernel_rfl)

/-! slices.Sorted[string]: function 106 -/
noncomputable def d106 : FD := ⟨(Tryz.f106.body).getD .skip, Tryz.f106.results.toList, 9⟩
theorem run106 (l : List AV) : ωκ S 106 l = runM τ (fun _ => none) (ωκ S) [2] lpκ d106.code (look (argEnv 0 l)) (retV τ d106.rs) :=
  ωκ_run S 106 l d106 rfl (by show (Tryz.prog.funcs[106]?).bind toFD = _; rw [Tryz.func106]; rfl)
theorem slices_Sorted__string.f_eq (f1 : Nat) (c2 : List AV) : slices_Sorted__string (AV.fn f1 c2) = ((slices_Collect__string (AV.fn f1 c2)).bind fun r3 => asL 1 r3 fun l4 => (slices_Sort__string (AV.sl 1 l4)).bind fun r5 => asT0 r5 (some (AV.sl 1 l4))) :=
  (run106 _).trans (by kernel_rfl)

/-! treillage/treillageref08.Depth: function 108 -/
noncomputable def d108 : FD := ⟨(Tryz.f108.body).getD .skip, Tryz.f108.results.toList, 39⟩
theorem run108 (l : List AV) : ωκ S 108 l = runM τ ann108 (ωκ S) [2] lpκ d108.code (look (argEnv 0 l)) (retV τ d108.rs) :=
  ωκ_run S 108 l d108 rfl (by show (Tryz.prog.funcs[108]?).bind toFD = _; rw [Tryz.func108]; rfl)
noncomputable def ref08_Depth.l0 (a1 a3 a4 : AV) : Option AV := loopAt S 108 d108 [1, 1, 0, 1, 0] (look [(1, a1), (3, a3), (4, a4)])
noncomputable def ref08_Depth.l1 (a1 a3 a4 a5 a6 : AV) : Option AV := loopAt S 108 d108 [1, 1, 0, 1, 0, 0, 1, 0, 0, 1, 1, 0] (look [(1, a1), (3, a3), (4, a4), (5, a5), (6, a6)])
theorem ref08_Depth.f_eq (c1 : List AV) : ref08_Depth (AV.agg 1 c1) = (ref08_Depth.l0 (AV.boxv 1 c1 []) (AV.int .i64 0) (AV.int .i64 0)) :=
  (run108 _).trans (by kernel_rfl)
theorem ref08_Depth.l0_eq (c1 : List AV) (n2 : Int) (n3 : Int) : ref08_Depth.l0 (AV.boxv 1 c1 []) (AV.int .i64 n2) (AV.int .i64 n3) = (getC c1 0 fun a4 => asL 8 a4 fun l5 => ifB (decide ((n3 : Int) < (List.length l5 : Int))) (getC c1 0 fun a6 => asL 8 a6 fun l7 => idx l7 n3 fun c8 => getC c8 7 fun a9 => asL 2 a9 fun l10 => ref08_Depth.l1 (AV.boxv 1 c1 []) (AV.int .i64 n2) (AV.int .i64 n3) (AV.sl 2 l10) (AV.int .i64 0)) (some (AV.int .i64 (w64 (1 + n2))))) :=
  (loopAt_eq S 108 d108 [1, 1, 0, 1, 0] _).trans (by kernel_rfl)
theorem ref08_Depth.l1_eq (c1 : List AV) (n2 : Int) (n3 : Int) (l4 : List (List AV)) (n5 : Int) : ref08_Depth.l1 (AV.boxv 1 c1 []) (AV.int .i64 n2) (AV.int .i64 n3) (AV.sl 2 l4) (AV.int .i64 n5) = (ifB (decide ((n5 : Int) < (List.length l4 : Int))) (idx l4 n5 fun c6 => getC c6 1 fun a7 => (ref08_Depth (AV.agg 1 [a7])).bind fun r8 => asI .i64 r8 fun n9 => ifB (decide ((n2 : Int) < n9)) (ref08_Depth.l1 (AV.boxv 1 c1 []) (AV.int .i64 n9) (AV.int .i64 n3) (AV.sl 2 l4) (AV.int .i64 (w64 (n5 + 1)))) (ref08_Depth.l1 (AV.boxv 1 c1 []) (AV.int .i64 n2) (AV.int .i64 n3) (AV.sl 2 l4) (AV.int .i64 (w64 (n5 + 1))))) (ref08_Depth.l0 (AV.boxv 1 c1 []) (AV.int .i64 n2) (AV.int .i64 (w64 (n3 + 1))))) :=
  (loopAt_eq S 108 d108 [1, 1, 0, 1, 0, 0, 1, 0, 0, 1, 1, 0] _).trans (by kernel_rfl)

/-! treillage/treillageref09.Term: function 109 -/
noncomputable def d109 : FD := ⟨(Tryz.f109.body).getD .skip, Tryz.f109.results.toList, 75⟩
theorem run109 (l : List AV) : ωκ S 109 l = runM τ ann109 (ωκ S) [2] lpκ d109.code (look (argEnv 0 l)) (retV τ d109.rs) :=
  ωκ_run S 109 l d109 rfl (by show (Tryz.prog.funcs[109]?).bind toFD = _; rw [Tryz.func109]; rfl)
noncomputable def ref09_Term.l0 (a1 a3 : AV) : Option AV := loopAt S 109 d109 [1, 1, 1, 1, 0, 1, 0] (look [(1, a1), (3, a3)])
theorem ref09_Term.f_eq (c1 : List AV) : ref09_Term (AV.agg 8 c1) = (getC c1 0 fun a2 => asI .i64 a2 fun n3 => ifB (decide ((n3 : Int) = 5)) ((ref08_Terms (AV.agg 8 c1) (AV.agg 8 [AV.int .i64 5, AV.int .i64 0, AV.int .i64 0, AV.str [], AV.bool false, AV.bool false, AV.bool false, AV.sl 2 []])).bind fun r4 => asI .i64 r4 fun n5 => some (AV.bool (decide ((n5 : Int) = 0)))) (getC c1 0 fun a6 => asI .i64 a6 fun n7 => ifB (!decide ((n7 : Int) = 4)) ((ref07_Right (AV.agg 8 c1)).bind fun r8 => asB r8 fun b9 => some (AV.bool b9)) (getC c1 1 fun a10 => asI .i64 a10 fun n11 => (ifB (!decide ((n11 : Int) = 0)) (some true) (getC c1 2 fun a13 => asI .i64 a13 fun n14 => some (!decide ((n14 : Int) = 0))) : Option Bool).bind fun b12 => (ifB b12 (some true) (getC c1 3 fun a16 => asS a16 fun s17 => some (!decide ((s17 : List UInt8) = []))) : Option Bool).bind fun b15 => (ifB b15 (some true) (getC c1 4 fun a19 => asB a19 fun b20 => some b20) : Option Bool).bind fun b18 => (ifB b18 (some true) (getC c1 5 fun a22 => asB a22 fun b23 => some b23) : Option Bool).bind fun b21 => (ifB b21 (some true) (getC c1 7 fun a25 => asL 2 a25 fun l26 => some (decide ((32 : Int) < (List.length l26 : Int)))) : Option Bool).bind fun b24 => (ifB b24 (some true) (getC c1 7 fun a28 => asL 2 a28 fun l29 => (ref09_names (AV.sl 2 l29)).bind fun r30 => asB r30 fun b31 => some (!b31)) : Option Bool).bind fun b27 => ifB b27 (some (AV.bool false)) (ref09_Term.l0 (AV.boxv 8 c1 []) (AV.int .i64 0))))) :=
  (run109 _).trans (by kernel_rfl)
theorem ref09_Term.l0_eq (c1 : List AV) (n2 : Int) : ref09_Term.l0 (AV.boxv 8 c1 []) (AV.int .i64 n2) = (getC c1 7 fun a3 => asL 2 a3 fun l4 => ifB (decide ((n2 : Int) < (List.length l4 : Int))) (getC c1 7 fun a5 => asL 2 a5 fun l6 => idx l6 n2 fun c7 => getC c7 1 fun a8 => asL 8 a8 fun l9 => (ifB (decide (((List.length l9 : Int) : Int) = 0)) (some true) (getC c1 7 fun a11 => asL 2 a11 fun l12 => idx l12 n2 fun c13 => getC c13 1 fun a14 => (ref09_Right (AV.agg 1 [a14])).bind fun r15 => asB r15 fun b16 => some (!b16)) : Option Bool).bind fun b10 => ifB b10 (some (AV.bool false)) (ref09_Term.l0 (AV.boxv 8 c1 []) (AV.int .i64 (w64 (n2 + 1))))) (some (AV.bool true))) :=
  (loopAt_eq S 109 d109 [1, 1, 1, 1, 0, 1, 0] _).trans (by kernel_rfl)

/-! treillage/treillageref09.under: function 110 -/
noncomputable def d110 : FD := ⟨(Tryz.f110.body).getD .skip, Tryz.f110.results.toList, 85⟩
theorem run110 (l : List AV) : ωκ S 110 l = runM τ ann110 (ωκ S) [4] lpκ d110.code (look (argEnv 0 l)) (retV τ d110.rs) :=
  ωκ_run S 110 l d110 rfl (by show (Tryz.prog.funcs[110]?).bind toFD = _; rw [Tryz.func110]; rfl)
noncomputable def ref09_under.l0 (a2 a3 a5 : AV) : Option AV := loopAt S 110 d110 [1, 1, 1, 1, 0, 1, 0] (look [(2, a2), (3, a3), (5, a5)])
noncomputable def ref09_under.l1 (a2 a3 a6 : AV) : Option AV := loopAt S 110 d110 [1, 1, 1, 1, 1, 0, 1, 0] (look [(2, a2), (3, a3), (6, a6)])
theorem ref09_under.f_eq (c1 : List AV) (c2 : List AV) : ref09_under (AV.agg 8 c1) (AV.agg 8 c2) = (getC c2 0 fun a3 => asI .i64 a3 fun n4 => ifB (decide ((n4 : Int) = 5)) (some (AV.bool true)) (getC c1 0 fun a5 => asI .i64 a5 fun n6 => (ifB (!decide ((n6 : Int) = 4)) (some true) (getC c2 0 fun a8 => asI .i64 a8 fun n9 => some (!decide ((n9 : Int) = 4))) : Option Bool).bind fun b7 => ifB b7 ((ref07_Below (AV.agg 8 c1) (AV.agg 8 c2)).bind fun r10 => asB r10 fun b11 => some (AV.bool b11)) (getC c1 6 fun a12 => asB a12 fun b13 => (ifB b13 (getC c2 6 fun a15 => asB a15 fun b16 => some (!b16)) (some false) : Option Bool).bind fun b14 => ifB b14 (some (AV.bool false)) (ref09_under.l0 (AV.boxv 8 c1 []) (AV.boxv 8 c2 []) (AV.int .i64 0))))) :=
  (run110 _).trans (by kernel_rfl)
theorem ref09_under.l0_eq (c1 : List AV) (c2 : List AV) (n3 : Int) : ref09_under.l0 (AV.boxv 8 c1 []) (AV.boxv 8 c2 []) (AV.int .i64 n3) = (getC c1 7 fun a4 => asL 2 a4 fun l5 => (ifB (decide ((n3 : Int) < (List.length l5 : Int))) (getC c2 6 fun a7 => asB a7 fun b8 => some (!b8)) (some false) : Option Bool).bind fun b6 => ifB b6 (getC c2 7 fun a9 => asL 2 a9 fun l10 => getC c1 7 fun a11 => asL 2 a11 fun l12 => idx l12 n3 fun c13 => getC c13 0 fun a14 => asS a14 fun s15 => (ref09_Find (AV.sl 2 l10) (AV.str s15)).bind fun r16 => asI .i64 r16 fun n17 => ifB (decide ((n17 : Int) < 0)) (some (AV.bool false)) (ref09_under.l0 (AV.boxv 8 c1 []) (AV.boxv 8 c2 []) (AV.int .i64 (w64 (n3 + 1))))) (ref09_under.l1 (AV.boxv 8 c1 []) (AV.boxv 8 c2 []) (AV.int .i64 0))) :=
  (loopAt_eq S 110 d110 [1, 1, 1, 1, 0, 1, 0] _).trans (by kernel_rfl)
theorem ref09_under.l1_eq (c1 : List AV) (c2 : List AV) (n3 : Int) : ref09_under.l1 (AV.boxv 8 c1 []) (AV.boxv 8 c2 []) (AV.int .i64 n3) = (getC c2 7 fun a4 => asL 2 a4 fun l5 => ifB (decide ((n3 : Int) < (List.length l5 : Int))) (getC c1 7 fun a6 => asL 2 a6 fun l7 => getC c2 7 fun a8 => asL 2 a8 fun l9 => idx l9 n3 fun c10 => getC c10 0 fun a11 => asS a11 fun s12 => (ref09_Find (AV.sl 2 l7) (AV.str s12)).bind fun r13 => asI .i64 r13 fun n14 => (ifB (decide ((n14 : Int) < 0)) (some true) (getC c1 7 fun a16 => asL 2 a16 fun l17 => idx l17 n14 fun c18 => getC c18 1 fun a19 => getC c2 7 fun a20 => asL 2 a20 fun l21 => idx l21 n3 fun c22 => getC c22 1 fun a23 => (ref09_Under (AV.agg 1 [a19]) (AV.agg 1 [a23])).bind fun r24 => asB r24 fun b25 => some (!b25)) : Option Bool).bind fun b15 => ifB b15 (some (AV.bool false)) (ref09_under.l1 (AV.boxv 8 c1 []) (AV.boxv 8 c2 []) (AV.int .i64 (w64 (n3 + 1))))) (some (AV.bool true))) :=
  (loopAt_eq S 110 d110 [1, 1, 1, 1, 1, 0, 1, 0] _).trans (by kernel_rfl)

/-! treillage/treillageref07.Single: function 111 -/
noncomputable def d111 : FD := ⟨(Tryz.f111.body).getD .skip, Tryz.f111.results.toList, 14⟩
theorem run111 (l : List AV) : ωκ S 111 l = runM τ (fun _ => none) (ωκ S) [2] lpκ d111.code (look (argEnv 0 l)) (retV τ d111.rs) :=
  ωκ_run S 111 l d111 rfl (by show (Tryz.prog.funcs[111]?).bind toFD = _; rw [Tryz.func111]; rfl)
theorem ref07_Single.f_eq (c1 : List AV) : ref07_Single (AV.agg 8 c1) = (getC c1 0 fun a2 => asI .i64 a2 fun n3 => ifB (decide ((n3 : Int) = 3)) (getC c1 4 fun a4 => asB a4 fun b5 => some (AV.bool (!b5))) (getC c1 1 fun a6 => asI .i64 a6 fun n7 => getC c1 2 fun a8 => asI .i64 a8 fun n9 => some (AV.bool (decide ((n7 : Int) = n9))))) :=
  (run111 _).trans (by kernel_rfl)

/-! treillage/treillageref02.Word: function 112 -/
noncomputable def d112 : FD := ⟨(Tryz.f112.body).getD .skip, Tryz.f112.results.toList, 22⟩
theorem run112 (l : List AV) : ωκ S 112 l = runM τ (fun _ => none) (ωκ S) [2] lpκ d112.code (look (argEnv 0 l)) (retV τ d112.rs) :=
  ωκ_run S 112 l d112 rfl (by show (Tryz.prog.funcs[112]?).bind toFD = _; rw [Tryz.func112]; rfl)
theorem ref02_Word.f_eq (s1 : List UInt8) : ref02_Word (AV.str s1) = (ifB (decide ((s1 : List UInt8) = [97, 110, 121])) (some (AV.int .i64 1)) (ifB (decide ((s1 : List UInt8) = [98, 111, 111, 108])) (some (AV.int .i64 2)) (ifB (decide ((s1 : List UInt8) = [99, 111, 109, 112, 117, 116, 101, 100])) (some (AV.int .i64 3)) (ifB (decide ((s1 : List UInt8) = [102, 97, 108, 115, 101])) (some (AV.int .i64 4)) (ifB (decide ((s1 : List UInt8) = [105, 110, 116])) (some (AV.int .i64 5)) (ifB (decide ((s1 : List UInt8) = [110, 111, 110, 101])) (some (AV.int .i64 6)) (ifB (decide ((s1 : List UInt8) = [114, 101, 115, 111, 117, 114, 99, 101])) (some (AV.int .i64 7)) (ifB (decide ((s1 : List UInt8) = [115, 116, 114, 105, 110, 103])) (some (AV.int .i64 8)) (ifB (decide ((s1 : List UInt8) = [116, 114, 117, 101])) (some (AV.int .i64 9)) (some (AV.int .i64 0))))))))))) :=
  (run112 _).trans (by kernel_rfl)

/-! treillage/treillageref17.Put: function 113 -/
noncomputable def d113 : FD := ⟨(Tryz.f113.body).getD .skip, Tryz.f113.results.toList, 46⟩
theorem run113 (l : List AV) : ωκ S 113 l = runM τ ann113 (ωκ S) [4] lpκ d113.code (look (argEnv 0 l)) (retV τ d113.rs) :=
  ωκ_run S 113 l d113 rfl (by show (Tryz.prog.funcs[113]?).bind toFD = _; rw [Tryz.func113]; rfl)
noncomputable def ref17_Put.l0 (a0 a1 a5 a6 a7 : AV) : Option AV := loopAt S 113 d113 [1, 1, 1, 1, 0, 1, 0] (look [(0, a0), (1, a1), (5, a5), (6, a6), (7, a7)])
noncomputable def ref17_Put.j1 (a0 a1 a5 a6 a7 : AV) : Option AV := joinAt S 113 d113 [1, 1, 1, 1, 0, 1, 0, 0, 1, 0, 0] (look [(0, a0), (1, a1), (5, a5), (6, a6), (7, a7)])
theorem ref17_Put.f_eq (l1 : List (List AV)) (s2 : List UInt8) : ref17_Put (AV.sl 1 l1) (AV.str s2) = ((ref17_Has (AV.sl 1 l1) (AV.str s2)).bind fun r3 => asB r3 fun b4 => ifB b4 (some (AV.sl 1 l1)) (ref17_Put.l0 (AV.sl 1 l1) (AV.str s2) (AV.own 1 []) (AV.bool false) (AV.int .i64 0))) :=
  (run113 _).trans (by kernel_rfl)
theorem ref17_Put.l0_eq (l1 : List (List AV)) (s2 : List UInt8) (l3 : List (List AV)) (n4 : Int) : ref17_Put.l0 (AV.sl 1 l1) (AV.str s2) (AV.own 1 l3) (AV.bool false) (AV.int .i64 n4) = (ifB (decide ((n4 : Int) < (List.length l1 : Int))) ((idx l1 n4 fun c6 => getC c6 0 fun a7 => asS a7 fun s8 => some (bytesLt s2 s8) : Option Bool).bind fun b5 => ifB b5 (guardK (Nat.ble (List.length l3 + List.length ([[AV.str s2]])) lim) <| ref17_Put.j1 (AV.sl 1 l1) (AV.str s2) (AV.own 1 (l3 ++ ([[AV.str s2]]))) (AV.bool true) (AV.int .i64 n4)) (ref17_Put.j1 (AV.sl 1 l1) (AV.str s2) (AV.own 1 l3) (AV.bool false) (AV.int .i64 n4))) (guardK (Nat.ble (List.length l3 + List.length ([[AV.str s2]])) lim) <| some (AV.own 1 (l3 ++ ([[AV.str s2]]))))) :=
  (loopAt_eq S 113 d113 [1, 1, 1, 1, 0, 1, 0] _).trans (by kernel_rfl)
theorem ref17_Put.j1_eq (l1 : List (List AV)) (s2 : List UInt8) (l3 : List (List AV)) (n4 : Int) : ref17_Put.j1 (AV.sl 1 l1) (AV.str s2) (AV.own 1 l3) (AV.bool true) (AV.int .i64 n4) = (idx l1 n4 fun c5 => getC c5 0 fun a6 => asS a6 fun s7 => guardK (Nat.ble (List.length l3 + List.length ([[AV.str s7]])) lim) <| ref17_Put.l0 (AV.sl 1 l1) (AV.str s2) (AV.own 1 (l3 ++ ([[AV.str s7]]))) (AV.bool true) (AV.int .i64 (w64 (n4 + 1)))) :=
  (joinAt_eq S 113 d113 [1, 1, 1, 1, 0, 1, 0, 0, 1, 0, 0] _).trans (by kernel_rfl)
theorem ref17_Put.j1_eq2 (l1 : List (List AV)) (s2 : List UInt8) (l3 : List (List AV)) (n4 : Int) : ref17_Put.j1 (AV.sl 1 l1) (AV.str s2) (AV.own 1 l3) (AV.bool false) (AV.int .i64 n4) = (idx l1 n4 fun c5 => getC c5 0 fun a6 => asS a6 fun s7 => guardK (Nat.ble (List.length l3 + List.length ([[AV.str s7]])) lim) <| ref17_Put.l0 (AV.sl 1 l1) (AV.str s2) (AV.own 1 (l3 ++ ([[AV.str s7]]))) (AV.bool false) (AV.int .i64 (w64 (n4 + 1)))) :=
  (joinAt_eq S 113 d113 [1, 1, 1, 1, 0, 1, 0, 0, 1, 0, 0] _).trans (by kernel_rfl)
theorem ref17_Put.l0_eq2 (l1 : List (List AV)) (s2 : List UInt8) (l3 : List (List AV)) (n4 : Int) : ref17_Put.l0 (AV.sl 1 l1) (AV.str s2) (AV.own 1 l3) (AV.bool true) (AV.int .i64 n4) = (ifB (decide ((n4 : Int) < (List.length l1 : Int))) (ref17_Put.j1 (AV.sl 1 l1) (AV.str s2) (AV.own 1 l3) (AV.bool true) (AV.int .i64 n4)) (some (AV.own 1 l3))) :=
  (loopAt_eq S 113 d113 [1, 1, 1, 1, 0, 1, 0] _).trans (by kernel_rfl)

/-! treillage/rank.lists[treillage/api.Term]: function 114 -/
noncomputable def d114 : FD := ⟨(Tryz.f114.body).getD .skip, Tryz.f114.results.toList, 36⟩
theorem run114 (l : List AV) : ωκ S 114 l = runM τ ann114 (ωκ S) [6] lpκ d114.code (look (argEnv 0 l)) (retV τ d114.rs) :=
  ωκ_run S 114 l d114 rfl (by show (Tryz.prog.funcs[114]?).bind toFD = _; rw [Tryz.func114]; rfl)
noncomputable def rank_lists__Term.l0 (a0 a1 a2 a13 a14 : AV) : Option AV := loopAt S 114 d114 [1, 0, 1, 0] (look [(0, a0), (1, a1), (2, a2), (13, a13), (14, a14)])
theorem rank_lists__Term.f_eq (l1 : List (List AV)) (l2 : List (List AV)) (f3 : Nat) (c4 : List AV) : rank_lists__Term (AV.sl 8 l1) (AV.sl 8 l2) (AV.fn f3 c4) = (rank_lists__Term.l0 (AV.sl 8 l1) (AV.sl 8 l2) (AV.fn f3 c4) (AV.int .i64 (min ((List.length l1 : Int) : Int) (List.length l2 : Int))) (AV.int .i64 0)) :=
  (run114 _).trans (by kernel_rfl)
theorem rank_lists__Term.l0_eq (l1 : List (List AV)) (l2 : List (List AV)) (f3 : Nat) (c4 : List AV) (n5 : Int) (n6 : Int) : rank_lists__Term.l0 (AV.sl 8 l1) (AV.sl 8 l2) (AV.fn f3 c4) (AV.int .i64 n5) (AV.int .i64 n6) = (ifB (decide ((n6 : Int) < n5)) (idx l1 n6 fun c7 => idx l2 n6 fun c8 => (ωκ S f3 ([AV.agg 8 c7, AV.agg 8 c8] ++ c4)).bind fun r9 => asI .i64 r9 fun n10 => ifB (!decide ((n10 : Int) = 0)) (some (AV.int .i64 n10)) (rank_lists__Term.l0 (AV.sl 8 l1) (AV.sl 8 l2) (AV.fn f3 c4) (AV.int .i64 n5) (AV.int .i64 (w64 (n6 + 1))))) ((cmp_Compare__int (AV.int .i64 (List.length l1 : Int)) (AV.int .i64 (List.length l2 : Int))).bind fun r11 => asI .i64 r11 fun n12 => some (AV.int .i64 n12))) :=
  (loopAt_eq S 114 d114 [1, 0, 1, 0] _).trans (by kernel_rfl)

/-! treillage/rank.Terms: function 115 -/
noncomputable def d115 : FD := ⟨(Tryz.f115.body).getD .skip, Tryz.f115.results.toList, 53⟩
theorem run115 (l : List AV) : ωκ S 115 l = runM τ (fun _ => none) (ωκ S) [4] lpκ d115.code (look (argEnv 0 l)) (retV τ d115.rs) :=
  ωκ_run S 115 l d115 rfl (by show (Tryz.prog.funcs[115]?).bind toFD = _; rw [Tryz.func115]; rfl)
theorem rank_Terms.f_eq (c1 : List AV) (c2 : List AV) : rank_Terms (AV.agg 8 c1) (AV.agg 8 c2) = (getC c1 0 fun a3 => asI .i64 a3 fun n4 => getC c2 0 fun a5 => asI .i64 a5 fun n6 => (cmp_Compare__int (AV.int .i64 n4) (AV.int .i64 n6)).bind fun r7 => asI .i64 r7 fun n8 => getC c1 1 fun a9 => asI .i64 a9 fun n10 => getC c2 1 fun a11 => asI .i64 a11 fun n12 => (cmp_Compare__int (AV.int .i64 n10) (AV.int .i64 n12)).bind fun r13 => asI .i64 r13 fun n14 => getC c1 2 fun a15 => asI .i64 a15 fun n16 => getC c2 2 fun a17 => asI .i64 a17 fun n18 => (cmp_Compare__int (AV.int .i64 n16) (AV.int .i64 n18)).bind fun r19 => asI .i64 r19 fun n20 => getC c1 3 fun a21 => asS a21 fun s22 => getC c2 3 fun a23 => asS a23 fun s24 => (strings_Compare (AV.str s22) (AV.str s24)).bind fun r25 => asI .i64 r25 fun n26 => getC c1 4 fun a27 => asB a27 fun b28 => (rank_flag (AV.bool b28)).bind fun r29 => asI .i64 r29 fun n30 => getC c2 4 fun a31 => asB a31 fun b32 => (rank_flag (AV.bool b32)).bind fun r33 => asI .i64 r33 fun n34 => getC c1 5 fun a35 => asB a35 fun b36 => (rank_flag (AV.bool b36)).bind fun r37 => asI .i64 r37 fun n38 => getC c2 5 fun a39 => asB a39 fun b40 => (rank_flag (AV.bool b40)).bind fun r41 => asI .i64 r41 fun n42 => getC c1 6 fun a43 => asB a43 fun b44 => (rank_flag (AV.bool b44)).bind fun r45 => asI .i64 r45 fun n46 => getC c2 6 fun a47 => asB a47 fun b48 => (rank_flag (AV.bool b48)).bind fun r49 => asI .i64 r49 fun n50 => getC c1 7 fun a51 => asL 2 a51 fun l52 => getC c2 7 fun a53 => asL 2 a53 fun l54 => (rank_lists__Field (AV.sl 2 l52) (AV.sl 2 l54) (AV.fn 152 [])).bind fun r55 => asI .i64 r55 fun n56 => (rank_first (AV.sl 1 ([[AV.int .i64 n8], [AV.int .i64 n14], [AV.int .i64 n20], [AV.int .i64 n26], [AV.int .i64 (w64 (n30 - n34))], [AV.int .i64 (w64 (n38 - n42))], [AV.int .i64 (w64 (n46 - n50))], [AV.int .i64 n56]]))).bind fun r57 => asI .i64 r57 fun n58 => some (AV.int .i64 n58)) :=
  (run115 _).trans (by kernel_rfl)

/-! treillage/fact.Ready$1: function 116 -/
noncomputable def d116 : FD := ⟨(Tryz.f116.body).getD .skip, Tryz.f116.results.toList, 9⟩
theorem run116 (l : List AV) : ωκ S 116 l = runM τ (fun _ => none) (ωκ S) [2] lpκ d116.code (look (argEnv 0 l)) (retV τ d116.rs) :=
  ωκ_run S 116 l d116 rfl (by show (Tryz.prog.funcs[116]?).bind toFD = _; rw [Tryz.func116]; rfl)
theorem fact_Ready_1.f_eq (c1 : List AV) : fact_Ready_1 (AV.agg 8 c1) = (getC c1 5 fun a2 => asB a2 fun b3 => (ifB b3 (some true) ((scalar_Atom (AV.agg 8 c1)).bind fun r5 => asB r5 fun b6 => some b6) : Option Bool).bind fun b4 => some (AV.bool b4)) :=
  (run116 _).trans (by kernel_rfl)
end Go.Proofs.YtffojfcinkihnaaGreatDoor.Abs
