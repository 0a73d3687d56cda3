/- What the code comes to, function by function (printed by gen.py). -/
import Derived.Test.YtffojfcinkihnaaGreatDoorAbsT
set_option linter.unusedVariables false
set_option linter.unusedSimpArgs false
set_option linter.unusedSectionVars false
set_option linter.deprecated false
set_option linter.unnecessarySimpa false
namespace Go.Proofs.YtffojfcinkihnaaGreatDoor.Abs
set_option linter.unusedVariables false
set_option maxRecDepth 100000

/-! treillage/scalar.Right: function 132 -/
noncomputable def d132 : FD := ⟨(Tryz.f132.body).getD .skip, Tryz.f132.results.toList, 79⟩
theorem run132 (l : List AV) : ωκ S 132 l = runM τ ann132 (ωκ S) [2] lpκ d132.code (look (argEnv 0 l)) (retV τ d132.rs) :=
  ωκ_run S 132 l d132 rfl (by show (Tryz.prog.funcs[132]?).bind toFD = _; rw [Tryz.func132]; rfl)
noncomputable def scalar_Right.j0 (a1 a3 a4 : AV) : Option AV := joinAt S 132 d132 [1, 1, 1, 1, 0, 1, 0] (look [(1, a1), (3, a3), (4, a4)])
theorem scalar_Right.f_eq (c1 : List AV) : scalar_Right (AV.agg 8 c1) = ((scalar_bare (AV.agg 8 c1)).bind fun r2 => asB r2 fun b3 => (ifB (!b3) (some true) (getC c1 5 fun a5 => asB a5 fun b6 => (ifB b6 ((scalar_one (AV.agg 8 c1)).bind fun r8 => asB r8 fun b9 => some b9) (some false) : Option Bool).bind fun b7 => some b7) : Option Bool).bind fun b4 => ifB b4 (some (AV.bool false)) (getC c1 0 fun a10 => asI .i64 a10 fun n11 => ifB (decide ((n11 : Int) = 3)) (getC c1 1 fun a12 => asI .i64 a12 fun n13 => (ifB (decide ((n13 : Int) = 0)) (getC c1 2 fun a15 => asI .i64 a15 fun n16 => some (decide ((n16 : Int) = 0))) (some false) : Option Bool).bind fun b14 => (ifB b14 (getC c1 4 fun a18 => asB a18 fun b19 => (ifB b19 (getC c1 3 fun a21 => asS a21 fun s22 => some (decide ((s22 : List UInt8) = []))) (some false) : Option Bool).bind fun b20 => (ifB b20 (some true) (getC c1 4 fun a24 => asB a24 fun b25 => (ifB (!b25) (getC c1 3 fun a27 => asS a27 fun s28 => some (decide (((List.length s28 : Int) : Int) ≤ 256))) (some false) : Option Bool).bind fun b26 => some b26) : Option Bool).bind fun b23 => some b23) (some false) : Option Bool).bind fun b17 => some (AV.bool b17)) (ifB (decide ((n11 : Int) = 2)) (scalar_Right.j0 (AV.boxv 8 c1 []) (AV.int .i64 9007199254740992) (AV.int .i64 (-9007199254740992))) (ifB (decide ((n11 : Int) = 1)) (scalar_Right.j0 (AV.boxv 8 c1 []) (AV.int .i64 1) (AV.int .i64 0)) (some (AV.bool false)))))) :=
  (run132 _).trans (by kernel_rfl)
theorem scalar_Right.j0_eq (c1 : List AV) (n2 : Int) (n3 : Int) : scalar_Right.j0 (AV.boxv 8 c1 []) (AV.int .i64 n2) (AV.int .i64 n3) = (getC c1 1 fun a4 => asI .i64 a4 fun n5 => (ifB (decide ((n3 : Int) ≤ n5)) (getC c1 1 fun a7 => asI .i64 a7 fun n8 => getC c1 2 fun a9 => asI .i64 a9 fun n10 => some (decide ((n8 : Int) ≤ n10))) (some false) : Option Bool).bind fun b6 => (ifB b6 (getC c1 2 fun a12 => asI .i64 a12 fun n13 => some (decide ((n13 : Int) ≤ n2))) (some false) : Option Bool).bind fun b11 => (ifB b11 (getC c1 3 fun a15 => asS a15 fun s16 => some (decide ((s16 : List UInt8) = []))) (some false) : Option Bool).bind fun b14 => (ifB b14 (getC c1 4 fun a18 => asB a18 fun b19 => some (!b19)) (some false) : Option Bool).bind fun b17 => some (AV.bool b17)) :=
  (joinAt_eq S 132 d132 [1, 1, 1, 1, 0, 1, 0] _).trans (by kernel_rfl)

/-! treillage/scalar.one: function 133 -/
noncomputable def d133 : FD := ⟨(Tryz.f133.body).getD .skip, Tryz.f133.results.toList, 14⟩
theorem run133 (l : List AV) : ωκ S 133 l = runM τ (fun _ => none) (ωκ S) [2] lpκ d133.code (look (argEnv 0 l)) (retV τ d133.rs) :=
  ωκ_run S 133 l d133 rfl (by show (Tryz.prog.funcs[133]?).bind toFD = _; rw [Tryz.func133]; rfl)
theorem scalar_one.f_eq (c1 : List AV) : scalar_one (AV.agg 8 c1) = (getC c1 0 fun a2 => asI .i64 a2 fun n3 => ifB (decide ((n3 : Int) = 3)) (getC c1 4 fun a4 => asB a4 fun b5 => some (AV.bool (!b5))) (getC c1 1 fun a6 => asI .i64 a6 fun n7 => getC c1 2 fun a8 => asI .i64 a8 fun n9 => some (AV.bool (decide ((n7 : Int) = n9))))) :=
  (run133 _).trans (by kernel_rfl)

/-! cmp.Less[string]: function 134 -/
noncomputable def d134 : FD := ⟨(Tryz.f134.body).getD .skip, Tryz.f134.results.toList, 17⟩
theorem run134 (l : List AV) : ωκ S 134 l = runM τ (fun _ => none) (ωκ S) [4] lpκ d134.code (look (argEnv 0 l)) (retV τ d134.rs) :=
  ωκ_run S 134 l d134 rfl (by show (Tryz.prog.funcs[134]?).bind toFD = _; rw [Tryz.func134]; rfl)
theorem cmp_Less__string.f_eq (s1 : List UInt8) (s2 : List UInt8) : cmp_Less__string (AV.str s1) (AV.str s2) = ((cmp_isNaN__string (AV.str s1)).bind fun r3 => asB r3 fun b4 => (ifB b4 ((cmp_isNaN__string (AV.str s2)).bind fun r6 => asB r6 fun b7 => some (!b7)) (some false) : Option Bool).bind fun b5 => (ifB b5 (some true) (some (bytesLt s1 s2)) : Option Bool).bind fun b8 => some (AV.bool b8)) :=
  (run134 _).trans (by kernel_rfl)

/-! slices.isNaN[string]: function 135 -/
noncomputable def d135 : FD := ⟨(Tryz.f135.body).getD .skip, Tryz.f135.results.toList, 6⟩
theorem run135 (l : List AV) : ωκ S 135 l = runM τ (fun _ => none) (ωκ S) [2] lpκ d135.code (look (argEnv 0 l)) (retV τ d135.rs) :=
  ωκ_run S 135 l d135 rfl (by show (Tryz.prog.funcs[135]?).bind toFD = _; rw [Tryz.func135]; rfl)
theorem slices_isNaN__string.f_eq (s1 : List UInt8) : slices_isNaN__string (AV.str s1) = (some (AV.bool (!decide ((s1 : List UInt8) = s1)))) :=
  (run135 _).trans (by kernel_rfl)

/-! slices.rotateRight[string]: function 137 -/
noncomputable def d137 : FD := ⟨(Tryz.f137.body).getD .skip, Tryz.f137.results.toList, 10⟩
theorem run137 (l : List AV) : ωκ S 137 l = runM τ (fun _ => none) (ωκ S) [] lpκ d137.code (look (argEnv 0 l)) (retV τ d137.rs) :=
  ωκ_run S 137 l d137 rfl (by show (Tryz.prog.funcs[137]?).bind toFD = _; rw [Tryz.func137]; rfl)
theorem slices_rotateRight__string.f_eq (l1 : List (List AV)) (n2 : Int) : slices_rotateRight__string (AV.sl 1 l1) (AV.int .i64 n2) = ((slices_rotateLeft__string (AV.sl 1 l1) (AV.int .i64 (w64 ((List.length l1 : Int) - n2)))).bind fun r3 => asT0 r3 (some (.tup []))) :=
  (run137 _).trans (by kernel_rfl)

/-! slices.Collect[string]: function 139 -/
noncomputable def d139 : FD := ⟨(Tryz.f139.body).getD .skip, Tryz.f139.results.toList, 5⟩
theorem run139 (l : List AV) : ωκ S 139 l = runM τ (fun _ => none) (ωκ S) [2] lpκ d139.code (look (argEnv 0 l)) (retV τ d139.rs) :=
  ωκ_run S 139 l d139 rfl (by show (Tryz.prog.funcs[139]?).bind toFD = _; rw [Tryz.func139]; rfl)
theorem slices_Collect__string.f_eq (f1 : Nat) (c2 : List AV) : slices_Collect__string (AV.fn f1 c2) = ((slices_AppendSeq__string (AV.sl 1 []) (AV.fn f1 c2)).bind fun r3 => asL 1 r3 fun l4 => some (AV.sl 1 l4)) :=
  (run139 _).trans (by kernel_rfl)

/-! slices.Sort[[]string,string]: function 140 -/
noncomputable def d140 : FD := ⟨(Tryz.f140.body).getD .skip, Tryz.f140.results.toList, 11⟩
theorem run140 (l : List AV) : ωκ S 140 l = runM τ (fun _ => none) (ωκ S) [] lpκ d140.code (look (argEnv 0 l)) (retV τ d140.rs) :=
  ωκ_run S 140 l d140 rfl (by show (Tryz.prog.funcs[140]?).bind toFD = _; rw [Tryz.func140]; rfl)
theorem slices_Sort__string.f_eq (l1 : List (List AV)) : slices_Sort__string (AV.sl 1 l1) = ((math_bits_Len (AV.int .u64 (IntKind.wrap .u64 ((List.length l1 : Int))))).bind fun r2 => asI .i64 r2 fun n3 => (slices_pdqsortOrdered__string (AV.sl 1 l1) (AV.int .i64 0) (AV.int .i64 (List.length l1 : Int)) (AV.int .i64 n3)).bind fun r4 => asT0 r4 (some (.tup []))) :=
  (run140 _).trans (by kernel_rfl)

/-! maps.Keys[map[string]int,string,int]$1: function 141 -/
noncomputable def d141 : FD := ⟨(Tryz.f141.body).getD .skip, Tryz.f141.results.toList, 14⟩
theorem run141 (l : List AV) : ωκ S 141 l = runM τ ann141 (ωκ S) [] lpκ d141.code (look (argEnv 0 l)) (retV τ d141.rs) :=
  ωκ_run S 141 l d141 rfl (by show (Tryz.prog.funcs[141]?).bind toFD = _; rw [Tryz.func141]; rfl)

/-! treillage/treillageref07.Right: function 142 -/
noncomputable def d142 : FD := ⟨(Tryz.f142.body).getD .skip, Tryz.f142.results.toList, 82⟩
theorem run142 (l : List AV) : ωκ S 142 l = runM τ (fun _ => none) (ωκ S) [2] lpκ d142.code (look (argEnv 0 l)) (retV τ d142.rs) :=
  ωκ_run S 142 l d142 rfl (by show (Tryz.prog.funcs[142]?).bind toFD = _; rw [Tryz.func142]; rfl)
theorem ref07_Right.f_eq (c1 : List AV) : ref07_Right (AV.agg 8 c1) = (getC c1 6 fun a2 => asB a2 fun b3 => (ifB b3 (some true) (getC c1 7 fun a5 => asL 2 a5 fun l6 => some (decide ((0 : Int) < (List.length l6 : Int)))) : Option Bool).bind fun b4 => (ifB b4 (some true) (getC c1 5 fun a8 => asB a8 fun b9 => (ifB b9 ((ref07_Single (AV.agg 8 c1)).bind fun r11 => asB r11 fun b12 => some b12) (some false) : Option Bool).bind fun b10 => some b10) : Option Bool).bind fun b7 => ifB b7 (some (AV.bool false)) (getC c1 0 fun a13 => asI .i64 a13 fun n14 => ifB (decide ((n14 : Int) = 3)) (getC c1 1 fun a15 => asI .i64 a15 fun n16 => (ifB (!decide ((n16 : Int) = 0)) (some true) (getC c1 2 fun a18 => asI .i64 a18 fun n19 => some (!decide ((n19 : Int) = 0))) : Option Bool).bind fun b17 => (ifB b17 (some true) (getC c1 3 fun a21 => asS a21 fun s22 => some (decide ((256 : Int) < (List.length s22 : Int)))) : Option Bool).bind fun b20 => ifB b20 (some (AV.bool false)) (getC c1 4 fun a23 => asB a23 fun b24 => (ifB (!b24) (some true) (getC c1 3 fun a26 => asS a26 fun s27 => some (decide ((s27 : List UInt8) = []))) : Option Bool).bind fun b25 => some (AV.bool b25))) (getC c1 3 fun a28 => asS a28 fun s29 => (ifB (!decide ((s29 : List UInt8) = [])) (some true) (getC c1 4 fun a31 => asB a31 fun b32 => some b32) : Option Bool).bind fun b30 => (ifB b30 (some true) (getC c1 1 fun a34 => asI .i64 a34 fun n35 => getC c1 2 fun a36 => asI .i64 a36 fun n37 => some (decide ((n37 : Int) < n35))) : Option Bool).bind fun b33 => ifB b33 (some (AV.bool false)) (getC c1 0 fun a38 => asI .i64 a38 fun n39 => ifB (decide ((n39 : Int) = 1)) (getC c1 1 fun a40 => asI .i64 a40 fun n41 => (ifB (decide ((0 : Int) ≤ n41)) (getC c1 2 fun a43 => asI .i64 a43 fun n44 => some (decide ((n44 : Int) ≤ 1))) (some false) : Option Bool).bind fun b42 => some (AV.bool b42)) (getC c1 0 fun a45 => asI .i64 a45 fun n46 => (ifB (decide ((n46 : Int) = 2)) (getC c1 1 fun a48 => asI .i64 a48 fun n49 => some (decide (((-9007199254740992) : Int) ≤ n49))) (some false) : Option Bool).bind fun b47 => (ifB b47 (getC c1 2 fun a51 => asI .i64 a51 fun n52 => some (decide ((n52 : Int) ≤ 9007199254740992))) (some false) : Option Bool).bind fun b50 => some (AV.bool b50)))))) :=
  (run142 _).trans (by kernel_rfl)

/-! treillage/treillageref09.names: function 143 -/
noncomputable def d143 : FD := ⟨(Tryz.f143.body).getD .skip, Tryz.f143.results.toList, 21⟩
theorem run143 (l : List AV) : ωκ S 143 l = runM τ ann143 (ωκ S) [2] lpκ d143.code (look (argEnv 0 l)) (retV τ d143.rs) :=
  ωκ_run S 143 l d143 rfl (by show (Tryz.prog.funcs[143]?).bind toFD = _; rw [Tryz.func143]; rfl)
noncomputable def ref09_names.l0 (a0 a3 a4 : AV) : Option AV := loopAt S 143 d143 [1, 1, 0, 1, 0] (look [(0, a0), (3, a3), (4, a4)])
theorem ref09_names.f_eq (l1 : List (List AV)) : ref09_names (AV.sl 2 l1) = (ref09_names.l0 (AV.sl 2 l1) (AV.own 1 []) (AV.int .i64 0)) :=
  (run143 _).trans (by kernel_rfl)
theorem ref09_names.l0_eq (l1 : List (List AV)) (l2 : List (List AV)) (n3 : Int) : ref09_names.l0 (AV.sl 2 l1) (AV.own 1 l2) (AV.int .i64 n3) = (ifB (decide ((n3 : Int) < (List.length l1 : Int))) (idx l1 n3 fun c4 => getC c4 0 fun a5 => asS a5 fun s6 => guardK (Nat.ble (List.length l2 + List.length ([[AV.str s6]])) lim) <| ref09_names.l0 (AV.sl 2 l1) (AV.own 1 (l2 ++ ([[AV.str s6]]))) (AV.int .i64 (w64 (n3 + 1)))) ((ref02_Rising (AV.sl 1 l2)).bind fun r7 => asB r7 fun b8 => some (AV.bool b8))) :=
  (loopAt_eq S 143 d143 [1, 1, 0, 1, 0] _).trans (by kernel_rfl)

/-! treillage/treillageref07.Below: function 144 -/
noncomputable def d144 : FD := ⟨(Tryz.f144.body).getD .skip, Tryz.f144.results.toList, 19⟩
theorem run144 (l : List AV) : ωκ S 144 l = runM τ (fun _ => none) (ωκ S) [4] lpκ d144.code (look (argEnv 0 l)) (retV τ d144.rs) :=
  ωκ_run S 144 l d144 rfl (by show (Tryz.prog.funcs[144]?).bind toFD = _; rw [Tryz.func144]; rfl)
theorem ref07_Below.f_eq (c1 : List AV) (c2 : List AV) : ref07_Below (AV.agg 8 c1) (AV.agg 8 c2) = ((ref07_Meet (AV.agg 8 c1) (AV.agg 8 c2)).bind fun r3 => asT2 r3 fun a4 a5 => asC 8 a4 fun c6 => asB a5 fun b7 => (ifB b7 ((ref07_Same (AV.agg 8 c6) (AV.agg 8 c1)).bind fun r9 => asB r9 fun b10 => some b10) (some false) : Option Bool).bind fun b8 => some (AV.bool b8)) :=
  (run144 _).trans (by kernel_rfl)

/-! treillage/treillageref09.Find: function 145 -/
noncomputable def d145 : FD := ⟨(Tryz.f145.body).getD .skip, Tryz.f145.results.toList, 20⟩
theorem run145 (l : List AV) : ωκ S 145 l = runM τ ann145 (ωκ S) [4] lpκ d145.code (look (argEnv 0 l)) (retV τ d145.rs) :=
  ωκ_run S 145 l d145 rfl (by show (Tryz.prog.funcs[145]?).bind toFD = _; rw [Tryz.func145]; rfl)
noncomputable def ref09_Find.l0 (a0 a1 a5 : AV) : Option AV := loopAt S 145 d145 [1, 0, 1, 0] (look [(0, a0), (1, a1), (5, a5)])
theorem ref09_Find.f_eq (l1 : List (List AV)) (s2 : List UInt8) : ref09_Find (AV.sl 2 l1) (AV.str s2) = (ref09_Find.l0 (AV.sl 2 l1) (AV.str s2) (AV.int .i64 0)) :=
  (run145 _).trans (by kernel_rfl)
theorem ref09_Find.l0_eq (l1 : List (List AV)) (s2 : List UInt8) (n3 : Int) : ref09_Find.l0 (AV.sl 2 l1) (AV.str s2) (AV.int .i64 n3) = (ifB (decide ((n3 : Int) < (List.length l1 : Int))) (idx l1 n3 fun c4 => getC c4 0 fun a5 => asS a5 fun s6 => ifB (decide ((s6 : List UInt8) = s2)) (some (AV.int .i64 n3)) (ref09_Find.l0 (AV.sl 2 l1) (AV.str s2) (AV.int .i64 (w64 (n3 + 1))))) (some (AV.int .i64 (-1)))) :=
  (loopAt_eq S 145 d145 [1, 0, 1, 0] _).trans (by kernel_rfl)
end Go.Proofs.YtffojfcinkihnaaGreatDoor.Abs
