/- What the code comes to, function by function (printed by gen.py). -/
import Derived.Test.YtffojfcinkihnaaDoorAbsT
set_option linter.unusedVariables false
set_option linter.unusedSimpArgs false
set_option linter.unusedSectionVars false
set_option linter.deprecated false
set_option linter.unnecessarySimpa false
namespace Go.Proofs.YtffojfcinkihnaaDoor.Abs
set_option linter.unusedVariables false
set_option maxRecDepth 100000

/-! treillage/scalar.Truth: function 44 -/
noncomputable def d44 : FD := ⟨(Tryd.f44.body).getD .skip, Tryd.f44.results.toList, 6⟩
theorem run44 (l : List AV) : ωκ S 44 l = runM τ (fun _ => none) (ωκ S) [] lpκ d44.code (look (argEnv 0 l)) (retV τ d44.rs) :=
  ωκ_run S 44 l d44 rfl (by show (Tryd.prog.funcs[44]?).bind toFD = _; rw [Tryd.func44]; rfl)
theorem scalar_Truth.f_eq (b1 : Bool) : scalar_Truth (AV.bool b1) = (ifB b1 (some (AV.agg 8 [AV.int .i64 1, AV.int .i64 1, AV.int .i64 1, AV.str [], AV.bool false, AV.bool false, AV.bool false, AV.sl 2 []])) (some (AV.agg 8 [AV.int .i64 1, AV.int .i64 0, AV.int .i64 0, AV.str [], AV.bool false, AV.bool false, AV.bool false, AV.sl 2 []]))) :=
  (run44 _).trans (by kernel_rfl)

/-! treillage/apply.modulo: function 45 -/
noncomputable def d45 : FD := ⟨(Tryd.f45.body).getD .skip, Tryd.f45.results.toList, 14⟩
theorem run45 (l : List AV) : ωκ S 45 l = runM τ (fun _ => none) (ωκ S) [4] lpκ d45.code (look (argEnv 0 l)) (retV τ d45.rs) :=
  ωκ_run S 45 l d45 rfl (by show (Tryd.prog.funcs[45]?).bind toFD = _; rw [Tryd.func45]; rfl)
theorem apply_modulo.f_eq (n1 : Int) (n2 : Int) : apply_modulo (AV.int .i64 n1) (AV.int .i64 n2) = (guardK (!decide ((n2 : Int) = 0)) <| ifB (decide ((Int.tmod n1 n2 : Int) < 0)) (some (AV.int .i64 (w64 ((Int.tmod n1 n2) + n2)))) (some (AV.int .i64 (Int.tmod n1 n2)))) :=
  (run45 _).trans (by kernel_rfl)

/-! treillage/treillageref07.Single: function 47 -/
noncomputable def d47 : FD := ⟨(Tryd.f47.body).getD .skip, Tryd.f47.results.toList, 14⟩
theorem run47 (l : List AV) : ωκ S 47 l = runM τ (fun _ => none) (ωκ S) [2] lpκ d47.code (look (argEnv 0 l)) (retV τ d47.rs) :=
  ωκ_run S 47 l d47 rfl (by show (Tryd.prog.funcs[47]?).bind toFD = _; rw [Tryd.func47]; rfl)
theorem ref07_Single.f_eq (c1 : List AV) : ref07_Single (AV.agg 8 c1) = (getC c1 0 fun a2 => asI .i64 a2 fun n3 => ifB (decide ((n3 : Int) = 3)) (getC c1 4 fun a4 => asB a4 fun b5 => some (AV.bool (!b5))) (getC c1 1 fun a6 => asI .i64 a6 fun n7 => getC c1 2 fun a8 => asI .i64 a8 fun n9 => some (AV.bool (decide ((n7 : Int) = n9))))) :=
  (run47 _).trans (by kernel_rfl)

/-! treillage/treillageref35.mod: function 48 -/
noncomputable def d48 : FD := ⟨(Tryd.f48.body).getD .skip, Tryd.f48.results.toList, 12⟩
theorem run48 (l : List AV) : ωκ S 48 l = runM τ (fun _ => none) (ωκ S) [4] lpκ d48.code (look (argEnv 0 l)) (retV τ d48.rs) :=
  ωκ_run S 48 l d48 rfl (by show (Tryd.prog.funcs[48]?).bind toFD = _; rw [Tryd.func48]; rfl)
theorem ref35_mod.f_eq (n1 : Int) (n2 : Int) : ref35_mod (AV.int .i64 n1) (AV.int .i64 n2) = (guardK (!decide ((n2 : Int) = 0)) <| guardK (!decide ((n2 : Int) = 0)) <| some (AV.int .i64 (Int.tmod (w64 ((Int.tmod n1 n2) + n2)) n2))) :=
  (run48 _).trans (by kernel_rfl)

/-! treillage/treillageref01.Text: function 49 -/
noncomputable def d49 : FD := ⟨(Tryd.f49.body).getD .skip, Tryd.f49.results.toList, 47⟩
theorem run49 (l : List AV) : ωκ S 49 l = runM τ (fun _ => none) (ωκ S) [2] lpκ d49.code (look (argEnv 0 l)) (retV τ d49.rs) :=
  ωκ_run S 49 l d49 rfl (by show (Tryd.prog.funcs[49]?).bind toFD = _; rw [Tryd.func49]; rfl)
theorem ref01_Text.f_eq (n1 : Int) : ref01_Text (AV.int .i64 n1) = ((ifB (decide ((0 : Int) ≤ n1)) (some (decide ((n1 : Int) < 10))) (some false) : Option Bool).bind fun b2 => ifB b2 (bytesK ([[AV.int .u8 (IntKind.wrap .u8 (w64 (48 + n1)))]]) fun s3 => some (AV.str s3)) (ifB (decide ((0 : Int) < n1)) ((ref01_Text (AV.int .i64 (w64 (Int.tdiv n1 10)))).bind fun r4 => asS r4 fun s5 => bytesK ([[AV.int .u8 (IntKind.wrap .u8 (w64 (48 + (Int.tmod n1 10))))]]) fun s6 => guardK (Nat.ble (List.length s5 + List.length s6) lim) <| some (AV.str (s5 ++ s6))) (ifB (decide (((-10) : Int) < n1)) (bytesK ([[AV.int .u8 (IntKind.wrap .u8 (w64 (48 + (w64 (0 - (Int.tmod n1 10))))))]]) fun s7 => guardK (Nat.ble (List.length [45] + List.length s7) lim) <| some (AV.str ([45] ++ s7))) ((ref01_Text (AV.int .i64 (w64 (Int.tdiv n1 10)))).bind fun r8 => asS r8 fun s9 => bytesK ([[AV.int .u8 (IntKind.wrap .u8 (w64 (48 + (w64 (0 - (Int.tmod n1 10))))))]]) fun s10 => guardK (Nat.ble (List.length s9 + List.length s10) lim) <| some (AV.str (s9 ++ s10)))))) :=
  (run49 _).trans (by kernel_rfl)

/-! treillage/treillageref08.plain: function 50 -/
noncomputable def d50 : FD := ⟨(Tryd.f50.body).getD .skip, Tryd.f50.results.toList, 70⟩
theorem run50 (l : List AV) : ωκ S 50 l = runM τ (fun _ => none) (ωκ S) [4] lpκ d50.code (look (argEnv 0 l)) (retV τ d50.rs) :=
  ωκ_run S 50 l d50 rfl (by show (Tryd.prog.funcs[50]?).bind toFD = _; rw [Tryd.func50]; rfl)
theorem ref08_plain.f_eq (c1 : List AV) (c2 : List AV) : ref08_plain (AV.agg 8 c1) (AV.agg 8 c2) = (getC c1 0 fun a3 => asI .i64 a3 fun n4 => getC c2 0 fun a5 => asI .i64 a5 fun n6 => ifB (!decide ((n4 : Int) = n6)) (getC c1 0 fun a7 => asI .i64 a7 fun n8 => getC c2 0 fun a9 => asI .i64 a9 fun n10 => (ref08_nums (AV.int .i64 n8) (AV.int .i64 n10)).bind fun r11 => asI .i64 r11 fun n12 => some (AV.int .i64 n12)) (getC c1 1 fun a13 => asI .i64 a13 fun n14 => getC c2 1 fun a15 => asI .i64 a15 fun n16 => ifB (!decide ((n14 : Int) = n16)) (getC c1 1 fun a17 => asI .i64 a17 fun n18 => getC c2 1 fun a19 => asI .i64 a19 fun n20 => (ref08_nums (AV.int .i64 n18) (AV.int .i64 n20)).bind fun r21 => asI .i64 r21 fun n22 => some (AV.int .i64 n22)) (getC c1 2 fun a23 => asI .i64 a23 fun n24 => getC c2 2 fun a25 => asI .i64 a25 fun n26 => ifB (!decide ((n24 : Int) = n26)) (getC c1 2 fun a27 => asI .i64 a27 fun n28 => getC c2 2 fun a29 => asI .i64 a29 fun n30 => (ref08_nums (AV.int .i64 n28) (AV.int .i64 n30)).bind fun r31 => asI .i64 r31 fun n32 => some (AV.int .i64 n32)) (getC c1 3 fun a33 => asS a33 fun s34 => getC c2 3 fun a35 => asS a35 fun s36 => ifB (!decide ((s34 : List UInt8) = s36)) (getC c1 3 fun a37 => asS a37 fun s38 => getC c2 3 fun a39 => asS a39 fun s40 => (ref08_texts (AV.str s38) (AV.str s40)).bind fun r41 => asI .i64 r41 fun n42 => some (AV.int .i64 n42)) (getC c1 4 fun a43 => asB a43 fun b44 => getC c2 4 fun a45 => asB a45 fun b46 => ifB (!(b44 == b46)) (getC c1 4 fun a47 => asB a47 fun b48 => getC c2 4 fun a49 => asB a49 fun b50 => (ref08_bools (AV.bool b48) (AV.bool b50)).bind fun r51 => asI .i64 r51 fun n52 => some (AV.int .i64 n52)) (getC c1 5 fun a53 => asB a53 fun b54 => getC c2 5 fun a55 => asB a55 fun b56 => ifB (!(b54 == b56)) (getC c1 5 fun a57 => asB a57 fun b58 => getC c2 5 fun a59 => asB a59 fun b60 => (ref08_bools (AV.bool b58) (AV.bool b60)).bind fun r61 => asI .i64 r61 fun n62 => some (AV.int .i64 n62)) (getC c1 6 fun a63 => asB a63 fun b64 => getC c2 6 fun a65 => asB a65 fun b66 => (ref08_bools (AV.bool b64) (AV.bool b66)).bind fun r67 => asI .i64 r67 fun n68 => some (AV.int .i64 n68)))))))) :=
  (run50 _).trans (by kernel_rfl)

/-! treillage/treillageref08.texts: function 51 -/
noncomputable def d51 : FD := ⟨(Tryd.f51.body).getD .skip, Tryd.f51.results.toList, 11⟩
theorem run51 (l : List AV) : ωκ S 51 l = runM τ (fun _ => none) (ωκ S) [4] lpκ d51.code (look (argEnv 0 l)) (retV τ d51.rs) :=
  ωκ_run S 51 l d51 rfl (by show (Tryd.prog.funcs[51]?).bind toFD = _; rw [Tryd.func51]; rfl)
theorem ref08_texts.f_eq (s1 : List UInt8) (s2 : List UInt8) : ref08_texts (AV.str s1) (AV.str s2) = (ifB (bytesLt s1 s2) (some (AV.int .i64 (-1))) (ifB (!(bytesLt s1 s2 || decide ((s1 : List UInt8) = s2))) (some (AV.int .i64 1)) (some (AV.int .i64 0)))) :=
  (run51 _).trans (by kernel_rfl)

/-! treillage/treillageref07.Right: function 52 -/
noncomputable def d52 : FD := ⟨(Tryd.f52.body).getD .skip, Tryd.f52.results.toList, 82⟩
theorem run52 (l : List AV) : ωκ S 52 l = runM τ (fun _ => none) (ωκ S) [2] lpκ d52.code (look (argEnv 0 l)) (retV τ d52.rs) :=
  ωκ_run S 52 l d52 rfl (by show (Tryd.prog.funcs[52]?).bind toFD = _; rw [Tryd.func52]; rfl)
theorem ref07_Right.f_eq (c1 : List AV) : ref07_Right (AV.agg 8 c1) = (getC c1 6 fun a2 => asB a2 fun b3 => (ifB b3 (some true) (getC c1 7 fun a5 => asL 2 a5 fun l6 => some (decide ((0 : Int) < (List.length l6 : Int)))) : Option Bool).bind fun b4 => (ifB b4 (some true) (getC c1 5 fun a8 => asB a8 fun b9 => (ifB b9 ((ref07_Single (AV.agg 8 c1)).bind fun r11 => asB r11 fun b12 => some b12) (some false) : Option Bool).bind fun b10 => some b10) : Option Bool).bind fun b7 => ifB b7 (some (AV.bool false)) (getC c1 0 fun a13 => asI .i64 a13 fun n14 => ifB (decide ((n14 : Int) = 3)) (getC c1 1 fun a15 => asI .i64 a15 fun n16 => (ifB (!decide ((n16 : Int) = 0)) (some true) (getC c1 2 fun a18 => asI .i64 a18 fun n19 => some (!decide ((n19 : Int) = 0))) : Option Bool).bind fun b17 => (ifB b17 (some true) (getC c1 3 fun a21 => asS a21 fun s22 => some (decide ((256 : Int) < (List.length s22 : Int)))) : Option Bool).bind fun b20 => ifB b20 (some (AV.bool false)) (getC c1 4 fun a23 => asB a23 fun b24 => (ifB (!b24) (some true) (getC c1 3 fun a26 => asS a26 fun s27 => some (decide ((s27 : List UInt8) = []))) : Option Bool).bind fun b25 => some (AV.bool b25))) (getC c1 3 fun a28 => asS a28 fun s29 => (ifB (!decide ((s29 : List UInt8) = [])) (some true) (getC c1 4 fun a31 => asB a31 fun b32 => some b32) : Option Bool).bind fun b30 => (ifB b30 (some true) (getC c1 1 fun a34 => asI .i64 a34 fun n35 => getC c1 2 fun a36 => asI .i64 a36 fun n37 => some (decide ((n37 : Int) < n35))) : Option Bool).bind fun b33 => ifB b33 (some (AV.bool false)) (getC c1 0 fun a38 => asI .i64 a38 fun n39 => ifB (decide ((n39 : Int) = 1)) (getC c1 1 fun a40 => asI .i64 a40 fun n41 => (ifB (decide ((0 : Int) ≤ n41)) (getC c1 2 fun a43 => asI .i64 a43 fun n44 => some (decide ((n44 : Int) ≤ 1))) (some false) : Option Bool).bind fun b42 => some (AV.bool b42)) (getC c1 0 fun a45 => asI .i64 a45 fun n46 => (ifB (decide ((n46 : Int) = 2)) (getC c1 1 fun a48 => asI .i64 a48 fun n49 => some (decide (((-9007199254740992) : Int) ≤ n49))) (some false) : Option Bool).bind fun b47 => (ifB b47 (getC c1 2 fun a51 => asI .i64 a51 fun n52 => some (decide ((n52 : Int) ≤ 9007199254740992))) (some false) : Option Bool).bind fun b50 => some (AV.bool b50)))))) :=
  (run52 _).trans (by kernel_rfl)

/-! treillage/treillageref09.names: function 53 -/
noncomputable def d53 : FD := ⟨(Tryd.f53.body).getD .skip, Tryd.f53.results.toList, 21⟩
theorem run53 (l : List AV) : ωκ S 53 l = runM τ ann53 (ωκ S) [2] lpκ d53.code (look (argEnv 0 l)) (retV τ d53.rs) :=
  ωκ_run S 53 l d53 rfl (by show (Tryd.prog.funcs[53]?).bind toFD = _; rw [Tryd.func53]; rfl)
noncomputable def ref09_names.l0 (a0 a3 a4 : AV) : Option AV := loopAt S 53 d53 [1, 1, 0, 1, 0] (look [(0, a0), (3, a3), (4, a4)])
theorem ref09_names.f_eq (l1 : List (List AV)) : ref09_names (AV.sl 2 l1) = (ref09_names.l0 (AV.sl 2 l1) (AV.own 1 []) (AV.int .i64 0)) :=
  (run53 _).trans (by kernel_rfl)
theorem ref09_names.l0_eq (l1 : List (List AV)) (l2 : List (List AV)) (n3 : Int) : ref09_names.l0 (AV.sl 2 l1) (AV.own 1 l2) (AV.int .i64 n3) = (ifB (decide ((n3 : Int) < (List.length l1 : Int))) (idx l1 n3 fun c4 => getC c4 0 fun a5 => asS a5 fun s6 => guardK (Nat.ble (List.length l2 + List.length ([[AV.str s6]])) lim) <| ref09_names.l0 (AV.sl 2 l1) (AV.own 1 (l2 ++ ([[AV.str s6]]))) (AV.int .i64 (w64 (n3 + 1)))) ((ref02_Rising (AV.sl 1 l2)).bind fun r7 => asB r7 fun b8 => some (AV.bool b8))) :=
  (loopAt_eq S 53 d53 [1, 1, 0, 1, 0] _).trans (by kernel_rfl)

/-! treillage/treillageref07.Below: function 54 -/
noncomputable def d54 : FD := ⟨(Tryd.f54.body).getD .skip, Tryd.f54.results.toList, 19⟩
theorem run54 (l : List AV) : ωκ S 54 l = runM τ (fun _ => none) (ωκ S) [4] lpκ d54.code (look (argEnv 0 l)) (retV τ d54.rs) :=
  ωκ_run S 54 l d54 rfl (by show (Tryd.prog.funcs[54]?).bind toFD = _; rw [Tryd.func54]; rfl)
theorem ref07_Below.f_eq (c1 : List AV) (c2 : List AV) : ref07_Below (AV.agg 8 c1) (AV.agg 8 c2) = ((ref07_Meet (AV.agg 8 c1) (AV.agg 8 c2)).bind fun r3 => asT2 r3 fun a4 a5 => asC 8 a4 fun c6 => asB a5 fun b7 => (ifB b7 ((ref07_Same (AV.agg 8 c6) (AV.agg 8 c1)).bind fun r9 => asB r9 fun b10 => some b10) (some false) : Option Bool).bind fun b8 => some (AV.bool b8)) :=
  (run54 _).trans (by kernel_rfl)

/-! treillage/treillageref09.Find: function 55 -/
noncomputable def d55 : FD := ⟨(Tryd.f55.body).getD .skip, Tryd.f55.results.toList, 20⟩
theorem run55 (l : List AV) : ωκ S 55 l = runM τ ann55 (ωκ S) [4] lpκ d55.code (look (argEnv 0 l)) (retV τ d55.rs) :=
  ωκ_run S 55 l d55 rfl (by show (Tryd.prog.funcs[55]?).bind toFD = _; rw [Tryd.func55]; rfl)
noncomputable def ref09_Find.l0 (a0 a1 a5 : AV) : Option AV := loopAt S 55 d55 [1, 0, 1, 0] (look [(0, a0), (1, a1), (5, a5)])
theorem ref09_Find.f_eq (l1 : List (List AV)) (s2 : List UInt8) : ref09_Find (AV.sl 2 l1) (AV.str s2) = (ref09_Find.l0 (AV.sl 2 l1) (AV.str s2) (AV.int .i64 0)) :=
  (run55 _).trans (by kernel_rfl)
theorem ref09_Find.l0_eq (l1 : List (List AV)) (s2 : List UInt8) (n3 : Int) : ref09_Find.l0 (AV.sl 2 l1) (AV.str s2) (AV.int .i64 n3) = (ifB (decide ((n3 : Int) < (List.length l1 : Int))) (idx l1 n3 fun c4 => getC c4 0 fun a5 => asS a5 fun s6 => ifB (decide ((s6 : List UInt8) = s2)) (some (AV.int .i64 n3)) (ref09_Find.l0 (AV.sl 2 l1) (AV.str s2) (AV.int .i64 (w64 (n3 + 1))))) (some (AV.int .i64 (-1)))) :=
  (loopAt_eq S 55 d55 [1, 0, 1, 0] _).trans (by kernel_rfl)

/-! treillage/lat.shaped: function 56 -/
noncomputable def d56 : FD := ⟨(Tryd.f56.body).getD .skip, Tryd.f56.results.toList, 53⟩
theorem run56 (l : List AV) : ωκ S 56 l = runM τ ann56 (ωκ S) [4] lpκ d56.code (look (argEnv 0 l)) (retV τ d56.rs) :=
  ωκ_run S 56 l d56 rfl (by show (Tryd.prog.funcs[56]?).bind toFD = _; rw [Tryd.func56]; rfl)
noncomputable def lat_shaped.l0 (a1 a31 a32 a33 : AV) : Option AV := loopAt S 56 d56 [1, 0, 1, 0, 1, 1, 1, 0, 1, 0, 1, 0] (look [(1, a1), (31, a31), (32, a32), (33, a33)])
theorem lat_shaped.f_eq (c1 : List AV) (n2 : Int) : lat_shaped (AV.agg 8 c1) (AV.int .i64 n2) = (getC c1 0 fun a3 => asI .i64 a3 fun n4 => ifB (decide ((n4 : Int) = 5)) ((lat_anything (AV.agg 8 c1)).bind fun r5 => asB r5 fun b6 => some (AV.bool b6)) (ifB (decide ((n4 : Int) = 4)) ((lat_bare (AV.agg 8 c1)).bind fun r7 => asB r7 fun b8 => (ifB (!b8) (some true) (getC c1 7 fun a10 => asL 2 a10 fun l11 => some (decide ((32 : Int) < (List.length l11 : Int)))) : Option Bool).bind fun b9 => (ifB b9 (some true) (getC c1 7 fun a13 => asL 2 a13 fun l14 => (lat_rising (AV.sl 2 l14)).bind fun r15 => asB r15 fun b16 => some (!b16)) : Option Bool).bind fun b12 => ifB b12 (some (AV.bool false)) (getC c1 7 fun a17 => asL 2 a17 fun l18 => lat_shaped.l0 (AV.int .i64 n2) (AV.sl 2 l18) (AV.int .i64 (List.length l18 : Int)) (AV.int .i64 0))) ((scalar_Right (AV.agg 8 c1)).bind fun r19 => asB r19 fun b20 => some (AV.bool b20)))) :=
  (run56 _).trans (by kernel_rfl)
theorem lat_shaped.l0_eq (n1 : Int) (l2 : List (List AV)) (n3 : Int) (n4 : Int) : lat_shaped.l0 (AV.int .i64 n1) (AV.sl 2 l2) (AV.int .i64 n3) (AV.int .i64 n4) = (ifB (decide ((n4 : Int) < n3)) (idx l2 n4 fun c5 => getC c5 1 fun a6 => asL 8 a6 fun l7 => (ifB (decide (((List.length l7 : Int) : Int) = 0)) (some true) (getC c5 1 fun a9 => (lat_listed (AV.agg 1 [(frz a9)]) (AV.int .i64 (w64 (n1 - 1)))).bind fun r10 => asB r10 fun b11 => some (!b11)) : Option Bool).bind fun b8 => ifB b8 (some (AV.bool false)) (lat_shaped.l0 (AV.int .i64 n1) (AV.sl 2 l2) (AV.int .i64 n3) (AV.int .i64 (w64 (n4 + 1))))) (some (AV.bool true))) :=
  (loopAt_eq S 56 d56 [1, 0, 1, 0, 1, 1, 1, 0, 1, 0, 1, 0] _).trans (by kernel_rfl)
end Go.Proofs.YtffojfcinkihnaaDoor.Abs
