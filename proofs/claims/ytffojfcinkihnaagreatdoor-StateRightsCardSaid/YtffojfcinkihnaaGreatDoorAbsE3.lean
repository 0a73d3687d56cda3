/- What the code comes to, function by function (printed by gen.py). -/
import Derived.Test.YtffojfcinkihnaaGreatDoorAbsT
set_option linter.unusedVariables false
set_option linter.unusedSimpArgs false
set_option linter.unusedSectionVars false
set_option linter.deprecated false
set_option linter.unnecessarySimpa false
namespace Go.Proofs.YtffojfcinkihnaaGreatDoor.Abs
set_option linter.unusedVariables false
set_option maxRecDepth 100000

/-! treillage/state.Same$1: function 46 -/
noncomputable def d46 : FD := ⟨(Tryz.f46.body).getD .skip, Tryz.f46.results.toList, 24⟩
theorem run46 (l : List AV) : ωκ S 46 l = runM τ (fun _ => none) (ωκ S) [4] lpκ d46.code (look (argEnv 0 l)) (retV τ d46.rs) :=
  ωκ_run S 46 l d46 rfl (by show (Tryz.prog.funcs[46]?).bind toFD = _; rw [Tryz.func46]; rfl)
theorem state_Same_1.f_eq (c1 : List AV) (c2 : List AV) : state_Same_1 (AV.agg 3 c1) (AV.agg 3 c2) = (getC c1 0 fun a3 => asS a3 fun s4 => getC c2 0 fun a5 => asS a5 fun s6 => (ifB (decide ((s4 : List UInt8) = s6)) (getC c1 1 fun a8 => getC c2 1 fun a9 => (rank_Same (AV.agg 1 [(frz a8)]) (AV.agg 1 [(frz a9)])).bind fun r10 => asB r10 fun b11 => some b11) (some false) : Option Bool).bind fun b7 => (ifB b7 (getC c1 2 fun a13 => asL 1 a13 fun l14 => getC c2 2 fun a15 => asL 1 a15 fun l16 => (slices_Equal__string (AV.sl 1 l14) (AV.sl 1 l16)).bind fun r17 => asB r17 fun b18 => some b18) (some false) : Option Bool).bind fun b12 => some (AV.bool b12)) :=
  (run46 _).trans (by kernel_rfl)

/-! treillage/rank.Same: function 47 -/
noncomputable def d47 : FD := ⟨(Tryz.f47.body).getD .skip, Tryz.f47.results.toList, 9⟩
theorem run47 (l : List AV) : ωκ S 47 l = runM τ (fun _ => none) (ωκ S) [4] lpκ d47.code (look (argEnv 0 l)) (retV τ d47.rs) :=
  ωκ_run S 47 l d47 rfl (by show (Tryz.prog.funcs[47]?).bind toFD = _; rw [Tryz.func47]; rfl)
theorem rank_Same.f_eq (c1 : List AV) (c2 : List AV) : rank_Same (AV.agg 1 c1) (AV.agg 1 c2) = ((rank_Compare (AV.agg 1 c1) (AV.agg 1 c2)).bind fun r3 => asI .i64 r3 fun n4 => some (AV.bool (decide ((n4 : Int) = 0)))) :=
  (run47 _).trans (by kernel_rfl)

/-! slices.Equal[[]string,string]: function 48 -/
noncomputable def d48 : FD := ⟨(Tryz.f48.body).getD .skip, Tryz.f48.results.toList, 26⟩
theorem run48 (l : List AV) : ωκ S 48 l = runM τ ann48 (ωκ S) [4] lpκ d48.code (look (argEnv 0 l)) (retV τ d48.rs) :=
  ωκ_run S 48 l d48 rfl (by show (Tryz.prog.funcs[48]?).bind toFD = _; rw [Tryz.func48]; rfl)
noncomputable def slices_Equal__string.l0 (a0 a1 a12 a13 : AV) : Option AV := loopAt S 48 d48 [1, 1, 0, 1, 0] (look [(0, a0), (1, a1), (12, a12), (13, a13)])
theorem slices_Equal__string.f_eq (l1 : List (List AV)) (l2 : List (List AV)) : slices_Equal__string (AV.sl 1 l1) (AV.sl 1 l2) = (ifB (!decide (((List.length l1 : Int) : Int) = (List.length l2 : Int))) (some (AV.bool false)) (slices_Equal__string.l0 (AV.sl 1 l1) (AV.sl 1 l2) (AV.int .i64 (List.length l1 : Int)) (AV.int .i64 0))) :=
  (run48 _).trans (by kernel_rfl)
theorem slices_Equal__string.l0_eq (l1 : List (List AV)) (l2 : List (List AV)) (n3 : Int) (n4 : Int) : slices_Equal__string.l0 (AV.sl 1 l1) (AV.sl 1 l2) (AV.int .i64 n3) (AV.int .i64 n4) = (ifB (decide ((n4 : Int) < n3)) (idx l1 n4 fun c5 => getC c5 0 fun a6 => asS a6 fun s7 => idx l2 n4 fun c8 => getC c8 0 fun a9 => asS a9 fun s10 => ifB (!decide ((s7 : List UInt8) = s10)) (some (AV.bool false)) (slices_Equal__string.l0 (AV.sl 1 l1) (AV.sl 1 l2) (AV.int .i64 n3) (AV.int .i64 (w64 (n4 + 1))))) (some (AV.bool true))) :=
  (loopAt_eq S 48 d48 [1, 1, 0, 1, 0] _).trans (by kernel_rfl)

/-! treillage/apply.refused: function 50 -/
noncomputable def d50 : FD := ⟨(Tryz.f50.body).getD .skip, Tryz.f50.results.toList, 46⟩
theorem run50 (l : List AV) : ωκ S 50 l = runM τ (fun _ => none) (ωκ S) [4] lpκ d50.code (look (argEnv 0 l)) (retV τ d50.rs) :=
  ωκ_run S 50 l d50 rfl (by show (Tryz.prog.funcs[50]?).bind toFD = _; rw [Tryz.func50]; rfl)
theorem apply_refused.f_eq (l1 : List (List AV)) (c2 : List AV) : apply_refused (AV.sl 3 l1) (AV.agg 4 c2) = (getC c2 1 fun a3 => asS a3 fun s4 => (state_Find (AV.sl 3 l1) (AV.str s4)).bind fun r5 => asI .i64 r5 fun n6 => getC c2 0 fun a7 => asI .i64 a7 fun n8 => (ifB (decide ((n8 : Int) < 1)) (some true) (getC c2 0 fun a10 => asI .i64 a10 fun n11 => some (decide ((3 : Int) < n11))) : Option Bool).bind fun b9 => ifB b9 (some (AV.int .i64 1)) (getC c2 0 fun a12 => asI .i64 a12 fun n13 => (ifB (!decide ((n13 : Int) = 1)) (getC c2 1 fun a15 => getC c2 2 fun a16 => getC c2 3 fun a17 => (apply_good (AV.agg 3 [(frz a15), (frz a16), (frz a17)])).bind fun r18 => asB r18 fun b19 => some (!b19)) (some false) : Option Bool).bind fun b14 => ifB b14 (some (AV.int .i64 1)) (getC c2 0 fun a20 => asI .i64 a20 fun n21 => (ifB (decide ((n21 : Int) = 2)) (some (decide ((0 : Int) ≤ n6))) (some false) : Option Bool).bind fun b22 => ifB b22 (some (AV.int .i64 6)) (getC c2 0 fun a23 => asI .i64 a23 fun n24 => (ifB (!decide ((n24 : Int) = 2)) (some (!(decide ((0 : Int) ≤ n6)))) (some false) : Option Bool).bind fun b25 => ifB b25 (some (AV.int .i64 5)) (some (AV.int .i64 0)))))) :=
  (run50 _).trans (by kernel_rfl)

/-! treillage/treillageref35.refused: function 51 -/
noncomputable def d51 : FD := ⟨(Tryz.f51.body).getD .skip, Tryz.f51.results.toList, 82⟩
theorem run51 (l : List AV) : ωκ S 51 l = runM τ ann51 (ωκ S) [4] lpκ d51.code (look (argEnv 0 l)) (retV τ d51.rs) :=
  ωκ_run S 51 l d51 rfl (by show (Tryz.prog.funcs[51]?).bind toFD = _; rw [Tryz.func51]; rfl)
noncomputable def ref35_refused.j0 (a3 a5 : AV) : Option AV := joinAt S 51 d51 [1, 1, 1] (look [(3, a3), (5, a5)])
theorem ref35_refused.f_eq (l1 : List (List AV)) (c2 : List AV) : ref35_refused (AV.sl 3 l1) (AV.agg 4 c2) = (getC c2 0 fun a3 => asI .i64 a3 fun n4 => (ifB (decide ((n4 : Int) < 1)) (some true) (getC c2 0 fun a6 => asI .i64 a6 fun n7 => some (decide ((3 : Int) < n7))) : Option Bool).bind fun b5 => ifB b5 (some (AV.int .i64 1)) (getC c2 1 fun a8 => asS a8 fun s9 => (ref30_Find (AV.sl 3 l1) (AV.str s9)).bind fun r10 => asI .i64 r10 fun n11 => getC c2 0 fun a12 => asI .i64 a12 fun n13 => ifB (decide ((1 : Int) < n13)) (getC c2 2 fun a14 => (ref11_One (AV.agg 1 [(frz a14)])).bind fun r15 => asT2 r15 fun a16 a17 => asC 8 a16 fun c18 => asI .i64 a17 fun n19 => getC c2 1 fun a20 => asS a20 fun s21 => (ref02_Right (AV.str s21)).bind fun r22 => asB r22 fun b23 => (ifB (!b23) (some true) (some (!decide ((n19 : Int) = 0))) : Option Bool).bind fun b24 => (ifB b24 (some true) (getC c18 0 fun a26 => asI .i64 a26 fun n27 => some (!decide ((n27 : Int) = 4))) : Option Bool).bind fun b25 => (ifB b25 (some true) (getC c2 2 fun a29 => (ref11_Ready (AV.agg 1 [(frz a29)])).bind fun r30 => asB r30 fun b31 => some (!b31)) : Option Bool).bind fun b28 => (ifB b28 (some true) (getC c2 3 fun a33 => asL 1 a33 fun l34 => (ref02_Rising (AV.sl 1 l34)).bind fun r35 => asB r35 fun b36 => some (!b36)) : Option Bool).bind fun b32 => (ifB b32 (some true) (getC c2 3 fun a38 => asL 1 a38 fun l39 => getC c2 1 fun a40 => asS a40 fun s41 => (ref17_Has (AV.sl 1 l39) (AV.str s41)).bind fun r42 => asB r42 fun b43 => some b43) : Option Bool).bind fun b37 => ifB b37 (some (AV.int .i64 1)) (ref35_refused.j0 (AV.boxv 4 c2 []) (AV.bool (decide ((0 : Int) ≤ n11))))) (ref35_refused.j0 (AV.boxv 4 c2 []) (AV.bool (decide ((0 : Int) ≤ n11)))))) :=
  (run51 _).trans (by kernel_rfl)
theorem ref35_refused.j0_eq (c1 : List AV) (b2 : Bool) : ref35_refused.j0 (AV.boxv 4 c1 []) (AV.bool b2) = (getC c1 0 fun a3 => asI .i64 a3 fun n4 => (ifB (decide ((n4 : Int) = 2)) (some b2) (some false) : Option Bool).bind fun b5 => ifB b5 (some (AV.int .i64 6)) (getC c1 0 fun a6 => asI .i64 a6 fun n7 => (ifB (!decide ((n7 : Int) = 2)) (some (!b2)) (some false) : Option Bool).bind fun b8 => ifB b8 (some (AV.int .i64 5)) (some (AV.int .i64 0)))) :=
  (joinAt_eq S 51 d51 [1, 1, 1] _).trans (by kernel_rfl)

/-! treillage/treillageref35.Fill: function 52 -/
noncomputable def d52 : FD := ⟨(Tryz.f52.body).getD .skip, Tryz.f52.results.toList, 21⟩
theorem run52 (l : List AV) : ωκ S 52 l = runM τ (fun _ => none) (ωκ S) [5, 6] lpκ d52.code (look (argEnv 0 l)) (retV τ d52.rs) :=
  ωκ_run S 52 l d52 rfl (by show (Tryz.prog.funcs[52]?).bind toFD = _; rw [Tryz.func52]; rfl)
theorem ref35_Fill.f_eq (c1 : List AV) (l2 : List (List AV)) : ref35_Fill (AV.agg 1 c1) (AV.sl 1 l2) = ((ref11_Ready (AV.agg 1 c1)).bind fun r3 => asB r3 fun b4 => ifB (!b4) (some (.tup [AV.agg 1 [AV.sl 8 []], AV.int .i64 0, AV.int .i64 1])) ((ref35_fill (AV.agg 1 c1) (AV.sl 1 l2) (AV.int .i64 0)).bind fun r5 => asT2 r5 fun a6 a7 => asC 1 a6 fun c8 => asI .i64 a7 fun n9 => some (.tup [AV.agg 1 c8, AV.int .i64 n9, AV.int .i64 0]))) :=
  (run52 _).trans (by kernel_rfl)

/-! treillage/treillagelaw08.Few: function 53 -/
noncomputable def d53 : FD := ⟨(Tryz.f53.body).getD .skip, Tryz.f53.results.toList, 6⟩
theorem run53 (l : List AV) : ωκ S 53 l = runM τ (fun _ => none) (ωκ S) [2] lpκ d53.code (look (argEnv 0 l)) (retV τ d53.rs) :=
  ωκ_run S 53 l d53 rfl (by show (Tryz.prog.funcs[53]?).bind toFD = _; rw [Tryz.func53]; rfl)
theorem law08_Few.f_eq (c1 : List AV) : law08_Few (AV.agg 1 c1) = ((law08_left (AV.agg 1 c1) (AV.int .i64 20) (AV.int .i64 200)).bind fun r2 => asI .i64 r2 fun n3 => some (AV.bool (decide ((0 : Int) ≤ n3)))) :=
  (run53 _).trans (by kernel_rfl)

/-! treillage/treillageref08.Weight: function 54 -/
noncomputable def d54 : FD := ⟨(Tryz.f54.body).getD .skip, Tryz.f54.results.toList, 37⟩
theorem run54 (l : List AV) : ωκ S 54 l = runM τ ann54 (ωκ S) [2] lpκ d54.code (look (argEnv 0 l)) (retV τ d54.rs) :=
  ωκ_run S 54 l d54 rfl (by show (Tryz.prog.funcs[54]?).bind toFD = _; rw [Tryz.func54]; rfl)
noncomputable def ref08_Weight.l0 (a1 a3 a4 : AV) : Option AV := loopAt S 54 d54 [1, 1, 0, 1, 0] (look [(1, a1), (3, a3), (4, a4)])
noncomputable def ref08_Weight.l1 (a1 a3 a4 a5 a6 : AV) : Option AV := loopAt S 54 d54 [1, 1, 0, 1, 0, 0, 1, 0, 0, 1, 1, 1, 0] (look [(1, a1), (3, a3), (4, a4), (5, a5), (6, a6)])
theorem ref08_Weight.f_eq (c1 : List AV) : ref08_Weight (AV.agg 1 c1) = (ref08_Weight.l0 (AV.boxv 1 c1 []) (AV.int .i64 0) (AV.int .i64 0)) :=
  (run54 _).trans (by kernel_rfl)
theorem ref08_Weight.l0_eq (c1 : List AV) (n2 : Int) (n3 : Int) : ref08_Weight.l0 (AV.boxv 1 c1 []) (AV.int .i64 n2) (AV.int .i64 n3) = (getC c1 0 fun a4 => asL 8 a4 fun l5 => ifB (decide ((n3 : Int) < (List.length l5 : Int))) (getC c1 0 fun a6 => asL 8 a6 fun l7 => idx l7 n3 fun c8 => getC c8 7 fun a9 => asL 2 a9 fun l10 => ref08_Weight.l1 (AV.boxv 1 c1 []) (AV.int .i64 (w64 (n2 + 1))) (AV.int .i64 n3) (AV.sl 2 l10) (AV.int .i64 0)) (some (AV.int .i64 n2))) :=
  (loopAt_eq S 54 d54 [1, 1, 0, 1, 0] _).trans (by kernel_rfl)
theorem ref08_Weight.l1_eq (c1 : List AV) (n2 : Int) (n3 : Int) (l4 : List (List AV)) (n5 : Int) : ref08_Weight.l1 (AV.boxv 1 c1 []) (AV.int .i64 n2) (AV.int .i64 n3) (AV.sl 2 l4) (AV.int .i64 n5) = (ifB (decide ((n5 : Int) < (List.length l4 : Int))) (idx l4 n5 fun c6 => getC c6 1 fun a7 => (ref08_Weight (AV.agg 1 [a7])).bind fun r8 => asI .i64 r8 fun n9 => ref08_Weight.l1 (AV.boxv 1 c1 []) (AV.int .i64 (w64 (n2 + n9))) (AV.int .i64 n3) (AV.sl 2 l4) (AV.int .i64 (w64 (n5 + 1)))) (ref08_Weight.l0 (AV.boxv 1 c1 []) (AV.int .i64 n2) (AV.int .i64 (w64 (n3 + 1))))) :=
  (loopAt_eq S 54 d54 [1, 1, 0, 1, 0, 0, 1, 0, 0, 1, 1, 1, 0] _).trans (by kernel_rfl)

/-! treillage/code.Encode: function 56 -/
noncomputable def d56 : FD := ⟨(Tryz.f56.body).getD .skip, Tryz.f56.results.toList, 10⟩
theorem run56 (l : List AV) : ωκ S 56 l = runM τ (fun _ => none) (ωκ S) [2, 3] lpκ d56.code (look (argEnv 0 l)) (retV τ d56.rs) :=
  ωκ_run S 56 l d56 rfl (by show (Tryz.prog.funcs[56]?).bind toFD = _; rw [Tryz.func56]; rfl)
theorem code_Encode.f_eq (c1 : List AV) : code_Encode (AV.agg 1 c1) = ((lat_Right (AV.agg 1 c1)).bind fun r2 => asB r2 fun b3 => ifB (!b3) (some (.tup [AV.str [], AV.int .i64 1])) ((code_put (AV.sl 1 []) (AV.agg 1 c1)).bind fun r4 => asL 1 r4 fun l5 => bytesK l5 fun s6 => some (.tup [AV.str s6, AV.int .i64 0]))) :=
  (run56 _).trans (by kernel_rfl)

/-! slices.rotateRight[treillage/api.Thing]: function 59 -/
noncomputable def d59 : FD := ⟨(Tryz.f59.body).getD .skip, Tryz.f59.results.toList, 10⟩
theorem run59 (l : List AV) : ωκ S 59 l = runM τ (fun _ => none) (ωκ S) [] lpκ d59.code (look (argEnv 0 l)) (retV τ d59.rs) :=
  ωκ_run S 59 l d59 rfl (by show (Tryz.prog.funcs[59]?).bind toFD = _; rw [Tryz.func59]; rfl)
theorem slices_rotateRight__Thing.f_eq (l1 : List (List AV)) (n2 : Int) : slices_rotateRight__Thing (AV.sl 3 l1) (AV.int .i64 n2) = ((slices_rotateLeft__Thing (AV.sl 3 l1) (AV.int .i64 (w64 ((List.length l1 : Int) - n2)))).bind fun r3 => asT0 r3 (some (.tup []))) :=
  (run59 _).trans (by kernel_rfl)

/-! treillage/treillageref08.Compare: function 62 -/
noncomputable def d62 : FD := ⟨(Tryz.f62.body).getD .skip, Tryz.f62.results.toList, 42⟩
theorem run62 (l : List AV) : ωκ S 62 l = runM τ ann62 (ωκ S) [4] lpκ d62.code (look (argEnv 0 l)) (retV τ d62.rs) :=
  ωκ_run S 62 l d62 rfl (by show (Tryz.prog.funcs[62]?).bind toFD = _; rw [Tryz.func62]; rfl)
noncomputable def ref08_Compare.l0 (a2 a3 a5 : AV) : Option AV := loopAt S 62 d62 [1, 0, 1, 0] (look [(2, a2), (3, a3), (5, a5)])
theorem ref08_Compare.f_eq (c1 : List AV) (c2 : List AV) : ref08_Compare (AV.agg 1 c1) (AV.agg 1 c2) = (ref08_Compare.l0 (AV.boxv 1 c1 []) (AV.boxv 1 c2 []) (AV.int .i64 0)) :=
  (run62 _).trans (by kernel_rfl)
theorem ref08_Compare.l0_eq (c1 : List AV) (c2 : List AV) (n3 : Int) : ref08_Compare.l0 (AV.boxv 1 c1 []) (AV.boxv 1 c2 []) (AV.int .i64 n3) = (getC c1 0 fun a4 => asL 8 a4 fun l5 => (ifB (decide ((n3 : Int) < (List.length l5 : Int))) (getC c2 0 fun a7 => asL 8 a7 fun l8 => some (decide ((n3 : Int) < (List.length l8 : Int)))) (some false) : Option Bool).bind fun b6 => ifB b6 (getC c1 0 fun a9 => asL 8 a9 fun l10 => idx l10 n3 fun c11 => getC c2 0 fun a12 => asL 8 a12 fun l13 => idx l13 n3 fun c14 => (ref08_Terms (AV.agg 8 c11) (AV.agg 8 c14)).bind fun r15 => asI .i64 r15 fun n16 => ifB (!decide ((n16 : Int) = 0)) (some (AV.int .i64 n16)) (ref08_Compare.l0 (AV.boxv 1 c1 []) (AV.boxv 1 c2 []) (AV.int .i64 (w64 (n3 + 1))))) (getC c1 0 fun a17 => asL 8 a17 fun l18 => getC c2 0 fun a19 => asL 8 a19 fun l20 => (ref08_nums (AV.int .i64 (List.length l18 : Int)) (AV.int .i64 (List.length l20 : Int))).bind fun r21 => asI .i64 r21 fun n22 => some (AV.int .i64 n22))) :=
  (loopAt_eq S 62 d62 [1, 0, 1, 0] _).trans (by kernel_rfl)

/-! treillage/fact.One: function 63 -/
noncomputable def d63 : FD := ⟨(Tryz.f63.body).getD .skip, Tryz.f63.results.toList, 36⟩
theorem run63 (l : List AV) : ωκ S 63 l = runM τ (fun _ => none) (ωκ S) [3] lpκ d63.code (look (argEnv 0 l)) (retV τ d63.rs) :=
  ωκ_run S 63 l d63 rfl (by show (Tryz.prog.funcs[63]?).bind toFD = _; rw [Tryz.func63]; rfl)
theorem fact_One.f_eq (c1 : List AV) : fact_One (AV.agg 1 c1) = ((lat_Right (AV.agg 1 c1)).bind fun r2 => asB r2 fun b3 => ifB (!b3) (some (.tup [AV.agg 8 [AV.int .i64 0, AV.int .i64 0, AV.int .i64 0, AV.str [], AV.bool false, AV.bool false, AV.bool false, AV.sl 2 []], AV.int .i64 1])) ((fact_one (AV.agg 1 c1)).bind fun r4 => asT2 r4 fun a5 a6 => asC 8 a5 fun c7 => asI .i64 a6 fun n8 => (ifB (decide ((n8 : Int) = 0)) (getC c7 0 fun a10 => asI .i64 a10 fun n11 => some (decide ((n11 : Int) = 4))) (some false) : Option Bool).bind fun b9 => ifB b9 ((lat_Of (AV.sl 8 [c7])).bind fun r12 => asT2 r12 fun a13 a14 => asC 1 a13 fun c15 => asI .i64 a14 fun n16 => getC c15 0 fun a17 => asL 8 a17 fun l18 => idx l18 0 fun c19 => some (.tup [AV.agg 8 c19, AV.int .i64 n8])) (some (.tup [AV.agg 8 c7, AV.int .i64 n8])))) :=
  (run63 _).trans (by kernel_rfl)
end Go.Proofs.YtffojfcinkihnaaGreatDoor.Abs
