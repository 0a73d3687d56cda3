/- What the code comes to, function by function (printed by gen.py). -/
import Derived.Test.YtffojfcinkihnaaGreatDoorAbsT
set_option linter.unusedVariables false
set_option linter.unusedSimpArgs false
set_option linter.unusedSectionVars false
set_option linter.deprecated false
set_option linter.unnecessarySimpa false
namespace Go.Proofs.YtffojfcinkihnaaGreatDoor.Abs
set_option linter.unusedVariables false
set_option maxRecDepth 100000

/-! treillage/apply.firm: function 117 -/
noncomputable def d117 : FD := ⟨(Tryz.f117.body).getD .skip, Tryz.f117.results.toList, 34⟩
theorem run117 (l : List AV) : ωκ S 117 l = runM τ (fun _ => none) (ωκ S) [] lpκ d117.code (look (argEnv 0 l)) (retV τ d117.rs) :=
  ωκ_run S 117 l d117 rfl (by show (Tryz.prog.funcs[117]?).bind toFD = _; rw [Tryz.func117]; rfl)
theorem apply_firm.f_eq (c1 : List AV) (n2 : Int) : apply_firm (AV.agg 8 c1) (AV.int .i64 n2) = (getC c1 0 fun a3 => asI .i64 a3 fun n4 => ifB (decide ((n4 : Int) = 1)) ((apply_modulo (AV.int .i64 n2) (AV.int .i64 2)).bind fun r5 => asI .i64 r5 fun n6 => (scalar_Truth (AV.bool (decide ((n6 : Int) = 1)))).bind fun r7 => asC 8 r7 fun c8 => some (AV.agg 8 c8)) (ifB (decide ((n4 : Int) = 2)) (getC c1 1 fun a9 => asI .i64 a9 fun n10 => getC c1 2 fun a11 => asI .i64 a11 fun n12 => getC c1 1 fun a13 => asI .i64 a13 fun n14 => (apply_modulo (AV.int .i64 n2) (AV.int .i64 (w64 ((w64 (n12 - n14)) + 1)))).bind fun r15 => asI .i64 r15 fun n16 => some (AV.agg 8 [AV.int .i64 2, AV.int .i64 (w64 (n10 + n16)), AV.int .i64 (w64 (n10 + n16)), AV.str [], AV.bool false, AV.bool false, AV.bool false, AV.sl 2 []])) ((num_Text (AV.int .i64 n2)).bind fun r17 => asS r17 fun s18 => guardK (Nat.ble (List.length [116] + List.length s18) lim) <| some (AV.agg 8 [AV.int .i64 3, AV.int .i64 0, AV.int .i64 0, AV.str ([116] ++ s18), AV.bool false, AV.bool false, AV.bool false, AV.sl 2 []])))) :=
  (run117 _).trans (by kernel_rfl)

/-! treillage/treillageref35.atom: function 118 -/
noncomputable def d118 : FD := ⟨(Tryz.f118.body).getD .skip, Tryz.f118.results.toList, 35⟩
theorem run118 (l : List AV) : ωκ S 118 l = runM τ (fun _ => none) (ωκ S) [] lpκ d118.code (look (argEnv 0 l)) (retV τ d118.rs) :=
  ωκ_run S 118 l d118 rfl (by show (Tryz.prog.funcs[118]?).bind toFD = _; rw [Tryz.func118]; rfl)
theorem ref35_atom.f_eq (c1 : List AV) (n2 : Int) : ref35_atom (AV.agg 8 c1) (AV.int .i64 n2) = (getC c1 0 fun a3 => asI .i64 a3 fun n4 => ifB (decide ((n4 : Int) = 1)) ((ref35_mod (AV.int .i64 n2) (AV.int .i64 2)).bind fun r5 => asI .i64 r5 fun n6 => (ref35_mod (AV.int .i64 n2) (AV.int .i64 2)).bind fun r7 => asI .i64 r7 fun n8 => some (AV.agg 8 [AV.int .i64 1, AV.int .i64 n6, AV.int .i64 n8, AV.str [], AV.bool false, AV.bool false, AV.bool false, AV.sl 2 []])) (getC c1 0 fun a9 => asI .i64 a9 fun n10 => ifB (decide ((n10 : Int) = 2)) (getC c1 1 fun a11 => asI .i64 a11 fun n12 => getC c1 2 fun a13 => asI .i64 a13 fun n14 => getC c1 1 fun a15 => asI .i64 a15 fun n16 => (ref35_mod (AV.int .i64 n2) (AV.int .i64 (w64 ((w64 (n14 - n16)) + 1)))).bind fun r17 => asI .i64 r17 fun n18 => some (AV.agg 8 [AV.int .i64 2, AV.int .i64 (w64 (n12 + n18)), AV.int .i64 (w64 (n12 + n18)), AV.str [], AV.bool false, AV.bool false, AV.bool false, AV.sl 2 []])) ((ref01_Text (AV.int .i64 n2)).bind fun r19 => asS r19 fun s20 => guardK (Nat.ble (List.length [116] + List.length s20) lim) <| some (AV.agg 8 [AV.int .i64 3, AV.int .i64 0, AV.int .i64 0, AV.str ([116] ++ s20), AV.bool false, AV.bool false, AV.bool false, AV.sl 2 []])))) :=
  (run118 _).trans (by kernel_rfl)

/-! treillage/lat.listed: function 120 -/
noncomputable def d120 : FD := ⟨(Tryz.f120.body).getD .skip, Tryz.f120.results.toList, 73⟩
theorem run120 (l : List AV) : ωκ S 120 l = runM τ ann120 (ωκ S) [4] lpκ d120.code (look (argEnv 0 l)) (retV τ d120.rs) :=
  ωκ_run S 120 l d120 rfl (by show (Tryz.prog.funcs[120]?).bind toFD = _; rw [Tryz.func120]; rfl)
noncomputable def lat_listed.l0 (a1 a2 a20 a21 a22 : AV) : Option AV := loopAt S 120 d120 [1, 1, 0, 1, 0] (look [(1, a1), (2, a2), (20, a20), (21, a21), (22, a22)])
noncomputable def lat_listed.l1 (a2 a48 a49 a50 : AV) : Option AV := loopAt S 120 d120 [1, 1, 1, 0, 1, 0] (look [(2, a2), (48, a48), (49, a49), (50, a50)])
noncomputable def lat_listed.l2 (a2 a7 a8 a48 a49 a50 a56 a57 a58 : AV) : Option AV := loopAt S 120 d120 [1, 1, 1, 0, 1, 0, 0, 1, 1, 0, 0, 1, 1, 0] (look [(2, a2), (7, a7), (8, a8), (48, a48), (49, a49), (50, a50), (56, a56), (57, a57), (58, a58)])
theorem lat_listed.f_eq (c1 : List AV) (n2 : Int) : lat_listed (AV.agg 1 c1) (AV.int .i64 n2) = ((ifB (decide ((n2 : Int) < 1)) (some true) (getC c1 0 fun a4 => asL 8 a4 fun l5 => some (decide ((512 : Int) < (List.length l5 : Int)))) : Option Bool).bind fun b3 => ifB b3 (some (AV.bool false)) (getC c1 0 fun a6 => asL 8 a6 fun l7 => lat_listed.l0 (AV.int .i64 n2) (AV.boxv 1 c1 []) (AV.sl 8 l7) (AV.int .i64 (List.length l7 : Int)) (AV.int .i64 0))) :=
  (run120 _).trans (by kernel_rfl)
theorem lat_listed.l0_eq (n1 : Int) (c2 : List AV) (l3 : List (List AV)) (n4 : Int) (n5 : Int) : lat_listed.l0 (AV.int .i64 n1) (AV.boxv 1 c2 []) (AV.sl 8 l3) (AV.int .i64 n4) (AV.int .i64 n5) = (ifB (decide ((n5 : Int) < n4)) (idx l3 n5 fun c6 => (lat_shaped (AV.agg 8 c6) (AV.int .i64 n1)).bind fun r7 => asB r7 fun b8 => (ifB (!b8) (some true) ((ifB (decide ((0 : Int) < n5)) (getC c2 0 fun a11 => asL 8 a11 fun l12 => idx l12 (w64 (n5 - 1)) fun c13 => (rank_Terms (AV.agg 8 c13) (AV.agg 8 c6)).bind fun r14 => asI .i64 r14 fun n15 => some (decide ((0 : Int) ≤ n15))) (some false) : Option Bool).bind fun b10 => some b10) : Option Bool).bind fun b9 => ifB b9 (some (AV.bool false)) (lat_listed.l0 (AV.int .i64 n1) (AV.boxv 1 c2 []) (AV.sl 8 l3) (AV.int .i64 n4) (AV.int .i64 (w64 (n5 + 1))))) (getC c2 0 fun a16 => asL 8 a16 fun l17 => lat_listed.l1 (AV.boxv 1 c2 []) (AV.sl 8 l17) (AV.int .i64 (List.length l17 : Int)) (AV.int .i64 0))) :=
  (loopAt_eq S 120 d120 [1, 1, 0, 1, 0] _).trans (by kernel_rfl)
theorem lat_listed.l1_eq (c1 : List AV) (l2 : List (List AV)) (n3 : Int) (n4 : Int) : lat_listed.l1 (AV.boxv 1 c1 []) (AV.sl 8 l2) (AV.int .i64 n3) (AV.int .i64 n4) = (ifB (decide ((n4 : Int) < n3)) (idx l2 n4 fun c5 => getC c1 0 fun a6 => asL 8 a6 fun l7 => lat_listed.l2 (AV.boxv 1 c1 []) (AV.int .i64 n4) (AV.boxv 8 c5 []) (AV.sl 8 l2) (AV.int .i64 n3) (AV.int .i64 n4) (AV.sl 8 l7) (AV.int .i64 (List.length l7 : Int)) (AV.int .i64 0)) (some (AV.bool true))) :=
  (loopAt_eq S 120 d120 [1, 1, 1, 0, 1, 0] _).trans (by kernel_rfl)
theorem lat_listed.l2_eq (c1 : List AV) (n2 : Int) (c3 : List AV) (l4 : List (List AV)) (n5 : Int) (n6 : Int) (l7 : List (List AV)) (n8 : Int) (n9 : Int) : lat_listed.l2 (AV.boxv 1 c1 []) (AV.int .i64 n2) (AV.boxv 8 c3 []) (AV.sl 8 l4) (AV.int .i64 n5) (AV.int .i64 n6) (AV.sl 8 l7) (AV.int .i64 n8) (AV.int .i64 n9) = (ifB (decide ((n9 : Int) < n8)) (idx l7 n9 fun c10 => (ifB (!decide ((n2 : Int) = n9)) ((lat_below (AV.agg 8 c3) (AV.agg 8 c10)).bind fun r12 => asB r12 fun b13 => some b13) (some false) : Option Bool).bind fun b11 => ifB b11 (some (AV.bool false)) (lat_listed.l2 (AV.boxv 1 c1 []) (AV.int .i64 n2) (AV.boxv 8 c3 []) (AV.sl 8 l4) (AV.int .i64 n5) (AV.int .i64 n6) (AV.sl 8 l7) (AV.int .i64 n8) (AV.int .i64 (w64 (n9 + 1))))) (lat_listed.l1 (AV.boxv 1 c1 []) (AV.sl 8 l4) (AV.int .i64 n5) (AV.int .i64 (w64 (n6 + 1))))) :=
  (loopAt_eq S 120 d120 [1, 1, 1, 0, 1, 0, 0, 1, 1, 0, 0, 1, 1, 0] _).trans (by kernel_rfl)

/-! treillage/rank.Weight: function 121 -/
noncomputable def d121 : FD := ⟨(Tryz.f121.body).getD .skip, Tryz.f121.results.toList, 33⟩
theorem run121 (l : List AV) : ωκ S 121 l = runM τ ann121 (ωκ S) [2] lpκ d121.code (look (argEnv 0 l)) (retV τ d121.rs) :=
  ωκ_run S 121 l d121 rfl (by show (Tryz.prog.funcs[121]?).bind toFD = _; rw [Tryz.func121]; rfl)
noncomputable def rank_Weight.l0 (a3 a12 a13 a14 : AV) : Option AV := loopAt S 121 d121 [1, 1, 0, 1, 0] (look [(3, a3), (12, a12), (13, a13), (14, a14)])
noncomputable def rank_Weight.l1 (a3 a12 a13 a14 a19 a20 a21 : AV) : Option AV := loopAt S 121 d121 [1, 1, 0, 1, 0, 0, 1, 1, 0, 0, 1, 1, 0] (look [(3, a3), (12, a12), (13, a13), (14, a14), (19, a19), (20, a20), (21, a21)])
theorem rank_Weight.f_eq (c1 : List AV) : rank_Weight (AV.agg 1 c1) = (getC c1 0 fun a2 => asL 8 a2 fun l3 => getC c1 0 fun a4 => asL 8 a4 fun l5 => rank_Weight.l0 (AV.int .i64 (List.length l3 : Int)) (AV.sl 8 l5) (AV.int .i64 (List.length l5 : Int)) (AV.int .i64 0)) :=
  (run121 _).trans (by kernel_rfl)
theorem rank_Weight.l0_eq (n1 : Int) (l2 : List (List AV)) (n3 : Int) (n4 : Int) : rank_Weight.l0 (AV.int .i64 n1) (AV.sl 8 l2) (AV.int .i64 n3) (AV.int .i64 n4) = (ifB (decide ((n4 : Int) < n3)) (idx l2 n4 fun c5 => getC c5 7 fun a6 => asL 2 a6 fun l7 => rank_Weight.l1 (AV.int .i64 n1) (AV.sl 8 l2) (AV.int .i64 n3) (AV.int .i64 n4) (AV.sl 2 l7) (AV.int .i64 (List.length l7 : Int)) (AV.int .i64 0)) (some (AV.int .i64 n1))) :=
  (loopAt_eq S 121 d121 [1, 1, 0, 1, 0] _).trans (by kernel_rfl)
theorem rank_Weight.l1_eq (n1 : Int) (l2 : List (List AV)) (n3 : Int) (n4 : Int) (l5 : List (List AV)) (n6 : Int) (n7 : Int) : rank_Weight.l1 (AV.int .i64 n1) (AV.sl 8 l2) (AV.int .i64 n3) (AV.int .i64 n4) (AV.sl 2 l5) (AV.int .i64 n6) (AV.int .i64 n7) = (ifB (decide ((n7 : Int) < n6)) (idx l5 n7 fun c8 => getC c8 1 fun a9 => (rank_Weight (AV.agg 1 [(frz a9)])).bind fun r10 => asI .i64 r10 fun n11 => rank_Weight.l1 (AV.int .i64 (w64 (n1 + n11))) (AV.sl 8 l2) (AV.int .i64 n3) (AV.int .i64 n4) (AV.sl 2 l5) (AV.int .i64 n6) (AV.int .i64 (w64 (n7 + 1)))) (rank_Weight.l0 (AV.int .i64 n1) (AV.sl 8 l2) (AV.int .i64 n3) (AV.int .i64 (w64 (n4 + 1))))) :=
  (loopAt_eq S 121 d121 [1, 1, 0, 1, 0, 0, 1, 1, 0, 0, 1, 1, 0] _).trans (by kernel_rfl)

/-! treillage/code.mark: function 122 -/
noncomputable def d122 : FD := ⟨(Tryz.f122.body).getD .skip, Tryz.f122.results.toList, 21⟩
theorem run122 (l : List AV) : ωκ S 122 l = runM τ ann122 (ωκ S) [2] lpκ d122.code (look (argEnv 0 l)) (retV τ d122.rs) :=
  ωκ_run S 122 l d122 rfl (by show (Tryz.prog.funcs[122]?).bind toFD = _; rw [Tryz.func122]; rfl)
noncomputable def code_mark.j0 (a1 a3 : AV) : Option AV := joinAt S 122 d122 [1, 1] (look [(1, a1), (3, a3)])
theorem code_mark.f_eq (c1 : List AV) : code_mark (AV.agg 8 c1) = (getC c1 0 fun a2 => asI .i64 a2 fun n3 => getC c1 5 fun a4 => asB a4 fun b5 => ifB b5 (code_mark.j0 (AV.boxv 8 c1 []) (AV.int .u64 (bitsI .or .u64 (IntKind.wrap .u64 (w64 (n3 * 8))) 1))) (code_mark.j0 (AV.boxv 8 c1 []) (AV.int .u64 (IntKind.wrap .u64 (w64 (n3 * 8)))))) :=
  (run122 _).trans (by kernel_rfl)
theorem code_mark.j0_eq (c1 : List AV) (n2 : Int) : code_mark.j0 (AV.boxv 8 c1 []) (AV.int .u64 n2) = (getC c1 4 fun a3 => asB a3 fun b4 => ifB b4 (getC c1 6 fun a5 => asB a5 fun b6 => ifB b6 (some (AV.int .u64 (bitsI .or .u64 (bitsI .or .u64 n2 2) 4))) (some (AV.int .u64 (bitsI .or .u64 n2 2)))) (getC c1 6 fun a7 => asB a7 fun b8 => ifB b8 (some (AV.int .u64 (bitsI .or .u64 n2 4))) (some (AV.int .u64 n2)))) :=
  (joinAt_eq S 122 d122 [1, 1] _).trans (by kernel_rfl)

/-! treillage/vint.PutInt: function 123 -/
noncomputable def d123 : FD := ⟨(Tryz.f123.body).getD .skip, Tryz.f123.results.toList, 20⟩
theorem run123 (l : List AV) : ωκ S 123 l = runM τ (fun _ => none) (ωκ S) [4] lpκ d123.code (look (argEnv 0 l)) (retV τ d123.rs) :=
  ωκ_run S 123 l d123 rfl (by show (Tryz.prog.funcs[123]?).bind toFD = _; rw [Tryz.func123]; rfl)
theorem vint_PutInt.f_eq (l1 : List (List AV)) (n2 : Int) : vint_PutInt (AV.sl 1 l1) (AV.int .i64 n2) = (ifB (decide ((n2 : Int) < 0)) ((vint_Put (AV.sl 1 l1) (AV.int .u64 (IntKind.wrap .u64 ((IntKind.wrap .u64 ((IntKind.wrap .u64 (w64 (0 - (w64 (n2 + 1))))) * 2)) + 1)))).bind fun r3 => asL 1 r3 fun l4 => some (AV.sl 1 l4)) ((vint_Put (AV.sl 1 l1) (AV.int .u64 (IntKind.wrap .u64 ((IntKind.wrap .u64 (n2)) * 2)))).bind fun r5 => asL 1 r5 fun l6 => some (AV.sl 1 l6))) :=
  (run123 _).trans (by kernel_rfl)

/-! treillage/treillageref08.plain: function 125 -/
noncomputable def d125 : FD := ⟨(Tryz.f125.body).getD .skip, Tryz.f125.results.toList, 70⟩
theorem run125 (l : List AV) : ωκ S 125 l = runM τ (fun _ => none) (ωκ S) [4] lpκ d125.code (look (argEnv 0 l)) (retV τ d125.rs) :=
  ωκ_run S 125 l d125 rfl (by show (Tryz.prog.funcs[125]?).bind toFD = _; rw [Tryz.func125]; rfl)
theorem ref08_plain.f_eq (c1 : List AV) (c2 : List AV) : ref08_plain (AV.agg 8 c1) (AV.agg 8 c2) = (getC c1 0 fun a3 => asI .i64 a3 fun n4 => getC c2 0 fun a5 => asI .i64 a5 fun n6 => ifB (!decide ((n4 : Int) = n6)) (getC c1 0 fun a7 => asI .i64 a7 fun n8 => getC c2 0 fun a9 => asI .i64 a9 fun n10 => (ref08_nums (AV.int .i64 n8) (AV.int .i64 n10)).bind fun r11 => asI .i64 r11 fun n12 => some (AV.int .i64 n12)) (getC c1 1 fun a13 => asI .i64 a13 fun n14 => getC c2 1 fun a15 => asI .i64 a15 fun n16 => ifB (!decide ((n14 : Int) = n16)) (getC c1 1 fun a17 => asI .i64 a17 fun n18 => getC c2 1 fun a19 => asI .i64 a19 fun n20 => (ref08_nums (AV.int .i64 n18) (AV.int .i64 n20)).bind fun r21 => asI .i64 r21 fun n22 => some (AV.int .i64 n22)) (getC c1 2 fun a23 => asI .i64 a23 fun n24 => getC c2 2 fun a25 => asI .i64 a25 fun n26 => ifB (!decide ((n24 : Int) = n26)) (getC c1 2 fun a27 => asI .i64 a27 fun n28 => getC c2 2 fun a29 => asI .i64 a29 fun n30 => (ref08_nums (AV.int .i64 n28) (AV.int .i64 n30)).bind fun r31 => asI .i64 r31 fun n32 => some (AV.int .i64 n32)) (getC c1 3 fun a33 => asS a33 fun s34 => getC c2 3 fun a35 => asS a35 fun s36 => ifB (!decide ((s34 : List UInt8) = s36)) (getC c1 3 fun a37 => asS a37 fun s38 => getC c2 3 fun a39 => asS a39 fun s40 => (ref08_texts (AV.str s38) (AV.str s40)).bind fun r41 => asI .i64 r41 fun n42 => some (AV.int .i64 n42)) (getC c1 4 fun a43 => asB a43 fun b44 => getC c2 4 fun a45 => asB a45 fun b46 => ifB (!(b44 == b46)) (getC c1 4 fun a47 => asB a47 fun b48 => getC c2 4 fun a49 => asB a49 fun b50 => (ref08_bools (AV.bool b48) (AV.bool b50)).bind fun r51 => asI .i64 r51 fun n52 => some (AV.int .i64 n52)) (getC c1 5 fun a53 => asB a53 fun b54 => getC c2 5 fun a55 => asB a55 fun b56 => ifB (!(b54 == b56)) (getC c1 5 fun a57 => asB a57 fun b58 => getC c2 5 fun a59 => asB a59 fun b60 => (ref08_bools (AV.bool b58) (AV.bool b60)).bind fun r61 => asI .i64 r61 fun n62 => some (AV.int .i64 n62)) (getC c1 6 fun a63 => asB a63 fun b64 => getC c2 6 fun a65 => asB a65 fun b66 => (ref08_bools (AV.bool b64) (AV.bool b66)).bind fun r67 => asI .i64 r67 fun n68 => some (AV.int .i64 n68)))))))) :=
  (run125 _).trans (by kernel_rfl)

/-! treillage/treillageref08.texts: function 126 -/
noncomputable def d126 : FD := ⟨(Tryz.f126.body).getD .skip, Tryz.f126.results.toList, 11⟩
theorem run126 (l : List AV) : ωκ S 126 l = runM τ (fun _ => none) (ωκ S) [4] lpκ d126.code (look (argEnv 0 l)) (retV τ d126.rs) :=
  ωκ_run S 126 l d126 rfl (by show (Tryz.prog.funcs[126]?).bind toFD = _; rw [Tryz.func126]; rfl)
theorem ref08_texts.f_eq (s1 : List UInt8) (s2 : List UInt8) : ref08_texts (AV.str s1) (AV.str s2) = (ifB (bytesLt s1 s2) (some (AV.int .i64 (-1))) (ifB (!(bytesLt s1 s2 || decide ((s1 : List UInt8) = s2))) (some (AV.int .i64 1)) (some (AV.int .i64 0)))) :=
  (run126 _).trans (by kernel_rfl)

/-! treillage/lat.shaped: function 127 -/
noncomputable def d127 : FD := ⟨(Tryz.f127.body).getD .skip, Tryz.f127.results.toList, 53⟩
theorem run127 (l : List AV) : ωκ S 127 l = runM τ ann127 (ωκ S) [4] lpκ d127.code (look (argEnv 0 l)) (retV τ d127.rs) :=
  ωκ_run S 127 l d127 rfl (by show (Tryz.prog.funcs[127]?).bind toFD = _; rw [Tryz.func127]; rfl)
noncomputable def lat_shaped.l0 (a1 a31 a32 a33 : AV) : Option AV := loopAt S 127 d127 [1, 0, 1, 0, 1, 1, 1, 0, 1, 0, 1, 0] (look [(1, a1), (31, a31), (32, a32), (33, a33)])
theorem lat_shaped.f_eq (c1 : List AV) (n2 : Int) : lat_shaped (AV.agg 8 c1) (AV.int .i64 n2) = (getC c1 0 fun a3 => asI .i64 a3 fun n4 => ifB (decide ((n4 : Int) = 5)) ((lat_anything (AV.agg 8 c1)).bind fun r5 => asB r5 fun b6 => some (AV.bool b6)) (ifB (decide ((n4 : Int) = 4)) ((lat_bare (AV.agg 8 c1)).bind fun r7 => asB r7 fun b8 => (ifB (!b8) (some true) (getC c1 7 fun a10 => asL 2 a10 fun l11 => some (decide ((32 : Int) < (List.length l11 : Int)))) : Option Bool).bind fun b9 => (ifB b9 (some true) (getC c1 7 fun a13 => asL 2 a13 fun l14 => (lat_rising (AV.sl 2 l14)).bind fun r15 => asB r15 fun b16 => some (!b16)) : Option Bool).bind fun b12 => ifB b12 (some (AV.bool false)) (getC c1 7 fun a17 => asL 2 a17 fun l18 => lat_shaped.l0 (AV.int .i64 n2) (AV.sl 2 l18) (AV.int .i64 (List.length l18 : Int)) (AV.int .i64 0))) ((scalar_Right (AV.agg 8 c1)).bind fun r19 => asB r19 fun b20 => some (AV.bool b20)))) :=
  (run127 _).trans (by kernel_rfl)
theorem lat_shaped.l0_eq (n1 : Int) (l2 : List (List AV)) (n3 : Int) (n4 : Int) : lat_shaped.l0 (AV.int .i64 n1) (AV.sl 2 l2) (AV.int .i64 n3) (AV.int .i64 n4) = (ifB (decide ((n4 : Int) < n3)) (idx l2 n4 fun c5 => getC c5 1 fun a6 => asL 8 a6 fun l7 => (ifB (decide (((List.length l7 : Int) : Int) = 0)) (some true) (getC c5 1 fun a9 => (lat_listed (AV.agg 1 [(frz a9)]) (AV.int .i64 (w64 (n1 - 1)))).bind fun r10 => asB r10 fun b11 => some (!b11)) : Option Bool).bind fun b8 => ifB b8 (some (AV.bool false)) (lat_shaped.l0 (AV.int .i64 n1) (AV.sl 2 l2) (AV.int .i64 n3) (AV.int .i64 (w64 (n4 + 1))))) (some (AV.bool true))) :=
  (loopAt_eq S 127 d127 [1, 0, 1, 0, 1, 1, 1, 0, 1, 0, 1, 0] _).trans (by kernel_rfl)

/-! treillage/rank.Depth: function 128 -/
noncomputable def d128 : FD := ⟨(Tryz.f128.body).getD .skip, Tryz.f128.results.toList, 31⟩
theorem run128 (l : List AV) : ωκ S 128 l = runM τ ann128 (ωκ S) [2] lpκ d128.code (look (argEnv 0 l)) (retV τ d128.rs) :=
  ωκ_run S 128 l d128 rfl (by show (Tryz.prog.funcs[128]?).bind toFD = _; rw [Tryz.func128]; rfl)
noncomputable def rank_Depth.l0 (a3 a9 a10 a11 : AV) : Option AV := loopAt S 128 d128 [1, 1, 0, 1, 0] (look [(3, a3), (9, a9), (10, a10), (11, a11)])
noncomputable def rank_Depth.l1 (a3 a9 a10 a11 a16 a17 a18 : AV) : Option AV := loopAt S 128 d128 [1, 1, 0, 1, 0, 0, 1, 1, 0, 0, 1, 1, 0] (look [(3, a3), (9, a9), (10, a10), (11, a11), (16, a16), (17, a17), (18, a18)])
theorem rank_Depth.f_eq (c1 : List AV) : rank_Depth (AV.agg 1 c1) = (getC c1 0 fun a2 => asL 8 a2 fun l3 => rank_Depth.l0 (AV.int .i64 0) (AV.sl 8 l3) (AV.int .i64 (List.length l3 : Int)) (AV.int .i64 0)) :=
  (run128 _).trans (by kernel_rfl)
theorem rank_Depth.l0_eq (n1 : Int) (l2 : List (List AV)) (n3 : Int) (n4 : Int) : rank_Depth.l0 (AV.int .i64 n1) (AV.sl 8 l2) (AV.int .i64 n3) (AV.int .i64 n4) = (ifB (decide ((n4 : Int) < n3)) (idx l2 n4 fun c5 => getC c5 7 fun a6 => asL 2 a6 fun l7 => rank_Depth.l1 (AV.int .i64 n1) (AV.sl 8 l2) (AV.int .i64 n3) (AV.int .i64 n4) (AV.sl 2 l7) (AV.int .i64 (List.length l7 : Int)) (AV.int .i64 0)) (some (AV.int .i64 (w64 (n1 + 1))))) :=
  (loopAt_eq S 128 d128 [1, 1, 0, 1, 0] _).trans (by kernel_rfl)
theorem rank_Depth.l1_eq (n1 : Int) (l2 : List (List AV)) (n3 : Int) (n4 : Int) (l5 : List (List AV)) (n6 : Int) (n7 : Int) : rank_Depth.l1 (AV.int .i64 n1) (AV.sl 8 l2) (AV.int .i64 n3) (AV.int .i64 n4) (AV.sl 2 l5) (AV.int .i64 n6) (AV.int .i64 n7) = (ifB (decide ((n7 : Int) < n6)) (idx l5 n7 fun c8 => getC c8 1 fun a9 => (rank_Depth (AV.agg 1 [(frz a9)])).bind fun r10 => asI .i64 r10 fun n11 => rank_Depth.l1 (AV.int .i64 (max (n1 : Int) n11)) (AV.sl 8 l2) (AV.int .i64 n3) (AV.int .i64 n4) (AV.sl 2 l5) (AV.int .i64 n6) (AV.int .i64 (w64 (n7 + 1)))) (rank_Depth.l0 (AV.int .i64 n1) (AV.sl 8 l2) (AV.int .i64 n3) (AV.int .i64 (w64 (n4 + 1))))) :=
  (loopAt_eq S 128 d128 [1, 1, 0, 1, 0, 0, 1, 1, 0, 0, 1, 1, 0] _).trans (by kernel_rfl)

/-! slices.ContainsFunc[[]treillage/api.Field,treillage/api.Field]: function 130 -/
noncomputable def d130 : FD := ⟨(Tryz.f130.body).getD .skip, Tryz.f130.results.toList, 9⟩
theorem run130 (l : List AV) : ωκ S 130 l = runM τ (fun _ => none) (ωκ S) [4] lpκ d130.code (look (argEnv 0 l)) (retV τ d130.rs) :=
  ωκ_run S 130 l d130 rfl (by show (Tryz.prog.funcs[130]?).bind toFD = _; rw [Tryz.func130]; rfl)
theorem slices_ContainsFunc__Field.f_eq (l1 : List (List AV)) (f2 : Nat) (c3 : List AV) : slices_ContainsFunc__Field (AV.sl 2 l1) (AV.fn f2 c3) = ((slices_IndexFunc__Field (AV.sl 2 l1) (AV.fn f2 c3)).bind fun r4 => asI .i64 r4 fun n5 => some (AV.bool (decide ((0 : Int) ≤ n5)))) :=
  (run130 _).trans (by kernel_rfl)

/-! treillage/fact.all$1: function 131 -/
noncomputable def d131 : FD := ⟨(Tryz.f131.body).getD .skip, Tryz.f131.results.toList, 9⟩
theorem run131 (l : List AV) : ωκ S 131 l = runM τ (fun _ => none) (ωκ S) [3] lpκ d131.code (look (argEnv 0 l)) (retV τ d131.rs) :=
  ωκ_run S 131 l d131 rfl (by show (Tryz.prog.funcs[131]?).bind toFD = _; rw [Tryz.func131]; rfl)
theorem fact_all_1.f_eq (c1 : List AV) (f2 : Nat) (c3 : List AV) : fact_all_1 (AV.agg 2 c1) (AV.eptr 1 [AV.fn f2 c3] 0) = (getC c1 1 fun a4 => (fact_all (AV.agg 1 [(frz a4)]) (AV.fn f2 c3)).bind fun r5 => asB r5 fun b6 => some (AV.bool (!b6))) :=
  (run131 _).trans (by kernel_rfl)
end Go.Proofs.YtffojfcinkihnaaGreatDoor.Abs
