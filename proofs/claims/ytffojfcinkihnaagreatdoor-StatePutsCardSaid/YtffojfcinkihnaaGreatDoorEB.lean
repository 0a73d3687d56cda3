/- Several texts of mine in one (merge.py). -/
import Derived.Test.YtffojfcinkihnaaGreatDoorAbsT
/- What the code comes to, function by function (printed by gen.py). -/
set_option linter.unusedVariables false
set_option linter.unusedSimpArgs false
set_option linter.unusedSectionVars false
set_option linter.deprecated false
set_option linter.unnecessarySimpa false
namespace Go.Proofs.YtffojfcinkihnaaGreatDoor.Abs
set_option linter.unusedVariables false
set_option maxRecDepth 100000

/-! treillage/lat.listed: function 120 -/
noncomputable def d120 : FD := ⟨(Tryz.f120.body).getD .skip, Tryz.f120.results.toList, 73⟩
theorem run120 (l : List AV) : ωκ S 120 l = runM τ ann120 (ωκ S) [4] lpκ d120.code (look (argEnv 0 l)) (retV τ d120.rs) :=
  ωκ_run S 120 l d120 rfl (by show (Tryz.prog.funcs[120]?).bind toFD = _; rw [Tryz.func120]; rfl)
noncomputable def lat_listed.l0 (a1 a2 a20 a21 a22 : AV) : Option AV := loopAt S 120 d120 [1, 1, 0, 1, 0] (look [(1, a1), (2, a2), (20, a20), (21, a21), (22, a22)])
noncomputable def lat_listed.l1 (a2 a48 a49 a50 : AV) : Option AV := loopAt S 120 d120 [1, 1, 1, 0, 1, 0] (look [(2, a2), (48, a48), (49, a49), (50, a50)])
noncomputable def lat_listed.l2 (a2 a7 a8 a48 a49 a50 a56 a57 a58 : AV) : Option AV := loopAt S 120 d120 [1, 1, 1, 0, 1, 0, 0, 1, 1, 0, 0, 1, 1, 0] (look [(2, a2), (7, a7), (8, a8), (48, a48), (49, a49), (50, a50), (56, a56), (57, a57), (58, a58)])
theorem lat_listed.f_eq (c1 : List AV) (n2 : Int) : lat_listed (AV.agg 1 c1) (AV.int .i64 n2) = ((ifB (decide ((n2 : Int) < 1)) (some true) (getC c1 0 fun a4 => asL 8 a4 fun l5 => some (decide ((512 : Int) < (List.length l5 : Int)))) : Option Bool).bind fun b3 => ifB b3 (some (AV.bool false)) (getC c1 0 fun a6 => asL 8 a6 fun l7 => lat_listed.l0 (AV.int .i64 n2) (AV.boxv 1 c1 []) (AV.sl 8 l7) (AV.int .i64 (List.length l7 : Int)) (AV.int .i64 0))) :=
  (run120 _).trans (by kernel_rfl)
theorem lat_listed.l0_eq (n1 : Int) (c2 : List AV) (l3 : List (List AV)) (n4 : Int) (n5 : Int) : lat_listed.l0 (AV.int .i64 n1) (AV.boxv 1 c2 []) (AV.sl 8 l3) (AV.int .i64 n4) (AV.int .i64 n5) = (ifB (decide ((n5 : Int) < n4)) (idx l3 n5 fun c6 => (lat_shaped (AV.agg 8 c6) (AV.int .i64 n1)).bind fun r7 => asB r7 fun b8 => (ifB (!b8) (some true) ((ifB (decide ((0 : Int) < n5)) (getC c2 0 fun a11 => asL 8 a11 fun l12 => idx l12 (w64 (n5 - 1)) fun c13 => (rank_Terms (AV.agg 8 c13) (AV.agg 8 c6)).bind fun r14 => asI .i64 r14 fun n15 => some (decide ((0 : Int) ≤ n15))) (some false) : Option Bool).bind fun b10 => some b10) : Option Bool).bind fun b9 => ifB b9 (some (AV.bool false)) (lat_listed.l0 (AV.int .i64 n1) (AV.boxv 1 c2 []) (AV.sl 8 l3) (AV.int .i64 n4) (AV.int .i64 (w64 (n5 + 1))))) (getC c2 0 fun a16 => asL 8 a16 fun l17 => lat_listed.l1 (AV.boxv 1 c2 []) (AV.sl 8 l17) (AV.int .i64 (List.length l17 : Int)) (AV.int .i64 0))) :=
  (loopAt_eq S 120 d120 [1, 1, 0, 1, 0] _).trans (by kernel_rfl)
theorem lat_listed.l1_eq (c1 : List AV) (l2 : List (List AV)) (n3 : Int) (n4 : Int) : lat_listed.l1 (AV.boxv 1 c1 []) (AV.sl 8 l2) (AV.int .i64 n3) (AV.int .i64 n4) = (ifB (decide ((n4 : Int) < n3)) (idx l2 n4 fun c5 => getC c1 0 fun a6 => asL 8 a6 fun l7 => lat_listed.l2 (AV.boxv 1 c1 []) (AV.int .i64 n4) (AV.boxv 8 c5 []) (AV.sl 8 l2) (AV.int .i64 n3) (AV.int .i64 n4) (AV.sl 8 l7) (AV.int .i64 (List.length l7 : Int)) (AV.int .i64 0)) (some (AV.bool true))) :=
  (loopAt_eq S 120 d120 [1, 1, 1, 0, 1, 0] _).trans (by kernel_rfl)
theorem lat_listed.l2_eq (c1 : List AV) (n2 : Int) (c3 : List AV) (l4 : List (List AV)) (n5 : Int) (n6 : Int) (l7 : List (List AV)) (n8 : Int) (n9 : Int) : lat_listed.l2 (AV.boxv 1 c1 []) (AV.int .i64 n2) (AV.boxv 8 c3 []) (AV.sl 8 l4) (AV.int .i64 n5) (AV.int .i64 n6) (AV.sl 8 l7) (AV.int .i64 n8) (AV.int .i64 n9) = (ifB (decide ((n9 : Int) < n8)) (idx l7 n9 fun c10 => (ifB (!decide ((n2 : Int) = n9)) ((lat_below (AV.agg 8 c3) (AV.agg 8 c10)).bind fun r12 => asB r12 fun b13 => some b13) (some false) : Option Bool).bind fun b11 => ifB b11 (some (AV.bool false)) (lat_listed.l2 (AV.boxv 1 c1 []) (AV.int .i64 n2) (AV.boxv 8 c3 []) (AV.sl 8 l4) (AV.int .i64 n5) (AV.int .i64 n6) (AV.sl 8 l7) (AV.int .i64 n8) (AV.int .i64 (w64 (n9 + 1))))) (lat_listed.l1 (AV.boxv 1 c1 []) (AV.sl 8 l4) (AV.int .i64 n5) (AV.int .i64 (w64 (n6 + 1))))) :=
  (loopAt_eq S 120 d120 [1, 1, 1, 0, 1, 0, 0, 1, 1, 0, 0, 1, 1, 0] _).trans (by kernel_rfl)

/-! treillage/rank.Weight: function 121 -/
noncomputable def d121 : FD := ⟨(Tryz.f121.body).getD .skip, Tryz.f121.results.toList, 33⟩
theorem run121 (l : List AV) : ωκ S 121 l = runM τ ann121 (ωκ S) [2] lpκ d121.code (look (argEnv 0 l)) (retV τ d121.rs) :=
  ωκ_run S 121 l d121 rfl (by show (Tryz.prog.funcs[121]?).bind toFD = _; rw [Tryz.func121]; rfl)
noncomputable def rank_Weight.l0 (a3 a12 a13 a14 : AV) : Option AV := loopAt S 121 d121 [1, 1, 0, 1, 0] (look [(3, a3), (12, a12), (13, a13), (14, a14)])
noncomputable def rank_Weight.l1 (a3 a12 a13 a14 a19 a20 a21 : AV) : Option AV := loopAt S 121 d121 [1, 1, 0, 1, 0, 0, 1, 1, 0, 0, 1, 1, 0] (look [(3, a3), (12, a12), (13, a13), (14, a14), (19, a19), (20, a20), (21, a21)])
theorem rank_Weight.f_eq (c1 : List AV) : rank_Weight (AV.agg 1 c1) = (getC c1 0 fun a2 => asL 8 a2 fun l3 => getC c1 0 fun a4 => asL 8 a4 fun l5 => rank_Weight.l0 (AV.int .i64 (List.length l3 : Int)) (AV.sl 8 l5) (AV.int .i64 (List.length l5 : Int)) (AV.int .i64 0)) :=
  (run121 _).trans (by kernel_rfl)
theorem rank_Weight.l0_eq (n1 : Int) (l2 : List (List AV)) (n3 : Int) (n4 : Int) : rank_Weight.l0 (AV.int .i64 n1) (AV.sl 8 l2) (AV.int .i64 n3) (AV.int .i64 n4) = (ifB (decide ((n4 : Int) < n3)) (idx l2 n4 fun c5 => getC c5 7 fun a6 => asL 2 a6 fun l7 => rank_Weight.l1 (AV.int .i64 n1) (AV.sl 8 l2) (AV.int .i64 n3) (AV.int .i64 n4) (AV.sl 2 l7) (AV.int .i64 (List.length l7 : Int)) (AV.int .i64 0)) (some (AV.int .i64 n1))) :=
  (loopAt_eq S 121 d121 [1, 1, 0, 1, 0] _).trans (by kernel_rfl)
theorem rank_Weight.l1_eq (n1 : Int) (l2 : List (List AV)) (n3 : Int) (n4 : Int) (l5 : List (List AV)) (n6 : Int) (n7 : Int) : rank_Weight.l1 (AV.int .i64 n1) (AV.sl 8 l2) (AV.int .i64 n3) (AV.int .i64 n4) (AV.sl 2 l5) (AV.int .i64 n6) (AV.int .i64 n7) = (ifB (decide ((n7 : Int) < n6)) (idx l5 n7 fun c8 => getC c8 1 fun a9 => (rank_Weight (AV.agg 1 [(frz a9)])).bind fun r10 => asI .i64 r10 fun n11 => rank_Weight.l1 (AV.int .i64 (w64 (n1 + n11))) (AV.sl 8 l2) (AV.int .i64 n3) (AV.int .i64 n4) (AV.sl 2 l5) (AV.int .i64 n6) (AV.int .i64 (w64 (n7 + 1)))) (rank_Weight.l0 (AV.int .i64 n1) (AV.sl 8 l2) (AV.int .i64 n3) (AV.int .i64 (w64 (n4 + 1))))) :=
  (loopAt_eq S 121 d121 [1, 1, 0, 1, 0, 0, 1, 1, 0, 0, 1, 1, 0] _).trans (by kernel_rfl)

/-! treillage/treillageref08.plain: function 125 -/
noncomputable def d125 : FD := ⟨(Tryz.f125.body).getD .skip, Tryz.f125.results.toList, 70⟩
theorem run125 (l : List AV) : ωκ S 125 l = runM τ (fun _ => none) (ωκ S) [4] lpκ d125.code (look (argEnv 0 l)) (retV τ d125.rs) :=
  ωκ_run S 125 l d125 rfl (by show (Tryz.prog.funcs[125]?).bind toFD = _; rw [Tryz.func125]; rfl)
theorem ref08_plain.f_eq (c1 : List AV) (c2 : List AV) : ref08_plain (AV.agg 8 c1) (AV.agg 8 c2) = (getC c1 0 fun a3 => asI .i64 a3 fun n4 => getC c2 0 fun a5 => asI .i64 a5 fun n6 => ifB (!decide ((n4 : Int) = n6)) (getC c1 0 fun a7 => asI .i64 a7 fun n8 => getC c2 0 fun a9 => asI .i64 a9 fun n10 => (ref08_nums (AV.int .i64 n8) (AV.int .i64 n10)).bind fun r11 => asI .i64 r11 fun n12 => some (AV.int .i64 n12)) (getC c1 1 fun a13 => asI .i64 a13 fun n14 => getC c2 1 fun a15 => asI .i64 a15 fun n16 => ifB (!decide ((n14 : Int) = n16)) (getC c1 1 fun a17 => asI .i64 a17 fun n18 => getC c2 1 fun a19 => asI .i64 a19 fun n20 => (ref08_nums (AV.int .i64 n18) (AV.int .i64 n20)).bind fun r21 => asI .i64 r21 fun n22 => some (AV.int .i64 n22)) (getC c1 2 fun a23 => asI .i64 a23 fun n24 => getC c2 2 fun a25 => asI .i64 a25 fun n26 => ifB (!decide ((n24 : Int) = n26)) (getC c1 2 fun a27 => asI .i64 a27 fun n28 => getC c2 2 fun a29 => asI .i64 a29 fun n30 => (ref08_nums (AV.int .i64 n28) (AV.int .i64 n30)).bind fun r31 => asI .i64 r31 fun n32 => some (AV.int .i64 n32)) (getC c1 3 fun a33 => asS a33 fun s34 => getC c2 3 fun a35 => asS a35 fun s36 => ifB (!decide ((s34 : List UInt8) = s36)) (getC c1 3 fun a37 => asS a37 fun s38 => getC c2 3 fun a39 => asS a39 fun s40 => (ref08_texts (AV.str s38) (AV.str s40)).bind fun r41 => asI .i64 r41 fun n42 => some (AV.int .i64 n42)) (getC c1 4 fun a43 => asB a43 fun b44 => getC c2 4 fun a45 => asB a45 fun b46 => ifB (!(b44 == b46)) (getC c1 4 fun a47 => asB a47 fun b48 => getC c2 4 fun a49 => asB a49 fun b50 => (ref08_bools (AV.bool b48) (AV.bool b50)).bind fun r51 => asI .i64 r51 fun n52 => some (AV.int .i64 n52)) (getC c1 5 fun a53 => asB a53 fun b54 => getC c2 5 fun a55 => asB a55 fun b56 => ifB (!(b54 == b56)) (getC c1 5 fun a57 => asB a57 fun b58 => getC c2 5 fun a59 => asB a59 fun b60 => (ref08_bools (AV.bool b58) (AV.bool b60)).bind fun r61 => asI .i64 r61 fun n62 => some (AV.int .i64 n62)) (getC c1 6 fun a63 => asB a63 fun b64 => getC c2 6 fun a65 => asB a65 fun b66 => (ref08_bools (AV.bool b64) (AV.bool b66)).bind fun r67 => asI .i64 r67 fun n68 => some (AV.int .i64 n68)))))))) :=
  (run125 _).trans (by kernel_rfl)

/-! treillage/treillageref08.texts: function 126 -/
noncomputable def d126 : FD := ⟨(Tryz.f126.body).getD .skip, Tryz.f126.results.toList, 11⟩
theorem run126 (l : List AV) : ωκ S 126 l = runM τ (fun _ => none) (ωκ S) [4] lpκ d126.code (look (argEnv 0 l)) (retV τ d126.rs) :=
  ωκ_run S 126 l d126 rfl (by show (Tryz.prog.funcs[126]?).bind toFD = _; rw [Tryz.func126]; rfl)
theorem ref08_texts.f_eq (s1 : List UInt8) (s2 : List UInt8) : ref08_texts (AV.str s1) (AV.str s2) = (ifB (bytesLt s1 s2) (some (AV.int .i64 (-1))) (ifB (!(bytesLt s1 s2 || decide ((s1 : List UInt8) = s2))) (some (AV.int .i64 1)) (some (AV.int .i64 0)))) :=
  (run126 _).trans (by kernel_rfl)

/-! treillage/lat.shaped: function 127 -/
noncomputable def d127 : FD := ⟨(Tryz.f127.body).getD .skip, Tryz.f127.results.toList, 53⟩
theorem run127 (l : List AV) : ωκ S 127 l = runM τ ann127 (ωκ S) [4] lpκ d127.code (look (argEnv 0 l)) (retV τ d127.rs) :=
  ωκ_run S 127 l d127 rfl (by show (Tryz.prog.funcs[127]?).bind toFD = _; rw [Tryz.func127]; rfl)
noncomputable def lat_shaped.l0 (a1 a31 a32 a33 : AV) : Option AV := loopAt S 127 d127 [1, 0, 1, 0, 1, 1, 1, 0, 1, 0, 1, 0] (look [(1, a1), (31, a31), (32, a32), (33, a33)])
theorem lat_shaped.f_eq (c1 : List AV) (n2 : Int) : lat_shaped (AV.agg 8 c1) (AV.int .i64 n2) = (getC c1 0 fun a3 => asI .i64 a3 fun n4 => ifB (decide ((n4 : Int) = 5)) ((lat_anything (AV.agg 8 c1)).bind fun r5 => asB r5 fun b6 => some (AV.bool b6)) (ifB (decide ((n4 : Int) = 4)) ((lat_bare (AV.agg 8 c1)).bind fun r7 => asB r7 fun b8 => (ifB (!b8) (some true) (getC c1 7 fun a10 => asL 2 a10 fun l11 => some (decide ((32 : Int) < (List.length l11 : Int)))) : Option Bool).bind fun b9 => (ifB b9 (some true) (getC c1 7 fun a13 => asL 2 a13 fun l14 => (lat_rising (AV.sl 2 l14)).bind fun r15 => asB r15 fun b16 => some (!b16)) : Option Bool).bind fun b12 => ifB b12 (some (AV.bool false)) (getC c1 7 fun a17 => asL 2 a17 fun l18 => lat_shaped.l0 (AV.int .i64 n2) (AV.sl 2 l18) (AV.int .i64 (List.length l18 : Int)) (AV.int .i64 0))) ((scalar_Right (AV.agg 8 c1)).bind fun r19 => asB r19 fun b20 => some (AV.bool b20)))) :=
  (run127 _).trans (by kernel_rfl)
theorem lat_shaped.l0_eq (n1 : Int) (l2 : List (List AV)) (n3 : Int) (n4 : Int) : lat_shaped.l0 (AV.int .i64 n1) (AV.sl 2 l2) (AV.int .i64 n3) (AV.int .i64 n4) = (ifB (decide ((n4 : Int) < n3)) (idx l2 n4 fun c5 => getC c5 1 fun a6 => asL 8 a6 fun l7 => (ifB (decide (((List.length l7 : Int) : Int) = 0)) (some true) (getC c5 1 fun a9 => (lat_listed (AV.agg 1 [(frz a9)]) (AV.int .i64 (w64 (n1 - 1)))).bind fun r10 => asB r10 fun b11 => some (!b11)) : Option Bool).bind fun b8 => ifB b8 (some (AV.bool false)) (lat_shaped.l0 (AV.int .i64 n1) (AV.sl 2 l2) (AV.int .i64 n3) (AV.int .i64 (w64 (n4 + 1))))) (some (AV.bool true))) :=
  (loopAt_eq S 127 d127 [1, 0, 1, 0, 1, 1, 1, 0, 1, 0, 1, 0] _).trans (by kernel_rfl)

/-! treillage/rank.Depth: function 128 -/
noncomputable def d128 : FD := ⟨(Tryz.f128.body).getD .skip, Tryz.f128.results.toList, 31⟩
theorem run128 (l : List AV) : ωκ S 128 l = runM τ ann128 (ωκ S) [2] lpκ d128.code (look (argEnv 0 l)) (retV τ d128.rs) :=
  ωκ_run S 128 l d128 rfl (by show (Tryz.prog.funcs[128]?).bind toFD = _; rw [Tryz.func128]; rfl)
noncomputable def rank_Depth.l0 (a3 a9 a10 a11 : AV) : Option AV := loopAt S 128 d128 [1, 1, 0, 1, 0] (look [(3, a3), (9, a9), (10, a10), (11, a11)])
noncomputable def rank_Depth.l1 (a3 a9 a10 a11 a16 a17 a18 : AV) : Option AV := loopAt S 128 d128 [1, 1, 0, 1, 0, 0, 1, 1, 0, 0, 1, 1, 0] (look [(3, a3), (9, a9), (10, a10), (11, a11), (16, a16), (17, a17), (18, a18)])
theorem rank_Depth.f_eq (c1 : List AV) : rank_Depth (AV.agg 1 c1) = (getC c1 0 fun a2 => asL 8 a2 fun l3 => rank_Depth.l0 (AV.int .i64 0) (AV.sl 8 l3) (AV.int .i64 (List.length l3 : Int)) (AV.int .i64 0)) :=
  (run128 _).trans (by kernel_rfl)
theorem rank_Depth.l0_eq (n1 : Int) (l2 : List (List AV)) (n3 : Int) (n4 : Int) : rank_Depth.l0 (AV.int .i64 n1) (AV.sl 8 l2) (AV.int .i64 n3) (AV.int .i64 n4) = (ifB (decide ((n4 : Int) < n3)) (idx l2 n4 fun c5 => getC c5 7 fun a6 => asL 2 a6 fun l7 => rank_Depth.l1 (AV.int .i64 n1) (AV.sl 8 l2) (AV.int .i64 n3) (AV.int .i64 n4) (AV.sl 2 l7) (AV.int .i64 (List.length l7 : Int)) (AV.int .i64 0)) (some (AV.int .i64 (w64 (n1 + 1))))) :=
  (loopAt_eq S 128 d128 [1, 1, 0, 1, 0] _).trans (by kernel_rfl)
theorem rank_Depth.l1_eq (n1 : Int) (l2 : List (List AV)) (n3 : Int) (n4 : Int) (l5 : List (List AV)) (n6 : Int) (n7 : Int) : rank_Depth.l1 (AV.int .i64 n1) (AV.sl 8 l2) (AV.int .i64 n3) (AV.int .i64 n4) (AV.sl 2 l5) (AV.int .i64 n6) (AV.int .i64 n7) = (ifB (decide ((n7 : Int) < n6)) (idx l5 n7 fun c8 => getC c8 1 fun a9 => (rank_Depth (AV.agg 1 [(frz a9)])).bind fun r10 => asI .i64 r10 fun n11 => rank_Depth.l1 (AV.int .i64 (max (n1 : Int) n11)) (AV.sl 8 l2) (AV.int .i64 n3) (AV.int .i64 n4) (AV.sl 2 l5) (AV.int .i64 n6) (AV.int .i64 (w64 (n7 + 1)))) (rank_Depth.l0 (AV.int .i64 n1) (AV.sl 8 l2) (AV.int .i64 n3) (AV.int .i64 (w64 (n4 + 1))))) :=
  (loopAt_eq S 128 d128 [1, 1, 0, 1, 0, 0, 1, 1, 0, 0, 1, 1, 0] _).trans (by kernel_rfl)

/-! slices.ContainsFunc[[]treillage/api.Field,treillage/api.Field]: function 130 -/
noncomputable def d130 : FD := ⟨(Tryz.f130.body).getD .skip, Tryz.f130.results.toList, 9⟩
theorem run130 (l : List AV) : ωκ S 130 l = runM τ (fun _ => none) (ωκ S) [4] lpκ d130.code (look (argEnv 0 l)) (retV τ d130.rs) :=
  ωκ_run S 130 l d130 rfl (by show (Tryz.prog.funcs[130]?).bind toFD = _; rw [Tryz.func130]; rfl)
theorem slices_ContainsFunc__Field.f_eq (l1 : List (List AV)) (f2 : Nat) (c3 : List AV) : slices_ContainsFunc__Field (AV.sl 2 l1) (AV.fn f2 c3) = ((slices_IndexFunc__Field (AV.sl 2 l1) (AV.fn f2 c3)).bind fun r4 => asI .i64 r4 fun n5 => some (AV.bool (decide ((0 : Int) ≤ n5)))) :=
  (run130 _).trans (by kernel_rfl)

/-! treillage/fact.all$1: function 131 -/
noncomputable def d131 : FD := ⟨(Tryz.f131.body).getD .skip, Tryz.f131.results.toList, 9⟩
theorem run131 (l : List AV) : ωκ S 131 l = runM τ (fun _ => none) (ωκ S) [3] lpκ d131.code (look (argEnv 0 l)) (retV τ d131.rs) :=
  ωκ_run S 131 l d131 rfl (by show (Tryz.prog.funcs[131]?).bind toFD = _; rw [Tryz.func131]; rfl)
theorem fact_all_1.f_eq (c1 : List AV) (f2 : Nat) (c3 : List AV) : fact_all_1 (AV.agg 2 c1) (AV.eptr 1 [AV.fn f2 c3] 0) = (getC c1 1 fun a4 => (fact_all (AV.agg 1 [(frz a4)]) (AV.fn f2 c3)).bind fun r5 => asB r5 fun b6 => some (AV.bool (!b6))) :=
  (run131 _).trans (by kernel_rfl)

/-! treillage/scalar.Right: function 132 -/
noncomputable def d132 : FD := ⟨(Tryz.f132.body).getD .skip, Tryz.f132.results.toList, 79⟩
theorem run132 (l : List AV) : ωκ S 132 l = runM τ ann132 (ωκ S) [2] lpκ d132.code (look (argEnv 0 l)) (retV τ d132.rs) :=
  ωκ_run S 132 l d132 rfl (by show (Tryz.prog.funcs[132]?).bind toFD = _; rw [Tryz.func132]; rfl)
noncomputable def scalar_Right.j0 (a1 a3 a4 : AV) : Option AV := joinAt S 132 d132 [1, 1, 1, 1, 0, 1, 0] (look [(1, a1), (3, a3), (4, a4)])
theorem scalar_Right.f_eq (c1 : List AV) : scalar_Right (AV.agg 8 c1) = ((scalar_bare (AV.agg 8 c1)).bind fun r2 => asB r2 fun b3 => (ifB (!b3) (some true) (getC c1 5 fun a5 => asB a5 fun b6 => (ifB b6 ((scalar_one (AV.agg 8 c1)).bind fun r8 => asB r8 fun b9 => some b9) (some false) : Option Bool).bind fun b7 => some b7) : Option Bool).bind fun b4 => ifB b4 (some (AV.bool false)) (getC c1 0 fun a10 => asI .i64 a10 fun n11 => ifB (decide ((n11 : Int) = 3)) (getC c1 1 fun a12 => asI .i64 a12 fun n13 => (ifB (decide ((n13 : Int) = 0)) (getC c1 2 fun a15 => asI .i64 a15 fun n16 => some (decide ((n16 : Int) = 0))) (some false) : Option Bool).bind fun b14 => (ifB b14 (getC c1 4 fun a18 => asB a18 fun b19 => (ifB b19 (getC c1 3 fun a21 => asS a21 fun s22 => some (decide ((s22 : List UInt8) = []))) (some false) : Option Bool).bind fun b20 => (ifB b20 (some true) (getC c1 4 fun a24 => asB a24 fun b25 => (ifB (!b25) (getC c1 3 fun a27 => asS a27 fun s28 => some (decide (((List.length s28 : Int) : Int) ≤ 256))) (some false) : Option Bool).bind fun b26 => some b26) : Option Bool).bind fun b23 => some b23) (some false) : Option Bool).bind fun b17 => some (AV.bool b17)) (ifB (decide ((n11 : Int) = 2)) (scalar_Right.j0 (AV.boxv 8 c1 []) (AV.int .i64 9007199254740992) (AV.int .i64 (-9007199254740992))) (ifB (decide ((n11 : Int) = 1)) (scalar_Right.j0 (AV.boxv 8 c1 []) (AV.int .i64 1) (AV.int .i64 0)) (some (AV.bool false)))))) :=
  (run132 _).trans (by kernel_rfl)
theorem scalar_Right.j0_eq (c1 : List AV) (n2 : Int) (n3 : Int) : scalar_Right.j0 (AV.boxv 8 c1 []) (AV.int .i64 n2) (AV.int .i64 n3) = (getC c1 1 fun a4 => asI .i64 a4 fun n5 => (ifB (decide ((n3 : Int) ≤ n5)) (getC c1 1 fun a7 => asI .i64 a7 fun n8 => getC c1 2 fun a9 => asI .i64 a9 fun n10 => some (decide ((n8 : Int) ≤ n10))) (some false) : Option Bool).bind fun b6 => (ifB b6 (getC c1 2 fun a12 => asI .i64 a12 fun n13 => some (decide ((n13 : Int) ≤ n2))) (some false) : Option Bool).bind fun b11 => (ifB b11 (getC c1 3 fun a15 => asS a15 fun s16 => some (decide ((s16 : List UInt8) = []))) (some false) : Option Bool).bind fun b14 => (ifB b14 (getC c1 4 fun a18 => asB a18 fun b19 => some (!b19)) (some false) : Option Bool).bind fun b17 => some (AV.bool b17)) :=
  (joinAt_eq S 132 d132 [1, 1, 1, 1, 0, 1, 0] _).trans (by kernel_rfl)

/-! treillage/scalar.one: function 133 -/
noncomputable def d133 : FD := ⟨(Tryz.f133.body).getD .skip, Tryz.f133.results.toList, 14⟩
theorem run133 (l : List AV) : ωκ S 133 l = runM τ (fun _ => none) (ωκ S) [2] lpκ d133.code (look (argEnv 0 l)) (retV τ d133.rs) :=
  ωκ_run S 133 l d133 rfl (by show (Tryz.prog.funcs[133]?).bind toFD = _; rw [Tryz.func133]; rfl)
theorem scalar_one.f_eq (c1 : List AV) : scalar_one (AV.agg 8 c1) = (getC c1 0 fun a2 => asI .i64 a2 fun n3 => ifB (decide ((n3 : Int) = 3)) (getC c1 4 fun a4 => asB a4 fun b5 => some (AV.bool (!b5))) (getC c1 1 fun a6 => asI .i64 a6 fun n7 => getC c1 2 fun a8 => asI .i64 a8 fun n9 => some (AV.bool (decide ((n7 : Int) = n9))))) :=
  (run133 _).trans (by kernel_rfl)
end Go.Proofs.YtffojfcinkihnaaGreatDoor.Abs
/- What the code comes to, function by function (printed by gen.py). -/
set_option linter.unusedVariables false
set_option linter.unusedSimpArgs false
set_option linter.unusedSectionVars false
set_option linter.deprecated false
set_option linter.unnecessarySimpa false
namespace Go.Proofs.YtffojfcinkihnaaGreatDoor.Abs
set_option linter.unusedVariables false
set_option maxRecDepth 100000

/-! treillage/treillageref07.Right: function 142 -/
noncomputable def d142 : FD := ⟨(Tryz.f142.body).getD .skip, Tryz.f142.results.toList, 82⟩
theorem run142 (l : List AV) : ωκ S 142 l = runM τ (fun _ => none) (ωκ S) [2] lpκ d142.code (look (argEnv 0 l)) (retV τ d142.rs) :=
  ωκ_run S 142 l d142 rfl (by show (Tryz.prog.funcs[142]?).bind toFD = _; rw [Tryz.func142]; rfl)
theorem ref07_Right.f_eq (c1 : List AV) : ref07_Right (AV.agg 8 c1) = (getC c1 6 fun a2 => asB a2 fun b3 => (ifB b3 (some true) (getC c1 7 fun a5 => asL 2 a5 fun l6 => some (decide ((0 : Int) < (List.length l6 : Int)))) : Option Bool).bind fun b4 => (ifB b4 (some true) (getC c1 5 fun a8 => asB a8 fun b9 => (ifB b9 ((ref07_Single (AV.agg 8 c1)).bind fun r11 => asB r11 fun b12 => some b12) (some false) : Option Bool).bind fun b10 => some b10) : Option Bool).bind fun b7 => ifB b7 (some (AV.bool false)) (getC c1 0 fun a13 => asI .i64 a13 fun n14 => ifB (decide ((n14 : Int) = 3)) (getC c1 1 fun a15 => asI .i64 a15 fun n16 => (ifB (!decide ((n16 : Int) = 0)) (some true) (getC c1 2 fun a18 => asI .i64 a18 fun n19 => some (!decide ((n19 : Int) = 0))) : Option Bool).bind fun b17 => (ifB b17 (some true) (getC c1 3 fun a21 => asS a21 fun s22 => some (decide ((256 : Int) < (List.length s22 : Int)))) : Option Bool).bind fun b20 => ifB b20 (some (AV.bool false)) (getC c1 4 fun a23 => asB a23 fun b24 => (ifB (!b24) (some true) (getC c1 3 fun a26 => asS a26 fun s27 => some (decide ((s27 : List UInt8) = []))) : Option Bool).bind fun b25 => some (AV.bool b25))) (getC c1 3 fun a28 => asS a28 fun s29 => (ifB (!decide ((s29 : List UInt8) = [])) (some true) (getC c1 4 fun a31 => asB a31 fun b32 => some b32) : Option Bool).bind fun b30 => (ifB b30 (some true) (getC c1 1 fun a34 => asI .i64 a34 fun n35 => getC c1 2 fun a36 => asI .i64 a36 fun n37 => some (decide ((n37 : Int) < n35))) : Option Bool).bind fun b33 => ifB b33 (some (AV.bool false)) (getC c1 0 fun a38 => asI .i64 a38 fun n39 => ifB (decide ((n39 : Int) = 1)) (getC c1 1 fun a40 => asI .i64 a40 fun n41 => (ifB (decide ((0 : Int) ≤ n41)) (getC c1 2 fun a43 => asI .i64 a43 fun n44 => some (decide ((n44 : Int) ≤ 1))) (some false) : Option Bool).bind fun b42 => some (AV.bool b42)) (getC c1 0 fun a45 => asI .i64 a45 fun n46 => (ifB (decide ((n46 : Int) = 2)) (getC c1 1 fun a48 => asI .i64 a48 fun n49 => some (decide (((-9007199254740992) : Int) ≤ n49))) (some false) : Option Bool).bind fun b47 => (ifB b47 (getC c1 2 fun a51 => asI .i64 a51 fun n52 => some (decide ((n52 : Int) ≤ 9007199254740992))) (some false) : Option Bool).bind fun b50 => some (AV.bool b50)))))) :=
  (run142 _).trans (by kernel_rfl)

/-! treillage/treillageref09.names: function 143 -/
noncomputable def d143 : FD := ⟨(Tryz.f143.body).getD .skip, Tryz.f143.results.toList, 21⟩
theorem run143 (l : List AV) : ωκ S 143 l = runM τ ann143 (ωκ S) [2] lpκ d143.code (look (argEnv 0 l)) (retV τ d143.rs) :=
  ωκ_run S 143 l d143 rfl (by show (Tryz.prog.funcs[143]?).bind toFD = _; rw [Tryz.func143]; rfl)
noncomputable def ref09_names.l0 (a0 a3 a4 : AV) : Option AV := loopAt S 143 d143 [1, 1, 0, 1, 0] (look [(0, a0), (3, a3), (4, a4)])
theorem ref09_names.f_eq (l1 : List (List AV)) : ref09_names (AV.sl 2 l1) = (ref09_names.l0 (AV.sl 2 l1) (AV.own 1 []) (AV.int .i64 0)) :=
  (run143 _).trans (by kernel_rfl)
theorem ref09_names.l0_eq (l1 : List (List AV)) (l2 : List (List AV)) (n3 : Int) : ref09_names.l0 (AV.sl 2 l1) (AV.own 1 l2) (AV.int .i64 n3) = (ifB (decide ((n3 : Int) < (List.length l1 : Int))) (idx l1 n3 fun c4 => getC c4 0 fun a5 => asS a5 fun s6 => guardK (Nat.ble (List.length l2 + List.length ([[AV.str s6]])) lim) <| ref09_names.l0 (AV.sl 2 l1) (AV.own 1 (l2 ++ ([[AV.str s6]]))) (AV.int .i64 (w64 (n3 + 1)))) ((ref02_Rising (AV.sl 1 l2)).bind fun r7 => asB r7 fun b8 => some (AV.bool b8))) :=
  (loopAt_eq S 143 d143 [1, 1, 0, 1, 0] _).trans (by kernel_rfl)

/-! treillage/treillageref07.Below: function 144 -/
noncomputable def d144 : FD := ⟨(Tryz.f144.body).getD .skip, Tryz.f144.results.toList, 19⟩
theorem run144 (l : List AV) : ωκ S 144 l = runM τ (fun _ => none) (ωκ S) [4] lpκ d144.code (look (argEnv 0 l)) (retV τ d144.rs) :=
  ωκ_run S 144 l d144 rfl (by show (Tryz.prog.funcs[144]?).bind toFD = _; rw [Tryz.func144]; rfl)
theorem ref07_Below.f_eq (c1 : List AV) (c2 : List AV) : ref07_Below (AV.agg 8 c1) (AV.agg 8 c2) = ((ref07_Meet (AV.agg 8 c1) (AV.agg 8 c2)).bind fun r3 => asT2 r3 fun a4 a5 => asC 8 a4 fun c6 => asB a5 fun b7 => (ifB b7 ((ref07_Same (AV.agg 8 c6) (AV.agg 8 c1)).bind fun r9 => asB r9 fun b10 => some b10) (some false) : Option Bool).bind fun b8 => some (AV.bool b8)) :=
  (run144 _).trans (by kernel_rfl)

/-! treillage/treillageref09.Find: function 145 -/
noncomputable def d145 : FD := ⟨(Tryz.f145.body).getD .skip, Tryz.f145.results.toList, 20⟩
theorem run145 (l : List AV) : ωκ S 145 l = runM τ ann145 (ωκ S) [4] lpκ d145.code (look (argEnv 0 l)) (retV τ d145.rs) :=
  ωκ_run S 145 l d145 rfl (by show (Tryz.prog.funcs[145]?).bind toFD = _; rw [Tryz.func145]; rfl)
noncomputable def ref09_Find.l0 (a0 a1 a5 : AV) : Option AV := loopAt S 145 d145 [1, 0, 1, 0] (look [(0, a0), (1, a1), (5, a5)])
theorem ref09_Find.f_eq (l1 : List (List AV)) (s2 : List UInt8) : ref09_Find (AV.sl 2 l1) (AV.str s2) = (ref09_Find.l0 (AV.sl 2 l1) (AV.str s2) (AV.int .i64 0)) :=
  (run145 _).trans (by kernel_rfl)
theorem ref09_Find.l0_eq (l1 : List (List AV)) (s2 : List UInt8) (n3 : Int) : ref09_Find.l0 (AV.sl 2 l1) (AV.str s2) (AV.int .i64 n3) = (ifB (decide ((n3 : Int) < (List.length l1 : Int))) (idx l1 n3 fun c4 => getC c4 0 fun a5 => asS a5 fun s6 => ifB (decide ((s6 : List UInt8) = s2)) (some (AV.int .i64 n3)) (ref09_Find.l0 (AV.sl 2 l1) (AV.str s2) (AV.int .i64 (w64 (n3 + 1))))) (some (AV.int .i64 (-1)))) :=
  (loopAt_eq S 145 d145 [1, 0, 1, 0] _).trans (by kernel_rfl)

/-! treillage/treillageref09.Under: function 146 -/
noncomputable def d146 : FD := ⟨(Tryz.f146.body).getD .skip, Tryz.f146.results.toList, 39⟩
theorem run146 (l : List AV) : ωκ S 146 l = runM τ ann146 (ωκ S) [4] lpκ d146.code (look (argEnv 0 l)) (retV τ d146.rs) :=
  ωκ_run S 146 l d146 rfl (by show (Tryz.prog.funcs[146]?).bind toFD = _; rw [Tryz.func146]; rfl)
noncomputable def ref09_Under.l0 (a2 a3 a5 : AV) : Option AV := loopAt S 146 d146 [1, 0, 1, 0] (look [(2, a2), (3, a3), (5, a5)])
noncomputable def ref09_Under.l1 (a2 a3 a5 a6 a7 : AV) : Option AV := loopAt S 146 d146 [1, 0, 1, 0, 0, 1, 0, 0, 1, 0, 1, 0] (look [(2, a2), (3, a3), (5, a5), (6, a6), (7, a7)])
theorem ref09_Under.f_eq (c1 : List AV) (c2 : List AV) : ref09_Under (AV.agg 1 c1) (AV.agg 1 c2) = (ref09_Under.l0 (AV.boxv 1 c1 []) (AV.boxv 1 c2 []) (AV.int .i64 0)) :=
  (run146 _).trans (by kernel_rfl)
theorem ref09_Under.l0_eq (c1 : List AV) (c2 : List AV) (n3 : Int) : ref09_Under.l0 (AV.boxv 1 c1 []) (AV.boxv 1 c2 []) (AV.int .i64 n3) = (getC c1 0 fun a4 => asL 8 a4 fun l5 => ifB (decide ((n3 : Int) < (List.length l5 : Int))) (ref09_Under.l1 (AV.boxv 1 c1 []) (AV.boxv 1 c2 []) (AV.int .i64 n3) (AV.bool false) (AV.int .i64 0)) (some (AV.bool true))) :=
  (loopAt_eq S 146 d146 [1, 0, 1, 0] _).trans (by kernel_rfl)
theorem ref09_Under.l1_eq (c1 : List AV) (c2 : List AV) (n3 : Int) (n4 : Int) : ref09_Under.l1 (AV.boxv 1 c1 []) (AV.boxv 1 c2 []) (AV.int .i64 n3) (AV.bool false) (AV.int .i64 n4) = (getC c2 0 fun a5 => asL 8 a5 fun l6 => (ifB (decide ((n4 : Int) < (List.length l6 : Int))) (some true) (some false) : Option Bool).bind fun b7 => ifB b7 (getC c1 0 fun a8 => asL 8 a8 fun l9 => idx l9 n3 fun c10 => getC c2 0 fun a11 => asL 8 a11 fun l12 => idx l12 n4 fun c13 => (ref09_under (AV.agg 8 c10) (AV.agg 8 c13)).bind fun r14 => asB r14 fun b15 => ref09_Under.l1 (AV.boxv 1 c1 []) (AV.boxv 1 c2 []) (AV.int .i64 n3) (AV.bool b15) (AV.int .i64 (w64 (n4 + 1)))) (some (AV.bool false))) :=
  (loopAt_eq S 146 d146 [1, 0, 1, 0, 0, 1, 0, 0, 1, 0, 1, 0] _).trans (by kernel_rfl)
theorem ref09_Under.l1_eq2 (c1 : List AV) (c2 : List AV) (n3 : Int) (b4 : Bool) (n5 : Int) : ref09_Under.l1 (AV.boxv 1 c1 []) (AV.boxv 1 c2 []) (AV.int .i64 n3) (AV.bool b4) (AV.int .i64 n5) = (getC c2 0 fun a6 => asL 8 a6 fun l7 => (ifB (decide ((n5 : Int) < (List.length l7 : Int))) (some (!b4)) (some false) : Option Bool).bind fun b8 => ifB b8 (getC c1 0 fun a9 => asL 8 a9 fun l10 => idx l10 n3 fun c11 => getC c2 0 fun a12 => asL 8 a12 fun l13 => idx l13 n5 fun c14 => (ref09_under (AV.agg 8 c11) (AV.agg 8 c14)).bind fun r15 => asB r15 fun b16 => ref09_Under.l1 (AV.boxv 1 c1 []) (AV.boxv 1 c2 []) (AV.int .i64 n3) (AV.bool b16) (AV.int .i64 (w64 (n5 + 1)))) (ifB (!b4) (some (AV.bool false)) (ref09_Under.l0 (AV.boxv 1 c1 []) (AV.boxv 1 c2 []) (AV.int .i64 (w64 (n3 + 1)))))) :=
  (loopAt_eq S 146 d146 [1, 0, 1, 0, 0, 1, 0, 0, 1, 0, 1, 0] _).trans (by kernel_rfl)

/-! cmp.Compare[int]: function 147 -/
noncomputable def d147 : FD := ⟨(Tryz.f147.body).getD .skip, Tryz.f147.results.toList, 20⟩
theorem run147 (l : List AV) : ωκ S 147 l = runM τ (fun _ => none) (ωκ S) [4] lpκ d147.code (look (argEnv 0 l)) (retV τ d147.rs) :=
  ωκ_run S 147 l d147 rfl (by show (Tryz.prog.funcs[147]?).bind toFD = _; rw [Tryz.func147]; rfl)
theorem cmp_Compare__int.f_eq (n1 : Int) (n2 : Int) : cmp_Compare__int (AV.int .i64 n1) (AV.int .i64 n2) = ((cmp_isNaN__int (AV.int .i64 n1)).bind fun r3 => asB r3 fun b4 => (cmp_isNaN__int (AV.int .i64 n2)).bind fun r5 => asB r5 fun b6 => ifB b4 (ifB b6 (some (AV.int .i64 0)) (some (AV.int .i64 (-1)))) (ifB b6 (some (AV.int .i64 1)) (ifB (decide ((n1 : Int) < n2)) (some (AV.int .i64 (-1))) (ifB (decide ((n2 : Int) < n1)) (some (AV.int .i64 1)) (some (AV.int .i64 0)))))) :=
  (run147 _).trans (by kernel_rfl)
end Go.Proofs.YtffojfcinkihnaaGreatDoor.Abs
/- What the code comes to, function by function (printed by gen.py). -/
set_option linter.unusedVariables false
set_option linter.unusedSimpArgs false
set_option linter.unusedSectionVars false
set_option linter.deprecated false
set_option linter.unnecessarySimpa false
namespace Go.Proofs.YtffojfcinkihnaaGreatDoor.Abs
set_option linter.unusedVariables false
set_option maxRecDepth 100000

/-! treillage/rank.first: function 148 -/
noncomputable def d148 : FD := ⟨(Tryz.f148.body).getD .skip, Tryz.f148.results.toList, 15⟩
theorem run148 (l : List AV) : ωκ S 148 l = runM τ ann148 (ωκ S) [2] lpκ d148.code (look (argEnv 0 l)) (retV τ d148.rs) :=
  ωκ_run S 148 l d148 rfl (by show (Tryz.prog.funcs[148]?).bind toFD = _; rw [Tryz.func148]; rfl)
noncomputable def rank_first.l0 (a5 a6 a7 : AV) : Option AV := loopAt S 148 d148 [1, 0, 1, 0] (look [(5, a5), (6, a6), (7, a7)])
theorem rank_first.f_eq (l1 : List (List AV)) : rank_first (AV.sl 1 l1) = (rank_first.l0 (AV.sl 1 l1) (AV.int .i64 (List.length l1 : Int)) (AV.int .i64 0)) :=
  (run148 _).trans (by kernel_rfl)
theorem rank_first.l0_eq (l1 : List (List AV)) (n2 : Int) (n3 : Int) : rank_first.l0 (AV.sl 1 l1) (AV.int .i64 n2) (AV.int .i64 n3) = (ifB (decide ((n3 : Int) < n2)) (idx l1 n3 fun c4 => getC c4 0 fun a5 => asI .i64 a5 fun n6 => ifB (!decide ((n6 : Int) = 0)) (some (AV.int .i64 n6)) (rank_first.l0 (AV.sl 1 l1) (AV.int .i64 n2) (AV.int .i64 (w64 (n3 + 1))))) (some (AV.int .i64 0))) :=
  (loopAt_eq S 148 d148 [1, 0, 1, 0] _).trans (by kernel_rfl)

/-! strings.Compare: function 149 -/
noncomputable def d149 : FD := ⟨(Tryz.f149.body).getD .skip, Tryz.f149.results.toList, 8⟩
theorem run149 (l : List AV) : ωκ S 149 l = runM τ (fun _ => none) (ωκ S) [4] lpκ d149.code (look (argEnv 0 l)) (retV τ d149.rs) :=
  ωκ_run S 149 l d149 rfl (by show (Tryz.prog.funcs[149]?).bind toFD = _; rw [Tryz.func149]; rfl)
theorem strings_Compare.f_eq (s1 : List UInt8) (s2 : List UInt8) : strings_Compare (AV.str s1) (AV.str s2) = ((internal_bytealg_CompareString (AV.str s1) (AV.str s2)).bind fun r3 => asI .i64 r3 fun n4 => some (AV.int .i64 n4)) :=
  (run149 _).trans (by kernel_rfl)

/-! treillage/rank.flag: function 150 -/
noncomputable def d150 : FD := ⟨(Tryz.f150.body).getD .skip, Tryz.f150.results.toList, 4⟩
theorem run150 (l : List AV) : ωκ S 150 l = runM τ (fun _ => none) (ωκ S) [2] lpκ d150.code (look (argEnv 0 l)) (retV τ d150.rs) :=
  ωκ_run S 150 l d150 rfl (by show (Tryz.prog.funcs[150]?).bind toFD = _; rw [Tryz.func150]; rfl)
theorem rank_flag.f_eq (b1 : Bool) : rank_flag (AV.bool b1) = (ifB b1 (some (AV.int .i64 1)) (some (AV.int .i64 0))) :=
  (run150 _).trans (by kernel_rfl)

/-! treillage/rank.lists[treillage/api.Field]: function 151 -/
noncomputable def d151 : FD := ⟨(Tryz.f151.body).getD .skip, Tryz.f151.results.toList, 36⟩
theorem run151 (l : List AV) : ωκ S 151 l = runM τ ann151 (ωκ S) [6] lpκ d151.code (look (argEnv 0 l)) (retV τ d151.rs) :=
  ωκ_run S 151 l d151 rfl (by show (Tryz.prog.funcs[151]?).bind toFD = _; rw [Tryz.func151]; rfl)
noncomputable def rank_lists__Field.l0 (a0 a1 a2 a13 a14 : AV) : Option AV := loopAt S 151 d151 [1, 0, 1, 0] (look [(0, a0), (1, a1), (2, a2), (13, a13), (14, a14)])
theorem rank_lists__Field.f_eq (l1 : List (List AV)) (l2 : List (List AV)) (f3 : Nat) (c4 : List AV) : rank_lists__Field (AV.sl 2 l1) (AV.sl 2 l2) (AV.fn f3 c4) = (rank_lists__Field.l0 (AV.sl 2 l1) (AV.sl 2 l2) (AV.fn f3 c4) (AV.int .i64 (min ((List.length l1 : Int) : Int) (List.length l2 : Int))) (AV.int .i64 0)) :=
  (run151 _).trans (by kernel_rfl)
theorem rank_lists__Field.l0_eq (l1 : List (List AV)) (l2 : List (List AV)) (f3 : Nat) (c4 : List AV) (n5 : Int) (n6 : Int) : rank_lists__Field.l0 (AV.sl 2 l1) (AV.sl 2 l2) (AV.fn f3 c4) (AV.int .i64 n5) (AV.int .i64 n6) = (ifB (decide ((n6 : Int) < n5)) (idx l1 n6 fun c7 => idx l2 n6 fun c8 => (ωκ S f3 ([AV.agg 2 c7, AV.agg 2 c8] ++ c4)).bind fun r9 => asI .i64 r9 fun n10 => ifB (!decide ((n10 : Int) = 0)) (some (AV.int .i64 n10)) (rank_lists__Field.l0 (AV.sl 2 l1) (AV.sl 2 l2) (AV.fn f3 c4) (AV.int .i64 n5) (AV.int .i64 (w64 (n6 + 1))))) ((cmp_Compare__int (AV.int .i64 (List.length l1 : Int)) (AV.int .i64 (List.length l2 : Int))).bind fun r11 => asI .i64 r11 fun n12 => some (AV.int .i64 n12))) :=
  (loopAt_eq S 151 d151 [1, 0, 1, 0] _).trans (by kernel_rfl)

/-! treillage/rank.fields: function 152 -/
noncomputable def d152 : FD := ⟨(Tryz.f152.body).getD .skip, Tryz.f152.results.toList, 17⟩
theorem run152 (l : List AV) : ωκ S 152 l = runM τ (fun _ => none) (ωκ S) [4] lpκ d152.code (look (argEnv 0 l)) (retV τ d152.rs) :=
  ωκ_run S 152 l d152 rfl (by show (Tryz.prog.funcs[152]?).bind toFD = _; rw [Tryz.func152]; rfl)
theorem rank_fields.f_eq (c1 : List AV) (c2 : List AV) : rank_fields (AV.agg 2 c1) (AV.agg 2 c2) = (getC c1 0 fun a3 => asS a3 fun s4 => getC c2 0 fun a5 => asS a5 fun s6 => (strings_Compare (AV.str s4) (AV.str s6)).bind fun r7 => asI .i64 r7 fun n8 => getC c1 1 fun a9 => getC c2 1 fun a10 => (rank_Compare (AV.agg 1 [(frz a9)]) (AV.agg 1 [(frz a10)])).bind fun r11 => asI .i64 r11 fun n12 => (rank_first (AV.sl 1 ([[AV.int .i64 n8], [AV.int .i64 n12]]))).bind fun r13 => asI .i64 r13 fun n14 => some (AV.int .i64 n14)) :=
  (run152 _).trans (by kernel_rfl)

/-! treillage/lat.below: function 158 -/
noncomputable def d158 : FD := ⟨(Tryz.f158.body).getD .skip, Tryz.f158.results.toList, 66⟩
theorem run158 (l : List AV) : ωκ S 158 l = runM τ ann158 (ωκ S) [4] lpκ d158.code (look (argEnv 0 l)) (retV τ d158.rs) :=
  ωκ_run S 158 l d158 rfl (by show (Tryz.prog.funcs[158]?).bind toFD = _; rw [Tryz.func158]; rfl)
noncomputable def lat_below.l0 (a2 a40 a41 a42 : AV) : Option AV := loopAt S 158 d158 [1, 1, 0, 1, 0] (look [(2, a2), (40, a40), (41, a41), (42, a42)])
theorem lat_below.f_eq (c1 : List AV) (c2 : List AV) : lat_below (AV.agg 8 c1) (AV.agg 8 c2) = (getC c2 0 fun a3 => asI .i64 a3 fun n4 => ifB (decide ((n4 : Int) = 5)) (some (AV.bool true)) (getC c1 0 fun a5 => asI .i64 a5 fun n6 => getC c2 0 fun a7 => asI .i64 a7 fun n8 => (ifB (!decide ((n6 : Int) = n8)) (some true) (getC c1 0 fun a10 => asI .i64 a10 fun n11 => some (!decide ((n11 : Int) = 4))) : Option Bool).bind fun b9 => ifB b9 ((scalar_Below (AV.agg 8 c1) (AV.agg 8 c2)).bind fun r12 => asB r12 fun b13 => some (AV.bool b13)) (getC c1 6 fun a14 => asB a14 fun b15 => (ifB b15 (getC c2 6 fun a17 => asB a17 fun b18 => some (!b18)) (some false) : Option Bool).bind fun b16 => (ifB b16 (some true) ((lat_lacks (AV.agg 8 c2) (AV.agg 8 c1)).bind fun r20 => asB r20 fun b21 => some b21) : Option Bool).bind fun b19 => ifB b19 (some (AV.bool false)) (getC c2 7 fun a22 => asL 2 a22 fun l23 => lat_below.l0 (AV.boxv 8 c1 []) (AV.sl 2 l23) (AV.int .i64 (List.length l23 : Int)) (AV.int .i64 0))))) :=
  (run158 _).trans (by kernel_rfl)
theorem lat_below.l0_eq (c1 : List AV) (l2 : List (List AV)) (n3 : Int) (n4 : Int) : lat_below.l0 (AV.boxv 8 c1 []) (AV.sl 2 l2) (AV.int .i64 n3) (AV.int .i64 n4) = (ifB (decide ((n4 : Int) < n3)) (idx l2 n4 fun c5 => getC c1 7 fun a6 => asL 2 a6 fun l7 => getC c5 0 fun a8 => asS a8 fun s9 => (lat_find (AV.sl 2 l7) (AV.str s9)).bind fun r10 => asI .i64 r10 fun n11 => (ifB (decide ((n11 : Int) < 0)) (some true) (getC c1 7 fun a13 => asL 2 a13 fun l14 => idx l14 n11 fun c15 => getC c15 1 fun a16 => getC c5 1 fun a17 => (lat_under (AV.agg 1 [a16]) (AV.agg 1 [(frz a17)])).bind fun r18 => asB r18 fun b19 => some (!b19)) : Option Bool).bind fun b12 => ifB b12 (some (AV.bool false)) (lat_below.l0 (AV.boxv 8 c1 []) (AV.sl 2 l2) (AV.int .i64 n3) (AV.int .i64 (w64 (n4 + 1))))) (some (AV.bool true))) :=
  (loopAt_eq S 158 d158 [1, 1, 0, 1, 0] _).trans (by kernel_rfl)

/-! treillage/treillageref08.bools: function 159 -/
noncomputable def d159 : FD := ⟨(Tryz.f159.body).getD .skip, Tryz.f159.results.toList, 9⟩
theorem run159 (l : List AV) : ωκ S 159 l = runM τ (fun _ => none) (ωκ S) [4] lpκ d159.code (look (argEnv 0 l)) (retV τ d159.rs) :=
  ωκ_run S 159 l d159 rfl (by show (Tryz.prog.funcs[159]?).bind toFD = _; rw [Tryz.func159]; rfl)
theorem ref08_bools.f_eq (b1 : Bool) (b2 : Bool) : ref08_bools (AV.bool b1) (AV.bool b2) = (ifB (b1 == b2) (some (AV.int .i64 0)) (ifB b2 (some (AV.int .i64 (-1))) (some (AV.int .i64 1)))) :=
  (run159 _).trans (by kernel_rfl)

/-! treillage/lat.anything: function 160 -/
noncomputable def d160 : FD := ⟨(Tryz.f160.body).getD .skip, Tryz.f160.results.toList, 7⟩
theorem run160 (l : List AV) : ωκ S 160 l = runM τ (fun _ => none) (ωκ S) [2] lpκ d160.code (look (argEnv 0 l)) (retV τ d160.rs) :=
  ωκ_run S 160 l d160 rfl (by show (Tryz.prog.funcs[160]?).bind toFD = _; rw [Tryz.func160]; rfl)
theorem lat_anything.f_eq (c1 : List AV) : lat_anything (AV.agg 8 c1) = ((rank_Terms (AV.agg 8 c1) (AV.agg 8 [AV.int .i64 5, AV.int .i64 0, AV.int .i64 0, AV.str [], AV.bool false, AV.bool false, AV.bool false, AV.sl 2 []])).bind fun r2 => asI .i64 r2 fun n3 => some (AV.bool (decide ((n3 : Int) = 0)))) :=
  (run160 _).trans (by kernel_rfl)
end Go.Proofs.YtffojfcinkihnaaGreatDoor.Abs
/- What the code comes to, function by function (printed by gen.py). -/
set_option linter.unusedVariables false
set_option linter.unusedSimpArgs false
set_option linter.unusedSectionVars false
set_option linter.deprecated false
set_option linter.unnecessarySimpa false
namespace Go.Proofs.YtffojfcinkihnaaGreatDoor.Abs
set_option linter.unusedVariables false
set_option maxRecDepth 100000

/-! treillage/lat.bare: function 161 -/
noncomputable def d161 : FD := ⟨(Tryz.f161.body).getD .skip, Tryz.f161.results.toList, 26⟩
theorem run161 (l : List AV) : ωκ S 161 l = runM τ (fun _ => none) (ωκ S) [2] lpκ d161.code (look (argEnv 0 l)) (retV τ d161.rs) :=
  ωκ_run S 161 l d161 rfl (by show (Tryz.prog.funcs[161]?).bind toFD = _; rw [Tryz.func161]; rfl)
theorem lat_bare.f_eq (c1 : List AV) : lat_bare (AV.agg 8 c1) = (getC c1 1 fun a2 => asI .i64 a2 fun n3 => (ifB (decide ((n3 : Int) = 0)) (getC c1 2 fun a5 => asI .i64 a5 fun n6 => some (decide ((n6 : Int) = 0))) (some false) : Option Bool).bind fun b4 => (ifB b4 (getC c1 3 fun a8 => asS a8 fun s9 => some (decide ((s9 : List UInt8) = []))) (some false) : Option Bool).bind fun b7 => (ifB b7 (getC c1 4 fun a11 => asB a11 fun b12 => some (!b12)) (some false) : Option Bool).bind fun b10 => (ifB b10 (getC c1 5 fun a14 => asB a14 fun b15 => some (!b15)) (some false) : Option Bool).bind fun b13 => some (AV.bool b13)) :=
  (run161 _).trans (by kernel_rfl)

/-! treillage/lat.rising: function 162 -/
noncomputable def d162 : FD := ⟨(Tryz.f162.body).getD .skip, Tryz.f162.results.toList, 32⟩
theorem run162 (l : List AV) : ωκ S 162 l = runM τ ann162 (ωκ S) [2] lpκ d162.code (look (argEnv 0 l)) (retV τ d162.rs) :=
  ωκ_run S 162 l d162 rfl (by show (Tryz.prog.funcs[162]?).bind toFD = _; rw [Tryz.func162]; rfl)
noncomputable def lat_rising.l0 (a0 a5 a6 a7 : AV) : Option AV := loopAt S 162 d162 [1, 0, 1, 0] (look [(0, a0), (5, a5), (6, a6), (7, a7)])
theorem lat_rising.f_eq (l1 : List (List AV)) : lat_rising (AV.sl 2 l1) = (lat_rising.l0 (AV.sl 2 l1) (AV.sl 2 l1) (AV.int .i64 (List.length l1 : Int)) (AV.int .i64 0)) :=
  (run162 _).trans (by kernel_rfl)
theorem lat_rising.l0_eq (l1 : List (List AV)) (l2 : List (List AV)) (n3 : Int) (n4 : Int) : lat_rising.l0 (AV.sl 2 l1) (AV.sl 2 l2) (AV.int .i64 n3) (AV.int .i64 n4) = (ifB (decide ((n4 : Int) < n3)) (idx l2 n4 fun c5 => getC c5 0 fun a6 => asS a6 fun s7 => (name_Right (AV.str s7)).bind fun r8 => asB r8 fun b9 => (ifB (!b9) (some true) ((ifB (decide ((0 : Int) < n4)) (getC c5 0 fun a12 => asS a12 fun s13 => idx l1 (w64 (n4 - 1)) fun c14 => getC c14 0 fun a15 => asS a15 fun s16 => some (bytesLt s13 s16 || decide ((s13 : List UInt8) = s16))) (some false) : Option Bool).bind fun b11 => some b11) : Option Bool).bind fun b10 => ifB b10 (some (AV.bool false)) (lat_rising.l0 (AV.sl 2 l1) (AV.sl 2 l2) (AV.int .i64 n3) (AV.int .i64 (w64 (n4 + 1))))) (some (AV.bool true))) :=
  (loopAt_eq S 162 d162 [1, 0, 1, 0] _).trans (by kernel_rfl)

/-! slices.IndexFunc[[]treillage/api.Field,treillage/api.Field]: function 166 -/
noncomputable def d166 : FD := ⟨(Tryz.f166.body).getD .skip, Tryz.f166.results.toList, 19⟩
theorem run166 (l : List AV) : ωκ S 166 l = runM τ ann166 (ωκ S) [4] lpκ d166.code (look (argEnv 0 l)) (retV τ d166.rs) :=
  ωκ_run S 166 l d166 rfl (by show (Tryz.prog.funcs[166]?).bind toFD = _; rw [Tryz.func166]; rfl)
noncomputable def slices_IndexFunc__Field.l0 (a0 a1 a7 a8 : AV) : Option AV := loopAt S 166 d166 [1, 0, 1, 0] (look [(0, a0), (1, a1), (7, a7), (8, a8)])
theorem slices_IndexFunc__Field.f_eq (l1 : List (List AV)) (f2 : Nat) (c3 : List AV) : slices_IndexFunc__Field (AV.sl 2 l1) (AV.fn f2 c3) = (slices_IndexFunc__Field.l0 (AV.sl 2 l1) (AV.fn f2 c3) (AV.int .i64 (List.length l1 : Int)) (AV.int .i64 0)) :=
  (run166 _).trans (by kernel_rfl)
theorem slices_IndexFunc__Field.l0_eq (l1 : List (List AV)) (f2 : Nat) (c3 : List AV) (n4 : Int) (n5 : Int) : slices_IndexFunc__Field.l0 (AV.sl 2 l1) (AV.fn f2 c3) (AV.int .i64 n4) (AV.int .i64 n5) = (ifB (decide ((n5 : Int) < n4)) (idx l1 n5 fun c6 => (ωκ S f2 ([AV.agg 2 c6] ++ c3)).bind fun r7 => asB r7 fun b8 => ifB b8 (some (AV.int .i64 n5)) (slices_IndexFunc__Field.l0 (AV.sl 2 l1) (AV.fn f2 c3) (AV.int .i64 n4) (AV.int .i64 (w64 (n5 + 1))))) (some (AV.int .i64 (-1)))) :=
  (loopAt_eq S 166 d166 [1, 0, 1, 0] _).trans (by kernel_rfl)

/-! treillage/scalar.bare: function 167 -/
noncomputable def d167 : FD := ⟨(Tryz.f167.body).getD .skip, Tryz.f167.results.toList, 12⟩
theorem run167 (l : List AV) : ωκ S 167 l = runM τ (fun _ => none) (ωκ S) [2] lpκ d167.code (look (argEnv 0 l)) (retV τ d167.rs) :=
  ωκ_run S 167 l d167 rfl (by show (Tryz.prog.funcs[167]?).bind toFD = _; rw [Tryz.func167]; rfl)
theorem scalar_bare.f_eq (c1 : List AV) : scalar_bare (AV.agg 8 c1) = (getC c1 6 fun a2 => asB a2 fun b3 => (ifB (!b3) (getC c1 7 fun a5 => asL 2 a5 fun l6 => some (decide (((List.length l6 : Int) : Int) = 0))) (some false) : Option Bool).bind fun b4 => some (AV.bool b4)) :=
  (run167 _).trans (by kernel_rfl)

/-! treillage/treillageref07.Meet: function 174 -/
noncomputable def d174 : FD := ⟨(Tryz.f174.body).getD .skip, Tryz.f174.results.toList, 87⟩
theorem run174 (l : List AV) : ωκ S 174 l = runM τ ann174 (ωκ S) [5] lpκ d174.code (look (argEnv 0 l)) (retV τ d174.rs) :=
  ωκ_run S 174 l d174 rfl (by show (Tryz.prog.funcs[174]?).bind toFD = _; rw [Tryz.func174]; rfl)
noncomputable def ref07_Meet.j0 (a2 a3 a4 a6 : AV) : Option AV := joinAt S 174 d174 [1, 1, 1, 1] (look [(2, a2), (3, a3), (4, a4), (6, a6)])
noncomputable def ref07_Meet.j1 (a2 a3 a4 a6 : AV) : Option AV := joinAt S 174 d174 [1, 1, 1, 1, 1] (look [(2, a2), (3, a3), (4, a4), (6, a6)])
noncomputable def ref07_Meet.j2 (a2 a3 a4 a6 : AV) : Option AV := joinAt S 174 d174 [1, 1, 1, 1, 1, 1] (look [(2, a2), (3, a3), (4, a4), (6, a6)])
theorem ref07_Meet.f_eq (c1 : List AV) (c2 : List AV) : ref07_Meet (AV.agg 8 c1) (AV.agg 8 c2) = ((ref07_Right (AV.agg 8 c1)).bind fun r3 => asB r3 fun b4 => (ifB (!b4) (some true) ((ref07_Right (AV.agg 8 c2)).bind fun r6 => asB r6 fun b7 => some (!b7)) : Option Bool).bind fun b5 => (ifB b5 (some true) (getC c1 0 fun a9 => asI .i64 a9 fun n10 => getC c2 0 fun a11 => asI .i64 a11 fun n12 => some (!decide ((n10 : Int) = n12))) : Option Bool).bind fun b8 => ifB b8 (some (.tup [AV.agg 8 [AV.int .i64 0, AV.int .i64 0, AV.int .i64 0, AV.str [], AV.bool false, AV.bool false, AV.bool false, AV.sl 2 []], AV.bool false])) (getC c1 0 fun a13 => asI .i64 a13 fun n14 => ifB (decide ((n14 : Int) = 3)) (getC c1 4 fun a15 => asB a15 fun b16 => (ifB (!b16) (getC c2 4 fun a18 => asB a18 fun b19 => some (!b19)) (some false) : Option Bool).bind fun b17 => (ifB b17 (getC c1 3 fun a21 => asS a21 fun s22 => getC c2 3 fun a23 => asS a23 fun s24 => some (!decide ((s22 : List UInt8) = s24))) (some false) : Option Bool).bind fun b20 => ifB b20 (some (.tup [AV.agg 8 [AV.int .i64 0, AV.int .i64 0, AV.int .i64 0, AV.str [], AV.bool false, AV.bool false, AV.bool false, AV.sl 2 []], AV.bool false])) (getC c1 4 fun a25 => asB a25 fun b26 => ifB b26 (getC c2 4 fun a27 => asB a27 fun b28 => getC c2 3 fun a29 => asS a29 fun s30 => ref07_Meet.j0 (AV.boxv 8 c1 []) (AV.boxv 8 c2 []) (AV.boxv 8 [AV.int .i64 0, AV.int .i64 0, AV.int .i64 0, AV.str [], AV.bool false, AV.bool false, AV.bool false, AV.sl 2 []] [(7, AV.own 2 [])]) (AV.boxv 8 (List.set (List.set (List.set c1 5 (AV.bool false)) 4 (AV.bool b28)) 3 (AV.str s30)) [])) (ref07_Meet.j0 (AV.boxv 8 c1 []) (AV.boxv 8 c2 []) (AV.boxv 8 [AV.int .i64 0, AV.int .i64 0, AV.int .i64 0, AV.str [], AV.bool false, AV.bool false, AV.bool false, AV.sl 2 []] [(7, AV.own 2 [])]) (AV.boxv 8 (List.set c1 5 (AV.bool false)) [])))) (ref07_Meet.j0 (AV.boxv 8 c1 []) (AV.boxv 8 c2 []) (AV.boxv 8 [AV.int .i64 0, AV.int .i64 0, AV.int .i64 0, AV.str [], AV.bool false, AV.bool false, AV.bool false, AV.sl 2 []] [(7, AV.own 2 [])]) (AV.boxv 8 (List.set c1 5 (AV.bool false)) [])))) :=
  (run174 _).trans (by kernel_rfl)
theorem ref07_Meet.j0_eq (c1 : List AV) (c2 : List AV) (n3 : Int) (n4 : Int) (n5 : Int) (s6 : List UInt8) (l7 : List (List AV)) (l8 : List (List AV)) (c9 : List AV) : ref07_Meet.j0 (AV.boxv 8 c1 []) (AV.boxv 8 c2 []) (AV.boxv 8 [AV.int .i64 n3, AV.int .i64 n4, AV.int .i64 n5, AV.str s6, AV.bool false, AV.bool false, AV.bool false, AV.sl 2 l7] [(7, AV.own 2 l8)]) (AV.boxv 8 c9 []) = (getC c2 1 fun a10 => asI .i64 a10 fun n11 => getC c1 1 fun a12 => asI .i64 a12 fun n13 => ifB (decide ((n13 : Int) < n11)) (getC c2 1 fun a14 => asI .i64 a14 fun n15 => ref07_Meet.j1 (AV.boxv 8 c1 []) (AV.boxv 8 c2 []) (AV.boxv 8 [AV.int .i64 n3, AV.int .i64 n4, AV.int .i64 n5, AV.str s6, AV.bool false, AV.bool false, AV.bool false, AV.sl 2 l7] [(7, AV.own 2 l8)]) (AV.boxv 8 (List.set c9 1 (AV.int .i64 n15)) [])) (ref07_Meet.j1 (AV.boxv 8 c1 []) (AV.boxv 8 c2 []) (AV.boxv 8 [AV.int .i64 n3, AV.int .i64 n4, AV.int .i64 n5, AV.str s6, AV.bool false, AV.bool false, AV.bool false, AV.sl 2 l7] [(7, AV.own 2 l8)]) (AV.boxv 8 c9 []))) :=
  (joinAt_eq S 174 d174 [1, 1, 1, 1] _).trans (by kernel_rfl)
theorem ref07_Meet.j1_eq (c1 : List AV) (c2 : List AV) (n3 : Int) (n4 : Int) (n5 : Int) (s6 : List UInt8) (l7 : List (List AV)) (l8 : List (List AV)) (c9 : List AV) : ref07_Meet.j1 (AV.boxv 8 c1 []) (AV.boxv 8 c2 []) (AV.boxv 8 [AV.int .i64 n3, AV.int .i64 n4, AV.int .i64 n5, AV.str s6, AV.bool false, AV.bool false, AV.bool false, AV.sl 2 l7] [(7, AV.own 2 l8)]) (AV.boxv 8 c9 []) = (getC c2 2 fun a10 => asI .i64 a10 fun n11 => getC c1 2 fun a12 => asI .i64 a12 fun n13 => ifB (decide ((n11 : Int) < n13)) (getC c2 2 fun a14 => asI .i64 a14 fun n15 => ref07_Meet.j2 (AV.boxv 8 c1 []) (AV.boxv 8 c2 []) (AV.boxv 8 [AV.int .i64 n3, AV.int .i64 n4, AV.int .i64 n5, AV.str s6, AV.bool false, AV.bool false, AV.bool false, AV.sl 2 l7] [(7, AV.own 2 l8)]) (AV.boxv 8 (List.set c9 2 (AV.int .i64 n15)) [])) (ref07_Meet.j2 (AV.boxv 8 c1 []) (AV.boxv 8 c2 []) (AV.boxv 8 [AV.int .i64 n3, AV.int .i64 n4, AV.int .i64 n5, AV.str s6, AV.bool false, AV.bool false, AV.bool false, AV.sl 2 l7] [(7, AV.own 2 l8)]) (AV.boxv 8 c9 []))) :=
  (joinAt_eq S 174 d174 [1, 1, 1, 1, 1] _).trans (by kernel_rfl)
theorem ref07_Meet.j2_eq (c1 : List AV) (c2 : List AV) (n3 : Int) (n4 : Int) (n5 : Int) (s6 : List UInt8) (l7 : List (List AV)) (l8 : List (List AV)) (c9 : List AV) : ref07_Meet.j2 (AV.boxv 8 c1 []) (AV.boxv 8 c2 []) (AV.boxv 8 [AV.int .i64 n3, AV.int .i64 n4, AV.int .i64 n5, AV.str s6, AV.bool false, AV.bool false, AV.bool false, AV.sl 2 l7] [(7, AV.own 2 l8)]) (AV.boxv 8 c9 []) = (getC c9 1 fun a10 => asI .i64 a10 fun n11 => getC c9 2 fun a12 => asI .i64 a12 fun n13 => ifB (decide ((n13 : Int) < n11)) (some (.tup [AV.agg 8 [AV.int .i64 0, AV.int .i64 0, AV.int .i64 0, AV.str [], AV.bool false, AV.bool false, AV.bool false, AV.sl 2 []], AV.bool false])) ((ref07_Single (AV.agg 8 c9)).bind fun r14 => asB r14 fun b15 => (ifB (!b15) (getC c1 5 fun a17 => asB a17 fun b18 => (ifB b18 (some true) (getC c2 5 fun a20 => asB a20 fun b21 => some b21) : Option Bool).bind fun b19 => some b19) (some false) : Option Bool).bind fun b16 => ifB b16 (some (.tup [AV.agg 8 (List.set c9 5 (AV.bool true)), AV.bool true])) (some (.tup [AV.agg 8 c9, AV.bool true])))) :=
  (joinAt_eq S 174 d174 [1, 1, 1, 1, 1, 1] _).trans (by kernel_rfl)

/-! treillage/treillageref07.Same: function 175 -/
noncomputable def d175 : FD := ⟨(Tryz.f175.body).getD .skip, Tryz.f175.results.toList, 53⟩
theorem run175 (l : List AV) : ωκ S 175 l = runM τ (fun _ => none) (ωκ S) [4] lpκ d175.code (look (argEnv 0 l)) (retV τ d175.rs) :=
  ωκ_run S 175 l d175 rfl (by show (Tryz.prog.funcs[175]?).bind toFD = _; rw [Tryz.func175]; rfl)
theorem ref07_Same.f_eq (c1 : List AV) (c2 : List AV) : ref07_Same (AV.agg 8 c1) (AV.agg 8 c2) = ((ref07_Right (AV.agg 8 c1)).bind fun r3 => asB r3 fun b4 => (ifB (!b4) (some true) ((ref07_Right (AV.agg 8 c2)).bind fun r6 => asB r6 fun b7 => some (!b7)) : Option Bool).bind fun b5 => ifB b5 (some (AV.bool false)) (getC c1 0 fun a8 => asI .i64 a8 fun n9 => getC c2 0 fun a10 => asI .i64 a10 fun n11 => (ifB (decide ((n9 : Int) = n11)) (getC c1 1 fun a13 => asI .i64 a13 fun n14 => getC c2 1 fun a15 => asI .i64 a15 fun n16 => some (decide ((n14 : Int) = n16))) (some false) : Option Bool).bind fun b12 => (ifB b12 (getC c1 2 fun a18 => asI .i64 a18 fun n19 => getC c2 2 fun a20 => asI .i64 a20 fun n21 => some (decide ((n19 : Int) = n21))) (some false) : Option Bool).bind fun b17 => (ifB b17 (getC c1 3 fun a23 => asS a23 fun s24 => getC c2 3 fun a25 => asS a25 fun s26 => some (decide ((s24 : List UInt8) = s26))) (some false) : Option Bool).bind fun b22 => (ifB b22 (getC c1 4 fun a28 => asB a28 fun b29 => getC c2 4 fun a30 => asB a30 fun b31 => some (b29 == b31)) (some false) : Option Bool).bind fun b27 => (ifB b27 (getC c1 5 fun a33 => asB a33 fun b34 => getC c2 5 fun a35 => asB a35 fun b36 => some (b34 == b36)) (some false) : Option Bool).bind fun b32 => some (AV.bool b32))) :=
  (run175 _).trans (by kernel_rfl)
end Go.Proofs.YtffojfcinkihnaaGreatDoor.Abs
/- What the code comes to, function by function (printed by gen.py). -/
set_option linter.unusedVariables false
set_option linter.unusedSimpArgs false
set_option linter.unusedSectionVars false
set_option linter.deprecated false
set_option linter.unnecessarySimpa false
namespace Go.Proofs.YtffojfcinkihnaaGreatDoor.Abs
set_option linter.unusedVariables false
set_option maxRecDepth 100000

/-! cmp.isNaN[int]: function 176 -/
noncomputable def d176 : FD := ⟨(Tryz.f176.body).getD .skip, Tryz.f176.results.toList, 6⟩
theorem run176 (l : List AV) : ωκ S 176 l = runM τ (fun _ => none) (ωκ S) [2] lpκ d176.code (look (argEnv 0 l)) (retV τ d176.rs) :=
  ωκ_run S 176 l d176 rfl (by show (Tryz.prog.funcs[176]?).bind toFD = _; rw [Tryz.func176]; rfl)
theorem cmp_isNaN__int.f_eq (n1 : Int) : cmp_isNaN__int (AV.int .i64 n1) = (some (AV.bool (!decide ((n1 : Int) = n1)))) :=
  (run176 _).trans (by kernel_rfl)

/-! internal/bytealg.CompareString: function 177 -/
noncomputable def d177 : FD := ⟨(Tryz.f177.body).getD .skip, Tryz.f177.results.toList, 8⟩
theorem run177 (l : List AV) : ωκ S 177 l = runM τ (fun _ => none) (ωκ S) [4] lpκ d177.code (look (argEnv 0 l)) (retV τ d177.rs) :=
  ωκ_run S 177 l d177 rfl (by show (Tryz.prog.funcs[177]?).bind toFD = _; rw [Tryz.func177]; rfl)
theorem internal_bytealg_CompareString.f_eq (s1 : List UInt8) (s2 : List UInt8) : internal_bytealg_CompareString (AV.str s1) (AV.str s2) = ((internal_bytealg_abigen_runtime_cmpstring (AV.str s1) (AV.str s2)).bind fun r3 => asI .i64 r3 fun n4 => some (AV.int .i64 n4)) :=
  (run177 _).trans (by kernel_rfl)

/-! treillage/scalar.Below: function 178 -/
noncomputable def d178 : FD := ⟨(Tryz.f178.body).getD .skip, Tryz.f178.results.toList, 19⟩
theorem run178 (l : List AV) : ωκ S 178 l = runM τ (fun _ => none) (ωκ S) [4] lpκ d178.code (look (argEnv 0 l)) (retV τ d178.rs) :=
  ωκ_run S 178 l d178 rfl (by show (Tryz.prog.funcs[178]?).bind toFD = _; rw [Tryz.func178]; rfl)
theorem scalar_Below.f_eq (c1 : List AV) (c2 : List AV) : scalar_Below (AV.agg 8 c1) (AV.agg 8 c2) = ((scalar_Meet (AV.agg 8 c1) (AV.agg 8 c2)).bind fun r3 => asT2 r3 fun a4 a5 => asC 8 a4 fun c6 => asB a5 fun b7 => (ifB b7 ((scalar_Same (AV.agg 8 c6) (AV.agg 8 c1)).bind fun r9 => asB r9 fun b10 => some b10) (some false) : Option Bool).bind fun b8 => some (AV.bool b8)) :=
  (run178 _).trans (by kernel_rfl)

/-! treillage/lat.lacks: function 179 -/
noncomputable def d179 : FD := ⟨(Tryz.f179.body).getD .skip, Tryz.f179.results.toList, 14⟩
theorem run179 (l : List AV) : ωκ S 179 l = runM τ (fun _ => none) (ωκ S) [4] lpκ d179.code (look (argEnv 0 l)) (retV τ d179.rs) :=
  ωκ_run S 179 l d179 rfl (by show (Tryz.prog.funcs[179]?).bind toFD = _; rw [Tryz.func179]; rfl)
theorem lat_lacks.f_eq (c1 : List AV) (c2 : List AV) : lat_lacks (AV.agg 8 c1) (AV.agg 8 c2) = (getC c1 6 fun a3 => asB a3 fun b4 => (ifB (!b4) (getC c2 7 fun a6 => asL 2 a6 fun l7 => (slices_ContainsFunc__Field (AV.sl 2 l7) (AV.fn 197 [AV.eptr 8 c1 0])).bind fun r8 => asB r8 fun b9 => some b9) (some false) : Option Bool).bind fun b5 => some (AV.bool b5)) :=
  (run179 _).trans (by kernel_rfl)

/-! treillage/lat.find: function 180 -/
noncomputable def d180 : FD := ⟨(Tryz.f180.body).getD .skip, Tryz.f180.results.toList, 16⟩
theorem run180 (l : List AV) : ωκ S 180 l = runM τ (fun _ => none) (ωκ S) [4] lpκ d180.code (look (argEnv 0 l)) (retV τ d180.rs) :=
  ωκ_run S 180 l d180 rfl (by show (Tryz.prog.funcs[180]?).bind toFD = _; rw [Tryz.func180]; rfl)
theorem lat_find.f_eq (l1 : List (List AV)) (s2 : List UInt8) : lat_find (AV.sl 2 l1) (AV.str s2) = ((slices_BinarySearchFunc__Field (AV.sl 2 l1) (AV.str s2) (AV.fn 199 [])).bind fun r3 => asT2 r3 fun a4 a5 => asI .i64 a4 fun n6 => asB a5 fun b7 => ifB (!b7) (some (AV.int .i64 (-1))) (some (AV.int .i64 n6))) :=
  (run180 _).trans (by kernel_rfl)

/-! treillage/lat.under: function 181 -/
noncomputable def d181 : FD := ⟨(Tryz.f181.body).getD .skip, Tryz.f181.results.toList, 20⟩
theorem run181 (l : List AV) : ωκ S 181 l = runM τ ann181 (ωκ S) [4] lpκ d181.code (look (argEnv 0 l)) (retV τ d181.rs) :=
  ωκ_run S 181 l d181 rfl (by show (Tryz.prog.funcs[181]?).bind toFD = _; rw [Tryz.func181]; rfl)
noncomputable def lat_under.l0 (a3 a8 a9 a10 : AV) : Option AV := loopAt S 181 d181 [1, 0, 1, 0] (look [(3, a3), (8, a8), (9, a9), (10, a10)])
theorem lat_under.f_eq (c1 : List AV) (c2 : List AV) : lat_under (AV.agg 1 c1) (AV.agg 1 c2) = (getC c1 0 fun a3 => asL 8 a3 fun l4 => lat_under.l0 (AV.boxv 1 c2 []) (AV.sl 8 l4) (AV.int .i64 (List.length l4 : Int)) (AV.int .i64 0)) :=
  (run181 _).trans (by kernel_rfl)
theorem lat_under.l0_eq (c1 : List AV) (l2 : List (List AV)) (n3 : Int) (n4 : Int) : lat_under.l0 (AV.boxv 1 c1 []) (AV.sl 8 l2) (AV.int .i64 n3) (AV.int .i64 n4) = (ifB (decide ((n4 : Int) < n3)) (idx l2 n4 fun c5 => getC c1 0 fun a6 => asL 8 a6 fun l7 => (slices_ContainsFunc__Term (AV.sl 8 l7) (AV.fn 201 [AV.eptr 8 c5 0])).bind fun r8 => asB r8 fun b9 => ifB (!b9) (some (AV.bool false)) (lat_under.l0 (AV.boxv 1 c1 []) (AV.sl 8 l2) (AV.int .i64 n3) (AV.int .i64 (w64 (n4 + 1))))) (some (AV.bool true))) :=
  (loopAt_eq S 181 d181 [1, 0, 1, 0] _).trans (by kernel_rfl)

/-! treillage/scalar.Meet: function 195 -/
noncomputable def d195 : FD := ⟨(Tryz.f195.body).getD .skip, Tryz.f195.results.toList, 82⟩
theorem run195 (l : List AV) : ωκ S 195 l = runM τ ann195 (ωκ S) [5] lpκ d195.code (look (argEnv 0 l)) (retV τ d195.rs) :=
  ωκ_run S 195 l d195 rfl (by show (Tryz.prog.funcs[195]?).bind toFD = _; rw [Tryz.func195]; rfl)
noncomputable def scalar_Meet.j0 (a2 a3 a4 a6 : AV) : Option AV := joinAt S 195 d195 [1, 1, 1] (look [(2, a2), (3, a3), (4, a4), (6, a6)])
theorem scalar_Meet.f_eq (c1 : List AV) (c2 : List AV) : scalar_Meet (AV.agg 8 c1) (AV.agg 8 c2) = ((scalar_Right (AV.agg 8 c1)).bind fun r3 => asB r3 fun b4 => (ifB (!b4) (some true) ((scalar_Right (AV.agg 8 c2)).bind fun r6 => asB r6 fun b7 => some (!b7)) : Option Bool).bind fun b5 => (ifB b5 (some true) (getC c1 0 fun a9 => asI .i64 a9 fun n10 => getC c2 0 fun a11 => asI .i64 a11 fun n12 => some (!decide ((n10 : Int) = n12))) : Option Bool).bind fun b8 => ifB b8 (some (.tup [AV.agg 8 [AV.int .i64 0, AV.int .i64 0, AV.int .i64 0, AV.str [], AV.bool false, AV.bool false, AV.bool false, AV.sl 2 []], AV.bool false])) (getC c1 0 fun a13 => asI .i64 a13 fun n14 => getC c1 1 fun a15 => asI .i64 a15 fun n16 => getC c2 1 fun a17 => asI .i64 a17 fun n18 => getC c1 2 fun a19 => asI .i64 a19 fun n20 => getC c2 2 fun a21 => asI .i64 a21 fun n22 => getC c1 4 fun a23 => asB a23 fun b24 => (ifB b24 (getC c2 4 fun a26 => asB a26 fun b27 => some b27) (some false) : Option Bool).bind fun b25 => ifB (decide ((min (n20 : Int) n22 : Int) < (max (n16 : Int) n18))) (some (.tup [AV.agg 8 [AV.int .i64 0, AV.int .i64 0, AV.int .i64 0, AV.str [], AV.bool false, AV.bool false, AV.bool false, AV.sl 2 []], AV.bool false])) (getC c1 4 fun a28 => asB a28 fun b29 => ifB b29 (getC c2 3 fun a30 => asS a30 fun s31 => scalar_Meet.j0 (AV.boxv 8 c1 []) (AV.boxv 8 c2 []) (AV.boxv 8 [AV.int .i64 0, AV.int .i64 0, AV.int .i64 0, AV.str [], AV.bool false, AV.bool false, AV.bool false, AV.sl 2 []] [(7, AV.own 2 [])]) (AV.boxv 8 [AV.int .i64 n14, AV.int .i64 (max (n16 : Int) n18), AV.int .i64 (min (n20 : Int) n22), AV.str s31, AV.bool b25, AV.bool false, AV.bool false, AV.sl 2 []] [])) (getC c2 4 fun a32 => asB a32 fun b33 => (ifB b33 (some true) (getC c1 3 fun a35 => asS a35 fun s36 => getC c2 3 fun a37 => asS a37 fun s38 => some (decide ((s36 : List UInt8) = s38))) : Option Bool).bind fun b34 => ifB b34 (getC c1 3 fun a39 => asS a39 fun s40 => scalar_Meet.j0 (AV.boxv 8 c1 []) (AV.boxv 8 c2 []) (AV.boxv 8 [AV.int .i64 0, AV.int .i64 0, AV.int .i64 0, AV.str [], AV.bool false, AV.bool false, AV.bool false, AV.sl 2 []] [(7, AV.own 2 [])]) (AV.boxv 8 [AV.int .i64 n14, AV.int .i64 (max (n16 : Int) n18), AV.int .i64 (min (n20 : Int) n22), AV.str s40, AV.bool b25, AV.bool false, AV.bool false, AV.sl 2 []] [])) (some (.tup [AV.agg 8 [AV.int .i64 0, AV.int .i64 0, AV.int .i64 0, AV.str [], AV.bool false, AV.bool false, AV.bool false, AV.sl 2 []], AV.bool false])))))) :=
  (run195 _).trans (by kernel_rfl)
theorem scalar_Meet.j0_eq (c1 : List AV) (c2 : List AV) (n3 : Int) (n4 : Int) (n5 : Int) (s6 : List UInt8) (l7 : List (List AV)) (l8 : List (List AV)) (n9 : Int) (n10 : Int) (n11 : Int) (s12 : List UInt8) (b13 : Bool) (l14 : List (List AV)) : scalar_Meet.j0 (AV.boxv 8 c1 []) (AV.boxv 8 c2 []) (AV.boxv 8 [AV.int .i64 n3, AV.int .i64 n4, AV.int .i64 n5, AV.str s6, AV.bool false, AV.bool false, AV.bool false, AV.sl 2 l7] [(7, AV.own 2 l8)]) (AV.boxv 8 [AV.int .i64 n9, AV.int .i64 n10, AV.int .i64 n11, AV.str s12, AV.bool b13, AV.bool false, AV.bool false, AV.sl 2 l14] []) = (getC c1 5 fun a15 => asB a15 fun b16 => (ifB b16 (some true) (getC c2 5 fun a18 => asB a18 fun b19 => some b19) : Option Bool).bind fun b17 => (ifB b17 ((scalar_one (AV.agg 8 [AV.int .i64 n9, AV.int .i64 n10, AV.int .i64 n11, AV.str s12, AV.bool b13, AV.bool false, AV.bool false, AV.sl 2 l14])).bind fun r21 => asB r21 fun b22 => some (!b22)) (some false) : Option Bool).bind fun b20 => some (.tup [AV.agg 8 [AV.int .i64 n9, AV.int .i64 n10, AV.int .i64 n11, AV.str s12, AV.bool b13, AV.bool b20, AV.bool false, AV.sl 2 l14], AV.bool true])) :=
  (joinAt_eq S 195 d195 [1, 1, 1] _).trans (by kernel_rfl)

/-! treillage/scalar.Same: function 196 -/
noncomputable def d196 : FD := ⟨(Tryz.f196.body).getD .skip, Tryz.f196.results.toList, 53⟩
theorem run196 (l : List AV) : ωκ S 196 l = runM τ (fun _ => none) (ωκ S) [4] lpκ d196.code (look (argEnv 0 l)) (retV τ d196.rs) :=
  ωκ_run S 196 l d196 rfl (by show (Tryz.prog.funcs[196]?).bind toFD = _; rw [Tryz.func196]; rfl)
theorem scalar_Same.f_eq (c1 : List AV) (c2 : List AV) : scalar_Same (AV.agg 8 c1) (AV.agg 8 c2) = ((scalar_Right (AV.agg 8 c1)).bind fun r3 => asB r3 fun b4 => (ifB b4 ((scalar_Right (AV.agg 8 c2)).bind fun r6 => asB r6 fun b7 => some b7) (some false) : Option Bool).bind fun b5 => (ifB b5 (getC c1 0 fun a9 => asI .i64 a9 fun n10 => getC c2 0 fun a11 => asI .i64 a11 fun n12 => some (decide ((n10 : Int) = n12))) (some false) : Option Bool).bind fun b8 => (ifB b8 (getC c1 1 fun a14 => asI .i64 a14 fun n15 => getC c2 1 fun a16 => asI .i64 a16 fun n17 => some (decide ((n15 : Int) = n17))) (some false) : Option Bool).bind fun b13 => (ifB b13 (getC c1 2 fun a19 => asI .i64 a19 fun n20 => getC c2 2 fun a21 => asI .i64 a21 fun n22 => some (decide ((n20 : Int) = n22))) (some false) : Option Bool).bind fun b18 => (ifB b18 (getC c1 3 fun a24 => asS a24 fun s25 => getC c2 3 fun a26 => asS a26 fun s27 => some (decide ((s25 : List UInt8) = s27))) (some false) : Option Bool).bind fun b23 => (ifB b23 (getC c1 4 fun a29 => asB a29 fun b30 => getC c2 4 fun a31 => asB a31 fun b32 => some (b30 == b32)) (some false) : Option Bool).bind fun b28 => (ifB b28 (getC c1 5 fun a34 => asB a34 fun b35 => getC c2 5 fun a36 => asB a36 fun b37 => some (b35 == b37)) (some false) : Option Bool).bind fun b33 => some (AV.bool b33)) :=
  (run196 _).trans (by kernel_rfl)

/-! treillage/lat.lacks$1: function 197 -/
noncomputable def d197 : FD := ⟨(Tryz.f197.body).getD .skip, Tryz.f197.results.toList, 10⟩
theorem run197 (l : List AV) : ωκ S 197 l = runM τ (fun _ => none) (ωκ S) [3] lpκ d197.code (look (argEnv 0 l)) (retV τ d197.rs) :=
  ωκ_run S 197 l d197 rfl (by show (Tryz.prog.funcs[197]?).bind toFD = _; rw [Tryz.func197]; rfl)
theorem lat_lacks_1.f_eq (c1 : List AV) (c2 : List AV) : lat_lacks_1 (AV.agg 2 c1) (AV.eptr 8 c2 0) = (getC c2 7 fun a3 => asL 2 a3 fun l4 => getC c1 0 fun a5 => asS a5 fun s6 => (lat_find (AV.sl 2 l4) (AV.str s6)).bind fun r7 => asI .i64 r7 fun n8 => some (AV.bool (decide ((n8 : Int) < 0)))) :=
  (run197 _).trans (by kernel_rfl)

/-! slices.BinarySearchFunc[[]treillage/api.Field,treillage/api.Field,string]: function 198 -/
noncomputable def d198 : FD := ⟨(Tryz.f198.body).getD .skip, Tryz.f198.results.toList, 49⟩
theorem run198 (l : List AV) : ωκ S 198 l = runM τ ann198 (ωκ S) [6, 7] lpκ d198.code (look (argEnv 0 l)) (retV τ d198.rs) :=
  ωκ_run S 198 l d198 rfl (by show (Tryz.prog.funcs[198]?).bind toFD = _; rw [Tryz.func198]; rfl)
noncomputable def slices_BinarySearchFunc__Field.l0 (a0 a1 a2 a8 a9 a10 : AV) : Option AV := loopAt S 198 d198 [1, 1, 1, 0, 0] (look [(0, a0), (1, a1), (2, a2), (8, a8), (9, a9), (10, a10)])
theorem slices_BinarySearchFunc__Field.f_eq (l1 : List (List AV)) (s2 : List UInt8) (f3 : Nat) (c4 : List AV) : slices_BinarySearchFunc__Field (AV.sl 2 l1) (AV.str s2) (AV.fn f3 c4) = (slices_BinarySearchFunc__Field.l0 (AV.sl 2 l1) (AV.str s2) (AV.fn f3 c4) (AV.int .i64 (List.length l1 : Int)) (AV.int .i64 0) (AV.int .i64 (List.length l1 : Int))) :=
  (run198 _).trans (by kernel_rfl)
theorem slices_BinarySearchFunc__Field.l0_eq (l1 : List (List AV)) (s2 : List UInt8) (f3 : Nat) (c4 : List AV) (n5 : Int) (n6 : Int) (n7 : Int) : slices_BinarySearchFunc__Field.l0 (AV.sl 2 l1) (AV.str s2) (AV.fn f3 c4) (AV.int .i64 n5) (AV.int .i64 n6) (AV.int .i64 n7) = (ifB (decide ((n6 : Int) < n7)) (guardK (decide ((0 : Int) ≤ 1)) <| idx l1 (w64 (Int.fdiv (IntKind.wrap .u64 (w64 (n6 + n7))) (2 ^ (min (1 : Int).toNat (IntKind.bits .u64))))) fun c8 => (ωκ S f3 ([AV.agg 2 c8, AV.str s2] ++ c4)).bind fun r9 => asI .i64 r9 fun n10 => ifB (decide ((n10 : Int) < 0)) (slices_BinarySearchFunc__Field.l0 (AV.sl 2 l1) (AV.str s2) (AV.fn f3 c4) (AV.int .i64 n5) (AV.int .i64 (w64 ((w64 (Int.fdiv (IntKind.wrap .u64 (w64 (n6 + n7))) (2 ^ (min (1 : Int).toNat (IntKind.bits .u64))))) + 1))) (AV.int .i64 n7)) (slices_BinarySearchFunc__Field.l0 (AV.sl 2 l1) (AV.str s2) (AV.fn f3 c4) (AV.int .i64 n5) (AV.int .i64 n6) (AV.int .i64 (w64 (Int.fdiv (IntKind.wrap .u64 (w64 (n6 + n7))) (2 ^ (min (1 : Int).toNat (IntKind.bits .u64)))))))) ((ifB (decide ((n6 : Int) < n5)) (idx l1 n6 fun c12 => (ωκ S f3 ([AV.agg 2 c12, AV.str s2] ++ c4)).bind fun r13 => asI .i64 r13 fun n14 => some (decide ((n14 : Int) = 0))) (some false) : Option Bool).bind fun b11 => some (.tup [AV.int .i64 n6, AV.bool b11]))) :=
  (loopAt_eq S 198 d198 [1, 1, 1, 0, 0] _).trans (by kernel_rfl)

/-! treillage/lat.find$1: function 199 -/
noncomputable def d199 : FD := ⟨(Tryz.f199.body).getD .skip, Tryz.f199.results.toList, 15⟩
theorem run199 (l : List AV) : ωκ S 199 l = runM τ (fun _ => none) (ωκ S) [4] lpκ d199.code (look (argEnv 0 l)) (retV τ d199.rs) :=
  ωκ_run S 199 l d199 rfl (by show (Tryz.prog.funcs[199]?).bind toFD = _; rw [Tryz.func199]; rfl)
theorem lat_find_1.f_eq (c1 : List AV) (s2 : List UInt8) : lat_find_1 (AV.agg 2 c1) (AV.str s2) = (getC c1 0 fun a3 => asS a3 fun s4 => ifB (bytesLt s4 s2) (some (AV.int .i64 (-1))) (getC c1 0 fun a5 => asS a5 fun s6 => ifB (!(bytesLt s6 s2 || decide ((s6 : List UInt8) = s2))) (some (AV.int .i64 1)) (some (AV.int .i64 0)))) :=
  (run199 _).trans (by kernel_rfl)
end Go.Proofs.YtffojfcinkihnaaGreatDoor.Abs
/- What the code comes to, function by function (printed by gen.py). -/
set_option linter.unusedVariables false
set_option linter.unusedSimpArgs false
set_option linter.unusedSectionVars false
set_option linter.deprecated false
set_option linter.unnecessarySimpa false
namespace Go.Proofs.YtffojfcinkihnaaGreatDoor.Abs
set_option linter.unusedVariables false
set_option maxRecDepth 100000

/-! slices.ContainsFunc[[]treillage/api.Term,treillage/api.Term]: function 200 -/
noncomputable def d200 : FD := ⟨(Tryz.f200.body).getD .skip, Tryz.f200.results.toList, 9⟩
theorem run200 (l : List AV) : ωκ S 200 l = runM τ (fun _ => none) (ωκ S) [4] lpκ d200.code (look (argEnv 0 l)) (retV τ d200.rs) :=
  ωκ_run S 200 l d200 rfl (by show (Tryz.prog.funcs[200]?).bind toFD = _; rw [Tryz.func200]; rfl)
theorem slices_ContainsFunc__Term.f_eq (l1 : List (List AV)) (f2 : Nat) (c3 : List AV) : slices_ContainsFunc__Term (AV.sl 8 l1) (AV.fn f2 c3) = ((slices_IndexFunc__Term (AV.sl 8 l1) (AV.fn f2 c3)).bind fun r4 => asI .i64 r4 fun n5 => some (AV.bool (decide ((0 : Int) ≤ n5)))) :=
  (run200 _).trans (by kernel_rfl)

/-! treillage/lat.under$1: function 201 -/
noncomputable def d201 : FD := ⟨(Tryz.f201.body).getD .skip, Tryz.f201.results.toList, 7⟩
theorem run201 (l : List AV) : ωκ S 201 l = runM τ (fun _ => none) (ωκ S) [3] lpκ d201.code (look (argEnv 0 l)) (retV τ d201.rs) :=
  ωκ_run S 201 l d201 rfl (by show (Tryz.prog.funcs[201]?).bind toFD = _; rw [Tryz.func201]; rfl)
theorem lat_under_1.f_eq (c1 : List AV) (c2 : List AV) : lat_under_1 (AV.agg 8 c1) (AV.eptr 8 c2 0) = ((lat_below (AV.agg 8 c2) (AV.agg 8 c1)).bind fun r3 => asB r3 fun b4 => some (AV.bool b4)) :=
  (run201 _).trans (by kernel_rfl)

/-! slices.IndexFunc[[]treillage/api.Term,treillage/api.Term]: function 215 -/
noncomputable def d215 : FD := ⟨(Tryz.f215.body).getD .skip, Tryz.f215.results.toList, 19⟩
theorem run215 (l : List AV) : ωκ S 215 l = runM τ ann215 (ωκ S) [4] lpκ d215.code (look (argEnv 0 l)) (retV τ d215.rs) :=
  ωκ_run S 215 l d215 rfl (by show (Tryz.prog.funcs[215]?).bind toFD = _; rw [Tryz.func215]; rfl)
noncomputable def slices_IndexFunc__Term.l0 (a0 a1 a7 a8 : AV) : Option AV := loopAt S 215 d215 [1, 0, 1, 0] (look [(0, a0), (1, a1), (7, a7), (8, a8)])
theorem slices_IndexFunc__Term.f_eq (l1 : List (List AV)) (f2 : Nat) (c3 : List AV) : slices_IndexFunc__Term (AV.sl 8 l1) (AV.fn f2 c3) = (slices_IndexFunc__Term.l0 (AV.sl 8 l1) (AV.fn f2 c3) (AV.int .i64 (List.length l1 : Int)) (AV.int .i64 0)) :=
  (run215 _).trans (by kernel_rfl)
theorem slices_IndexFunc__Term.l0_eq (l1 : List (List AV)) (f2 : Nat) (c3 : List AV) (n4 : Int) (n5 : Int) : slices_IndexFunc__Term.l0 (AV.sl 8 l1) (AV.fn f2 c3) (AV.int .i64 n4) (AV.int .i64 n5) = (ifB (decide ((n5 : Int) < n4)) (idx l1 n5 fun c6 => (ωκ S f2 ([AV.agg 8 c6] ++ c3)).bind fun r7 => asB r7 fun b8 => ifB b8 (some (AV.int .i64 n5)) (slices_IndexFunc__Term.l0 (AV.sl 8 l1) (AV.fn f2 c3) (AV.int .i64 n4) (AV.int .i64 (w64 (n5 + 1))))) (some (AV.int .i64 (-1)))) :=
  (loopAt_eq S 215 d215 [1, 0, 1, 0] _).trans (by kernel_rfl)
end Go.Proofs.YtffojfcinkihnaaGreatDoor.Abs
/- What the code comes to, function by function (printed by gen.py). -/
namespace Go.Proofs.YtffojfcinkihnaaGreatDoor.Abs
set_option linter.unusedVariables false
set_option maxRecDepth 100000

/-! treillage/treillagelaw30.plain: function 9 -/
noncomputable def d9 : FD := ⟨(Tryz.f9.body).getD .skip, Tryz.f9.results.toList, 30⟩
theorem run9 (l : List AV) : ωκ S 9 l = runM τ ann9 (ωκ S) [2] lpκ d9.code (look (argEnv 0 l)) (retV τ d9.rs) :=
  ωκ_run S 9 l d9 rfl (by show (Tryz.prog.funcs[9]?).bind toFD = _; rw [Tryz.func9]; rfl)
noncomputable def law30_plain.l0 (a0 a3 a4 : AV) : Option AV := loopAt S 9 d9 [1, 1, 0, 1, 0] (look [(0, a0), (3, a3), (4, a4)])
theorem law30_plain.f_eq (l1 : List (List AV)) : law30_plain (AV.sl 3 l1) = (law30_plain.l0 (AV.sl 3 l1) (AV.own 3 []) (AV.int .i64 0)) :=
  (run9 _).trans (by kernel_rfl)
theorem law30_plain.l0_eq (l1 : List (List AV)) (l2 : List (List AV)) (n3 : Int) : law30_plain.l0 (AV.sl 3 l1) (AV.own 3 l2) (AV.int .i64 n3) = (ifB (decide ((n3 : Int) < (List.length l1 : Int))) (idx l1 n3 fun c4 => getC c4 1 fun a5 => (law08_Plain (AV.agg 1 [(frz a5)])).bind fun r6 => asC 1 r6 fun c7 => getC c7 0 fun a8 => getC c4 2 fun a9 => asL 1 a9 fun l10 => guardK (Nat.ble (0 + List.length l10) lim) <| guardK (Nat.ble (List.length l2 + List.length ([(List.set (List.set c4 1 (frz a8)) 2 (AV.sl 1 ([] ++ l10)))])) lim) <| law30_plain.l0 (AV.sl 3 l1) (AV.own 3 (l2 ++ ([(List.set (List.set c4 1 (frz a8)) 2 (AV.sl 1 ([] ++ l10)))]))) (AV.int .i64 (w64 (n3 + 1)))) (some (AV.own 3 l2))) :=
  (loopAt_eq S 9 d9 [1, 1, 0, 1, 0] _).trans (by kernel_rfl)

end Go.Proofs.YtffojfcinkihnaaGreatDoor.Abs
