/- What the code comes to, function by function (printed by gen.py). -/
import Derived.Test.YtffojfcinkihnaaGreatDoorAbsT
set_option linter.unusedVariables false
set_option linter.unusedSimpArgs false
set_option linter.unusedSectionVars false
set_option linter.deprecated false
set_option linter.unnecessarySimpa false
namespace Go.Proofs.YtffojfcinkihnaaGreatDoor.Abs
set_option linter.unusedVariables false
set_option maxRecDepth 100000

/-! treillage/treillageref09.Under: function 146 -/
noncomputable def d146 : FD := ⟨(Tryz.f146.body).getD .skip, Tryz.f146.results.toList, 39⟩
theorem run146 (l : List AV) : ωκ S 146 l = runM τ ann146 (ωκ S) [4] lpκ d146.code (look (argEnv 0 l)) (retV τ d146.rs) :=
  ωκ_run S 146 l d146 rfl (by show (Tryz.prog.funcs[146]?).bind toFD = _; rw [Tryz.func146]; rfl)
noncomputable def ref09_Under.l0 (a2 a3 a5 : AV) : Option AV := loopAt S 146 d146 [1, 0, 1, 0] (look [(2, a2), (3, a3), (5, a5)])
noncomputable def ref09_Under.l1 (a2 a3 a5 a6 a7 : AV) : Option AV := loopAt S 146 d146 [1, 0, 1, 0, 0, 1, 0, 0, 1, 0, 1, 0] (look [(2, a2), (3, a3), (5, a5), (6, a6), (7, a7)])
theorem ref09_Under.f_eq (c1 : List AV) (c2 : List AV) : ref09_Under (AV.agg 1 c1) (AV.agg 1 c2) = (ref09_Under.l0 (AV.boxv 1 c1 []) (AV.boxv 1 c2 []) (AV.int .i64 0)) :=
  (run146 _).trans (by kernel_rfl)
theorem ref09_Under.l0_eq (c1 : List AV) (c2 : List AV) (n3 : Int) : ref09_Under.l0 (AV.boxv 1 c1 []) (AV.boxv 1 c2 []) (AV.int .i64 n3) = (getC c1 0 fun a4 => asL 8 a4 fun l5 => ifB (decide ((n3 : Int) < (List.length l5 : Int))) (ref09_Under.l1 (AV.boxv 1 c1 []) (AV.boxv 1 c2 []) (AV.int .i64 n3) (AV.bool false) (AV.int .i64 0)) (some (AV.bool true))) :=
  (loopAt_eq S 146 d146 [1, 0, 1, 0] _).trans (by kernel_rfl)
theorem ref09_Under.l1_eq (c1 : List AV) (c2 : List AV) (n3 : Int) (n4 : Int) : ref09_Under.l1 (AV.boxv 1 c1 []) (AV.boxv 1 c2 []) (AV.int .i64 n3) (AV.bool false) (AV.int .i64 n4) = (getC c2 0 fun a5 => asL 8 a5 fun l6 => (ifB (decide ((n4 : Int) < (List.length l6 : Int))) (some true) (some false) : Option Bool).bind fun b7 => ifB b7 (getC c1 0 fun a8 => asL 8 a8 fun l9 => idx l9 n3 fun c10 => getC c2 0 fun a11 => asL 8 a11 fun l12 => idx l12 n4 fun c13 => (ref09_under (AV.agg 8 c10) (AV.agg 8 c13)).bind fun r14 => asB r14 fun b15 => ref09_Under.l1 (AV.boxv 1 c1 []) (AV.boxv 1 c2 []) (AV.int .i64 n3) (AV.bool b15) (AV.int .i64 (w64 (n4 + 1)))) (some (AV.bool false))) :=
  (loopAt_eq S 146 d146 [1, 0, 1, 0, 0, 1, 0, 0, 1, 0, 1, 0] _).trans (by kernel_rfl)
theorem ref09_Under.l1_eq2 (c1 : List AV) (c2 : List AV) (n3 : Int) (b4 : Bool) (n5 : Int) : ref09_Under.l1 (AV.boxv 1 c1 []) (AV.boxv 1 c2 []) (AV.int .i64 n3) (AV.bool b4) (AV.int .i64 n5) = (getC c2 0 fun a6 => asL 8 a6 fun l7 => (ifB (decide ((n5 : Int) < (List.length l7 : Int))) (some (!b4)) (some false) : Option Bool).bind fun b8 => ifB b8 (getC c1 0 fun a9 => asL 8 a9 fun l10 => idx l10 n3 fun c11 => getC c2 0 fun a12 => asL 8 a12 fun l13 => idx l13 n5 fun c14 => (ref09_under (AV.agg 8 c11) (AV.agg 8 c14)).bind fun r15 => asB r15 fun b16 => ref09_Under.l1 (AV.boxv 1 c1 []) (AV.boxv 1 c2 []) (AV.int .i64 n3) (AV.bool b16) (AV.int .i64 (w64 (n5 + 1)))) (ifB (!b4) (some (AV.bool false)) (ref09_Under.l0 (AV.boxv 1 c1 []) (AV.boxv 1 c2 []) (AV.int .i64 (w64 (n3 + 1)))))) :=
  (loopAt_eq S 146 d146 [1, 0, 1, 0, 0, 1, 0, 0, 1, 0, 1, 0] _).trans (by kernel_rfl)

/-! cmp.Compare[int]: function 147 -/
noncomputable def d147 : FD := ⟨(Tryz.f147.body).getD .skip, Tryz.f147.results.toList, 20⟩
theorem run147 (l : List AV) : ωκ S 147 l = runM τ (fun _ => none) (ωκ S) [4] lpκ d147.code (look (argEnv 0 l)) (retV τ d147.rs) :=
  ωκ_run S 147 l d147 rfl (by show (Tryz.prog.funcs[147]?).bind toFD = _; rw [Tryz.func147]; rfl)
theorem cmp_Compare__int.f_eq (n1 : Int) (n2 : Int) : cmp_Compare__int (AV.int .i64 n1) (AV.int .i64 n2) = ((cmp_isNaN__int (AV.int .i64 n1)).bind fun r3 => asB r3 fun b4 => (cmp_isNaN__int (AV.int .i64 n2)).bind fun r5 => asB r5 fun b6 => ifB b4 (ifB b6 (some (AV.int .i64 0)) (some (AV.int .i64 (-1)))) (ifB b6 (some (AV.int .i64 1)) (ifB (decide ((n1 : Int) < n2)) (some (AV.int .i64 (-1))) (ifB (decide ((n2 : Int) < n1)) (some (AV.int .i64 1)) (some (AV.int .i64 0)))))) :=
  (run147 _).trans (by kernel_rfl)

/-! treillage/rank.first: function 148 -/
noncomputable def d148 : FD := ⟨(Tryz.f148.body).getD .skip, Tryz.f148.results.toList, 15⟩
theorem run148 (l : List AV) : ωκ S 148 l = runM τ ann148 (ωκ S) [2] lpκ d148.code (look (argEnv 0 l)) (retV τ d148.rs) :=
  ωκ_run S 148 l d148 rfl (by show (Tryz.prog.funcs[148]?).bind toFD = _; rw [Tryz.func148]; rfl)
noncomputable def rank_first.l0 (a5 a6 a7 : AV) : Option AV := loopAt S 148 d148 [1, 0, 1, 0] (look [(5, a5), (6, a6), (7, a7)])
theorem rank_first.f_eq (l1 : List (List AV)) : rank_first (AV.sl 1 l1) = (rank_first.l0 (AV.sl 1 l1) (AV.int .i64 (List.length l1 : Int)) (AV.int .i64 0)) :=
  (run148 _).trans (by kernel_rfl)
theorem rank_first.l0_eq (l1 : List (List AV)) (n2 : Int) (n3 : Int) : rank_first.l0 (AV.sl 1 l1) (AV.int .i64 n2) (AV.int .i64 n3) = (ifB (decide ((n3 : Int) < n2)) (idx l1 n3 fun c4 => getC c4 0 fun a5 => asI .i64 a5 fun n6 => ifB (!decide ((n6 : Int) = 0)) (some (AV.int .i64 n6)) (rank_first.l0 (AV.sl 1 l1) (AV.int .i64 n2) (AV.int .i64 (w64 (n3 + 1))))) (some (AV.int .i64 0))) :=
  (loopAt_eq S 148 d148 [1, 0, 1, 0] _).trans (by kernel_rfl)

/-! strings.Compare: function 149 -/
noncomputable def d149 : FD := ⟨(Tryz.f149.body).getD .skip, Tryz.f149.results.toList, 8⟩
theorem run149 (l : List AV) : ωκ S 149 l = runM τ (fun _ => none) (ωκ S) [4] lpκ d149.code (look (argEnv 0 l)) (retV τ d149.rs) :=
  ωκ_run S 149 l d149 rfl (by show (Tryz.prog.funcs[149]?).bind toFD = _; rw [Tryz.func149]; rfl)
theorem strings_Compare.f_eq (s1 : List UInt8) (s2 : List UInt8) : strings_Compare (AV.str s1) (AV.str s2) = ((internal_bytealg_CompareString (AV.str s1) (AV.str s2)).bind fun r3 => asI .i64 r3 fun n4 => some (AV.int .i64 n4)) :=
  (run149 _).trans (by kernel_rfl)

/-! treillage/rank.flag: function 150 -/
noncomputable def d150 : FD := ⟨(Tryz.f150.body).getD .skip, Tryz.f150.results.toList, 4⟩
theorem run150 (l : List AV) : ωκ S 150 l = runM τ (fun _ => none) (ωκ S) [2] lpκ d150.code (look (argEnv 0 l)) (retV τ d150.rs) :=
  ωκ_run S 150 l d150 rfl (by show (Tryz.prog.funcs[150]?).bind toFD = _; rw [Tryz.func150]; rfl)
theorem rank_flag.f_eq (b1 : Bool) : rank_flag (AV.bool b1) = (ifB b1 (some (AV.int .i64 1)) (some (AV.int .i64 0))) :=
  (run150 _).trans (by kernel_rfl)

/-! treillage/rank.lists[treillage/api.Field]: function 151 -/
noncomputable def d151 : FD := ⟨(Tryz.f151.body).getD .skip, Tryz.f151.results.toList, 36⟩
theorem run151 (l : List AV) : ωκ S 151 l = runM τ ann151 (ωκ S) [6] lpκ d151.code (look (argEnv 0 l)) (retV τ d151.rs) :=
  ωκ_run S 151 l d151 rfl (by show (Tryz.prog.funcs[151]?).bind toFD = _; rw [Tryz.func151]; rfl)
noncomputable def rank_lists__Field.l0 (a0 a1 a2 a13 a14 : AV) : Option AV := loopAt S 151 d151 [1, 0, 1, 0] (look [(0, a0), (1, a1), (2, a2), (13, a13), (14, a14)])
theorem rank_lists__Field.f_eq (l1 : List (List AV)) (l2 : List (List AV)) (f3 : Nat) (c4 : List AV) : rank_lists__Field (AV.sl 2 l1) (AV.sl 2 l2) (AV.fn f3 c4) = (rank_lists__Field.l0 (AV.sl 2 l1) (AV.sl 2 l2) (AV.fn f3 c4) (AV.int .i64 (min ((List.length l1 : Int) : Int) (List.length l2 : Int))) (AV.int .i64 0)) :=
  (run151 _).trans (by kernel_rfl)
theorem rank_lists__Field.l0_eq (l1 : List (List AV)) (l2 : List (List AV)) (f3 : Nat) (c4 : List AV) (n5 : Int) (n6 : Int) : rank_lists__Field.l0 (AV.sl 2 l1) (AV.sl 2 l2) (AV.fn f3 c4) (AV.int .i64 n5) (AV.int .i64 n6) = (ifB (decide ((n6 : Int) < n5)) (idx l1 n6 fun c7 => idx l2 n6 fun c8 => (ωκ S f3 ([AV.agg 2 c7, AV.agg 2 c8] ++ c4)).bind fun r9 => asI .i64 r9 fun n10 => ifB (!decide ((n10 : Int) = 0)) (some (AV.int .i64 n10)) (rank_lists__Field.l0 (AV.sl 2 l1) (AV.sl 2 l2) (AV.fn f3 c4) (AV.int .i64 n5) (AV.int .i64 (w64 (n6 + 1))))) ((cmp_Compare__int (AV.int .i64 (List.length l1 : Int)) (AV.int .i64 (List.length l2 : Int))).bind fun r11 => asI .i64 r11 fun n12 => some (AV.int .i64 n12))) :=
  (loopAt_eq S 151 d151 [1, 0, 1, 0] _).trans (by kernel_rfl)

/-! treillage/rank.fields: function 152 -/
noncomputable def d152 : FD := ⟨(Tryz.f152.body).getD .skip, Tryz.f152.results.toList, 17⟩
theorem run152 (l : List AV) : ωκ S 152 l = runM τ (fun _ => none) (ωκ S) [4] lpκ d152.code (look (argEnv 0 l)) (retV τ d152.rs) :=
  ωκ_run S 152 l d152 rfl (by show (Tryz.prog.funcs[152]?).bind toFD = _; rw [Tryz.func152]; rfl)
theorem rank_fields.f_eq (c1 : List AV) (c2 : List AV) : rank_fields (AV.agg 2 c1) (AV.agg 2 c2) = (getC c1 0 fun a3 => asS a3 fun s4 => getC c2 0 fun a5 => asS a5 fun s6 => (strings_Compare (AV.str s4) (AV.str s6)).bind fun r7 => asI .i64 r7 fun n8 => getC c1 1 fun a9 => getC c2 1 fun a10 => (rank_Compare (AV.agg 1 [(frz a9)]) (AV.agg 1 [(frz a10)])).bind fun r11 => asI .i64 r11 fun n12 => (rank_first (AV.sl 1 ([[AV.int .i64 n8], [AV.int .i64 n12]]))).bind fun r13 => asI .i64 r13 fun n14 => some (AV.int .i64 n14)) :=
  (run152 _).trans (by kernel_rfl)

/-! treillage/scalar.Truth: function 153 -/
noncomputable def d153 : FD := ⟨(Tryz.f153.body).getD .skip, Tryz.f153.results.toList, 6⟩
theorem run153 (l : List AV) : ωκ S 153 l = runM τ (fun _ => none) (ωκ S) [] lpκ d153.code (look (argEnv 0 l)) (retV τ d153.rs) :=
  ωκ_run S 153 l d153 rfl (by show (Tryz.prog.funcs[153]?).bind toFD = _; rw [Tryz.func153]; rfl)
theorem scalar_Truth.f_eq (b1 : Bool) : scalar_Truth (AV.bool b1) = (ifB b1 (some (AV.agg 8 [AV.int .i64 1, AV.int .i64 1, AV.int .i64 1, AV.str [], AV.bool false, AV.bool false, AV.bool false, AV.sl 2 []])) (some (AV.agg 8 [AV.int .i64 1, AV.int .i64 0, AV.int .i64 0, AV.str [], AV.bool false, AV.bool false, AV.bool false, AV.sl 2 []]))) :=
  (run153 _).trans (by kernel_rfl)

/-! treillage/apply.modulo: function 154 -/
noncomputable def d154 : FD := ⟨(Tryz.f154.body).getD .skip, Tryz.f154.results.toList, 14⟩
theorem run154 (l : List AV) : ωκ S 154 l = runM τ (fun _ => none) (ωκ S) [4] lpκ d154.code (look (argEnv 0 l)) (retV τ d154.rs) :=
  ωκ_run S 154 l d154 rfl (by show (Tryz.prog.funcs[154]?).bind toFD = _; rw [Tryz.func154]; rfl)
theorem apply_modulo.f_eq (n1 : Int) (n2 : Int) : apply_modulo (AV.int .i64 n1) (AV.int .i64 n2) = (guardK (!decide ((n2 : Int) = 0)) <| ifB (decide ((Int.tmod n1 n2 : Int) < 0)) (some (AV.int .i64 (w64 ((Int.tmod n1 n2) + n2)))) (some (AV.int .i64 (Int.tmod n1 n2)))) :=
  (run154 _).trans (by kernel_rfl)

/-! treillage/treillageref35.mod: function 156 -/
noncomputable def d156 : FD := ⟨(Tryz.f156.body).getD .skip, Tryz.f156.results.toList, 12⟩
theorem run156 (l : List AV) : ωκ S 156 l = runM τ (fun _ => none) (ωκ S) [4] lpκ d156.code (look (argEnv 0 l)) (retV τ d156.rs) :=
  ωκ_run S 156 l d156 rfl (by show (Tryz.prog.funcs[156]?).bind toFD = _; rw [Tryz.func156]; rfl)
theorem ref35_mod.f_eq (n1 : Int) (n2 : Int) : ref35_mod (AV.int .i64 n1) (AV.int .i64 n2) = (guardK (!decide ((n2 : Int) = 0)) <| guardK (!decide ((n2 : Int) = 0)) <| some (AV.int .i64 (Int.tmod (w64 ((Int.tmod n1 n2) + n2)) n2))) :=
  (run156 _).trans (by kernel_rfl)

/-! treillage/treillageref01.Text: function 157 -/
noncomputable def d157 : FD := ⟨(Tryz.f157.body).getD .skip, Tryz.f157.results.toList, 47⟩
theorem run157 (l : List AV) : ωκ S 157 l = runM τ (fun _ => none) (ωκ S) [2] lpκ d157.code (look (argEnv 0 l)) (retV τ d157.rs) :=
  ωκ_run S 157 l d157 rfl (by show (Tryz.prog.funcs[157]?).bind toFD = _; rw [Tryz.func157]; rfl)
theorem ref01_Text.f_eq (n1 : Int) : ref01_Text (AV.int .i64 n1) = ((ifB (decide ((0 : Int) ≤ n1)) (some (decide ((n1 : Int) < 10))) (some false) : Option Bool).bind fun b2 => ifB b2 (bytesK ([[AV.int .u8 (IntKind.wrap .u8 (w64 (48 + n1)))]]) fun s3 => some (AV.str s3)) (ifB (decide ((0 : Int) < n1)) ((ref01_Text (AV.int .i64 (w64 (Int.tdiv n1 10)))).bind fun r4 => asS r4 fun s5 => bytesK ([[AV.int .u8 (IntKind.wrap .u8 (w64 (48 + (Int.tmod n1 10))))]]) fun s6 => guardK (Nat.ble (List.length s5 + List.length s6) lim) <| some (AV.str (s5 ++ s6))) (ifB (decide (((-10) : Int) < n1)) (bytesK ([[AV.int .u8 (IntKind.wrap .u8 (w64 (48 + (w64 (0 - (Int.tmod n1 10))))))]]) fun s7 => guardK (Nat.ble (List.length [45] + List.length s7) lim) <| some (AV.str ([45] ++ s7))) ((ref01_Text (AV.int .i64 (w64 (Int.tdiv n1 10)))).bind fun r8 => asS r8 fun s9 => bytesK ([[AV.int .u8 (IntKind.wrap .u8 (w64 (48 + (w64 (0 - (Int.tmod n1 10))))))]]) fun s10 => guardK (Nat.ble (List.length s9 + List.length s10) lim) <| some (AV.str (s9 ++ s10)))))) :=
  (run157 _).trans (by kernel_rfl)

/-! treillage/lat.below: function 158 -/
noncomputable def d158 : FD := ⟨(Tryz.f158.body).getD .skip, Tryz.f158.results.toList, 66⟩
theorem run158 (l : List AV) : ωκ S 158 l = runM τ ann158 (ωκ S) [4] lpκ d158.code (look (argEnv 0 l)) (retV τ d158.rs) :=
  ωκ_run S 158 l d158 rfl (by show (Tryz.prog.funcs[158]?).bind toFD = _; rw [Tryz.func158]; rfl)
noncomputable def lat_below.l0 (a2 a40 a41 a42 : AV) : Option AV := loopAt S 158 d158 [1, 1, 0, 1, 0] (look [(2, a2), (40, a40), (41, a41), (42, a42)])
theorem lat_below.f_eq (c1 : List AV) (c2 : List AV) : lat_below (AV.agg 8 c1) (AV.agg 8 c2) = (getC c2 0 fun a3 => asI .i64 a3 fun n4 => ifB (decide ((n4 : Int) = 5)) (some (AV.bool true)) (getC c1 0 fun a5 => asI .i64 a5 fun n6 => getC c2 0 fun a7 => asI .i64 a7 fun n8 => (ifB (!decide ((n6 : Int) = n8)) (some true) (getC c1 0 fun a10 => asI .i64 a10 fun n11 => some (!decide ((n11 : Int) = 4))) : Option Bool).bind fun b9 => ifB b9 ((scalar_Below (AV.agg 8 c1) (AV.agg 8 c2)).bind fun r12 => asB r12 fun b13 => some (AV.bool b13)) (getC c1 6 fun a14 => asB a14 fun b15 => (ifB b15 (getC c2 6 fun a17 => asB a17 fun b18 => some (!b18)) (some false) : Option Bool).bind fun b16 => (ifB b16 (some true) ((lat_lacks (AV.agg 8 c2) (AV.agg 8 c1)).bind fun r20 => asB r20 fun b21 => some b21) : Option Bool).bind fun b19 => ifB b19 (some (AV.bool false)) (getC c2 7 fun a22 => asL 2 a22 fun l23 => lat_below.l0 (AV.boxv 8 c1 []) (AV.sl 2 l23) (AV.int .i64 (List.length l23 : Int)) (AV.int .i64 0))))) :=
  (run158 _).trans (by kernel_rfl)
theorem lat_below.l0_eq (c1 : List AV) (l2 : List (List AV)) (n3 : Int) (n4 : Int) : lat_below.l0 (AV.boxv 8 c1 []) (AV.sl 2 l2) (AV.int .i64 n3) (AV.int .i64 n4) = (ifB (decide ((n4 : Int) < n3)) (idx l2 n4 fun c5 => getC c1 7 fun a6 => asL 2 a6 fun l7 => getC c5 0 fun a8 => asS a8 fun s9 => (lat_find (AV.sl 2 l7) (AV.str s9)).bind fun r10 => asI .i64 r10 fun n11 => (ifB (decide ((n11 : Int) < 0)) (some true) (getC c1 7 fun a13 => asL 2 a13 fun l14 => idx l14 n11 fun c15 => getC c15 1 fun a16 => getC c5 1 fun a17 => (lat_under (AV.agg 1 [a16]) (AV.agg 1 [(frz a17)])).bind fun r18 => asB r18 fun b19 => some (!b19)) : Option Bool).bind fun b12 => ifB b12 (some (AV.bool false)) (lat_below.l0 (AV.boxv 8 c1 []) (AV.sl 2 l2) (AV.int .i64 n3) (AV.int .i64 (w64 (n4 + 1))))) (some (AV.bool true))) :=
  (loopAt_eq S 158 d158 [1, 1, 0, 1, 0] _).trans (by kernel_rfl)
end Go.Proofs.YtffojfcinkihnaaGreatDoor.Abs
