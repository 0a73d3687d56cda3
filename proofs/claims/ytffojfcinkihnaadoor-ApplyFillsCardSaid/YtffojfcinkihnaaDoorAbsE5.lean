/- What the code comes to, function by function (printed by gen.py). -/
import Derived.Test.YtffojfcinkihnaaDoorAbsT
set_option linter.unusedVariables false
set_option linter.unusedSimpArgs false
set_option linter.unusedSectionVars false
set_option linter.deprecated false
set_option linter.unnecessarySimpa false
namespace Go.Proofs.YtffojfcinkihnaaDoor.Abs
set_option linter.unusedVariables false
set_option maxRecDepth 100000

/-! cmp.Compare[int]: function 69 -/
noncomputable def d69 : FD := ⟨(Tryd.f69.body).getD .skip, Tryd.f69.results.toList, 20⟩
theorem run69 (l : List AV) : ωκ S 69 l = runM τ (fun _ => none) (ωκ S) [4] lpκ d69.code (look (argEnv 0 l)) (retV τ d69.rs) :=
  ωκ_run S 69 l d69 rfl (by show (Tryd.prog.funcs[69]?).bind toFD = _; rw [Tryd.func69]; rfl)
theorem cmp_Compare__int.f_eq (n1 : Int) (n2 : Int) : cmp_Compare__int (AV.int .i64 n1) (AV.int .i64 n2) = ((cmp_isNaN__int (AV.int .i64 n1)).bind fun r3 => asB r3 fun b4 => (cmp_isNaN__int (AV.int .i64 n2)).bind fun r5 => asB r5 fun b6 => ifB b4 (ifB b6 (some (AV.int .i64 0)) (some (AV.int .i64 (-1)))) (ifB b6 (some (AV.int .i64 1)) (ifB (decide ((n1 : Int) < n2)) (some (AV.int .i64 (-1))) (ifB (decide ((n2 : Int) < n1)) (some (AV.int .i64 1)) (some (AV.int .i64 0)))))) :=
  (run69 _).trans (by kernel_rfl)

/-! strings.Compare: function 70 -/
noncomputable def d70 : FD := ⟨(Tryd.f70.body).getD .skip, Tryd.f70.results.toList, 8⟩
theorem run70 (l : List AV) : ωκ S 70 l = runM τ (fun _ => none) (ωκ S) [4] lpκ d70.code (look (argEnv 0 l)) (retV τ d70.rs) :=
  ωκ_run S 70 l d70 rfl (by show (Tryd.prog.funcs[70]?).bind toFD = _; rw [Tryd.func70]; rfl)
theorem strings_Compare.f_eq (s1 : List UInt8) (s2 : List UInt8) : strings_Compare (AV.str s1) (AV.str s2) = ((internal_bytealg_CompareString (AV.str s1) (AV.str s2)).bind fun r3 => asI .i64 r3 fun n4 => some (AV.int .i64 n4)) :=
  (run70 _).trans (by kernel_rfl)

/-! treillage/rank.flag: function 71 -/
noncomputable def d71 : FD := ⟨(Tryd.f71.body).getD .skip, Tryd.f71.results.toList, 4⟩
theorem run71 (l : List AV) : ωκ S 71 l = runM τ (fun _ => none) (ωκ S) [2] lpκ d71.code (look (argEnv 0 l)) (retV τ d71.rs) :=
  ωκ_run S 71 l d71 rfl (by show (Tryd.prog.funcs[71]?).bind toFD = _; rw [Tryd.func71]; rfl)
theorem rank_flag.f_eq (b1 : Bool) : rank_flag (AV.bool b1) = (ifB b1 (some (AV.int .i64 1)) (some (AV.int .i64 0))) :=
  (run71 _).trans (by kernel_rfl)

/-! treillage/rank.lists[treillage/api.Field]: function 72 -/
noncomputable def d72 : FD := ⟨(Tryd.f72.body).getD .skip, Tryd.f72.results.toList, 36⟩
theorem run72 (l : List AV) : ωκ S 72 l = runM τ ann72 (ωκ S) [6] lpκ d72.code (look (argEnv 0 l)) (retV τ d72.rs) :=
  ωκ_run S 72 l d72 rfl (by show (Tryd.prog.funcs[72]?).bind toFD = _; rw [Tryd.func72]; rfl)
noncomputable def rank_lists__Field.l0 (a0 a1 a2 a13 a14 : AV) : Option AV := loopAt S 72 d72 [1, 0, 1, 0] (look [(0, a0), (1, a1), (2, a2), (13, a13), (14, a14)])
theorem rank_lists__Field.f_eq (l1 : List (List AV)) (l2 : List (List AV)) (f3 : Nat) (c4 : List AV) : rank_lists__Field (AV.sl 2 l1) (AV.sl 2 l2) (AV.fn f3 c4) = (rank_lists__Field.l0 (AV.sl 2 l1) (AV.sl 2 l2) (AV.fn f3 c4) (AV.int .i64 (min ((List.length l1 : Int) : Int) (List.length l2 : Int))) (AV.int .i64 0)) :=
  (run72 _).trans (by kernel_rfl)
theorem rank_lists__Field.l0_eq (l1 : List (List AV)) (l2 : List (List AV)) (f3 : Nat) (c4 : List AV) (n5 : Int) (n6 : Int) : rank_lists__Field.l0 (AV.sl 2 l1) (AV.sl 2 l2) (AV.fn f3 c4) (AV.int .i64 n5) (AV.int .i64 n6) = (ifB (decide ((n6 : Int) < n5)) (idx l1 n6 fun c7 => idx l2 n6 fun c8 => (ωκ S f3 ([AV.agg 2 c7, AV.agg 2 c8] ++ c4)).bind fun r9 => asI .i64 r9 fun n10 => ifB (!decide ((n10 : Int) = 0)) (some (AV.int .i64 n10)) (rank_lists__Field.l0 (AV.sl 2 l1) (AV.sl 2 l2) (AV.fn f3 c4) (AV.int .i64 n5) (AV.int .i64 (w64 (n6 + 1))))) ((cmp_Compare__int (AV.int .i64 (List.length l1 : Int)) (AV.int .i64 (List.length l2 : Int))).bind fun r11 => asI .i64 r11 fun n12 => some (AV.int .i64 n12))) :=
  (loopAt_eq S 72 d72 [1, 0, 1, 0] _).trans (by kernel_rfl)

/-! treillage/rank.fields: function 73 -/
noncomputable def d73 : FD := ⟨(Tryd.f73.body).getD .skip, Tryd.f73.results.toList, 17⟩
theorem run73 (l : List AV) : ωκ S 73 l = runM τ (fun _ => none) (ωκ S) [4] lpκ d73.code (look (argEnv 0 l)) (retV τ d73.rs) :=
  ωκ_run S 73 l d73 rfl (by show (Tryd.prog.funcs[73]?).bind toFD = _; rw [Tryd.func73]; rfl)
theorem rank_fields.f_eq (c1 : List AV) (c2 : List AV) : rank_fields (AV.agg 2 c1) (AV.agg 2 c2) = (getC c1 0 fun a3 => asS a3 fun s4 => getC c2 0 fun a5 => asS a5 fun s6 => (strings_Compare (AV.str s4) (AV.str s6)).bind fun r7 => asI .i64 r7 fun n8 => getC c1 1 fun a9 => getC c2 1 fun a10 => (rank_Compare (AV.agg 1 [(frz a9)]) (AV.agg 1 [(frz a10)])).bind fun r11 => asI .i64 r11 fun n12 => (rank_first (AV.sl 1 ([[AV.int .i64 n8], [AV.int .i64 n12]]))).bind fun r13 => asI .i64 r13 fun n14 => some (AV.int .i64 n14)) :=
  (run73 _).trans (by kernel_rfl)

/-! treillage/scalar.Below: function 74 -/
noncomputable def d74 : FD := ⟨(Tryd.f74.body).getD .skip, Tryd.f74.results.toList, 19⟩
theorem run74 (l : List AV) : ωκ S 74 l = runM τ (fun _ => none) (ωκ S) [4] lpκ d74.code (look (argEnv 0 l)) (retV τ d74.rs) :=
  ωκ_run S 74 l d74 rfl (by show (Tryd.prog.funcs[74]?).bind toFD = _; rw [Tryd.func74]; rfl)
theorem scalar_Below.f_eq (c1 : List AV) (c2 : List AV) : scalar_Below (AV.agg 8 c1) (AV.agg 8 c2) = ((scalar_Meet (AV.agg 8 c1) (AV.agg 8 c2)).bind fun r3 => asT2 r3 fun a4 a5 => asC 8 a4 fun c6 => asB a5 fun b7 => (ifB b7 ((scalar_Same (AV.agg 8 c6) (AV.agg 8 c1)).bind fun r9 => asB r9 fun b10 => some b10) (some false) : Option Bool).bind fun b8 => some (AV.bool b8)) :=
  (run74 _).trans (by kernel_rfl)

/-! treillage/lat.lacks: function 75 -/
noncomputable def d75 : FD := ⟨(Tryd.f75.body).getD .skip, Tryd.f75.results.toList, 14⟩
theorem run75 (l : List AV) : ωκ S 75 l = runM τ (fun _ => none) (ωκ S) [4] lpκ d75.code (look (argEnv 0 l)) (retV τ d75.rs) :=
  ωκ_run S 75 l d75 rfl (by show (Tryd.prog.funcs[75]?).bind toFD = _; rw [Tryd.func75]; rfl)
theorem lat_lacks.f_eq (c1 : List AV) (c2 : List AV) : lat_lacks (AV.agg 8 c1) (AV.agg 8 c2) = (getC c1 6 fun a3 => asB a3 fun b4 => (ifB (!b4) (getC c2 7 fun a6 => asL 2 a6 fun l7 => (slices_ContainsFunc__Field (AV.sl 2 l7) (AV.fn 85 [AV.eptr 8 c1 0])).bind fun r8 => asB r8 fun b9 => some b9) (some false) : Option Bool).bind fun b5 => some (AV.bool b5)) :=
  (run75 _).trans (by kernel_rfl)

/-! treillage/lat.find: function 76 -/
noncomputable def d76 : FD := ⟨(Tryd.f76.body).getD .skip, Tryd.f76.results.toList, 16⟩
theorem run76 (l : List AV) : ωκ S 76 l = runM τ (fun _ => none) (ωκ S) [4] lpκ d76.code (look (argEnv 0 l)) (retV τ d76.rs) :=
  ωκ_run S 76 l d76 rfl (by show (Tryd.prog.funcs[76]?).bind toFD = _; rw [Tryd.func76]; rfl)
theorem lat_find.f_eq (l1 : List (List AV)) (s2 : List UInt8) : lat_find (AV.sl 2 l1) (AV.str s2) = ((slices_BinarySearchFunc__Field (AV.sl 2 l1) (AV.str s2) (AV.fn 87 [])).bind fun r3 => asT2 r3 fun a4 a5 => asI .i64 a4 fun n6 => asB a5 fun b7 => ifB (!b7) (some (AV.int .i64 (-1))) (some (AV.int .i64 n6))) :=
  (run76 _).trans (by kernel_rfl)

/-! treillage/lat.under: function 77 -/
noncomputable def d77 : FD := ⟨(Tryd.f77.body).getD .skip, Tryd.f77.results.toList, 20⟩
theorem run77 (l : List AV) : ωκ S 77 l = runM τ ann77 (ωκ S) [4] lpκ d77.code (look (argEnv 0 l)) (retV τ d77.rs) :=
  ωκ_run S 77 l d77 rfl (by show (Tryd.prog.funcs[77]?).bind toFD = _; rw [Tryd.func77]; rfl)
noncomputable def lat_under.l0 (a3 a8 a9 a10 : AV) : Option AV := loopAt S 77 d77 [1, 0, 1, 0] (look [(3, a3), (8, a8), (9, a9), (10, a10)])
theorem lat_under.f_eq (c1 : List AV) (c2 : List AV) : lat_under (AV.agg 1 c1) (AV.agg 1 c2) = (getC c1 0 fun a3 => asL 8 a3 fun l4 => lat_under.l0 (AV.boxv 1 c2 []) (AV.sl 8 l4) (AV.int .i64 (List.length l4 : Int)) (AV.int .i64 0)) :=
  (run77 _).trans (by kernel_rfl)
theorem lat_under.l0_eq (c1 : List AV) (l2 : List (List AV)) (n3 : Int) (n4 : Int) : lat_under.l0 (AV.boxv 1 c1 []) (AV.sl 8 l2) (AV.int .i64 n3) (AV.int .i64 n4) = (ifB (decide ((n4 : Int) < n3)) (idx l2 n4 fun c5 => getC c1 0 fun a6 => asL 8 a6 fun l7 => (slices_ContainsFunc__Term (AV.sl 8 l7) (AV.fn 89 [AV.eptr 8 c5 0])).bind fun r8 => asB r8 fun b9 => ifB (!b9) (some (AV.bool false)) (lat_under.l0 (AV.boxv 1 c1 []) (AV.sl 8 l2) (AV.int .i64 n3) (AV.int .i64 (w64 (n4 + 1))))) (some (AV.bool true))) :=
  (loopAt_eq S 77 d77 [1, 0, 1, 0] _).trans (by kernel_rfl)

/-! treillage/treillageref02.Right: function 78 -/
noncomputable def d78 : FD := ⟨(Tryd.f78.body).getD .skip, Tryd.f78.results.toList, 67⟩
theorem run78 (l : List AV) : ωκ S 78 l = runM τ ann78 (ωκ S) [2] lpκ d78.code (look (argEnv 0 l)) (retV τ d78.rs) :=
  ωκ_run S 78 l d78 rfl (by show (Tryd.prog.funcs[78]?).bind toFD = _; rw [Tryd.func78]; rfl)
noncomputable def ref02_Right.l0 (a0 a3 : AV) : Option AV := loopAt S 78 d78 [1, 1, 0, 1, 0] (look [(0, a0), (3, a3)])
theorem ref02_Right.f_eq (s1 : List UInt8) : ref02_Right (AV.str s1) = ((ifB (decide (((List.length s1 : Int) : Int) < 1)) (some true) (some (decide ((16 : Int) < (List.length s1 : Int)))) : Option Bool).bind fun b2 => (ifB b2 (some true) ((ref02_Word (AV.str s1)).bind fun r4 => asI .i64 r4 fun n5 => some (decide ((0 : Int) < n5))) : Option Bool).bind fun b3 => (ifB b3 (some true) (idx s1 0 fun c7 => some (decide (((c7.toNat : Int) : Int) < 97))) : Option Bool).bind fun b6 => (ifB b6 (some true) (idx s1 0 fun c9 => some (decide ((122 : Int) < (c9.toNat : Int)))) : Option Bool).bind fun b8 => ifB b8 (some (AV.bool false)) (ref02_Right.l0 (AV.str s1) (AV.int .i64 1))) :=
  (run78 _).trans (by kernel_rfl)
theorem ref02_Right.l0_eq (s1 : List UInt8) (n2 : Int) : ref02_Right.l0 (AV.str s1) (AV.int .i64 n2) = (ifB (decide ((n2 : Int) < (List.length s1 : Int))) (idx s1 n2 fun c3 => (ifB (decide ((97 : Int) ≤ (c3.toNat : Int))) (idx s1 n2 fun c5 => some (decide (((c5.toNat : Int) : Int) ≤ 122))) (some false) : Option Bool).bind fun b4 => idx s1 n2 fun c6 => (ifB (decide ((48 : Int) ≤ (c6.toNat : Int))) (idx s1 n2 fun c8 => some (decide (((c8.toNat : Int) : Int) ≤ 57))) (some false) : Option Bool).bind fun b7 => (ifB (!b4) (some (!b7)) (some false) : Option Bool).bind fun b9 => (ifB b9 (idx s1 n2 fun c11 => some (!decide (((c11.toNat : Int) : Int) = 95))) (some false) : Option Bool).bind fun b10 => ifB b10 (some (AV.bool false)) (ref02_Right.l0 (AV.str s1) (AV.int .i64 (w64 (n2 + 1))))) (some (AV.bool true))) :=
  (loopAt_eq S 78 d78 [1, 1, 0, 1, 0] _).trans (by kernel_rfl)

/-! cmp.isNaN[int]: function 80 -/
noncomputable def d80 : FD := ⟨(Tryd.f80.body).getD .skip, Tryd.f80.results.toList, 6⟩
theorem run80 (l : List AV) : ωκ S 80 l = runM τ (fun _ => none) (ωκ S) [2] lpκ d80.code (look (argEnv 0 l)) (retV τ d80.rs) :=
  ωκ_run S 80 l d80 rfl (by show (Tryd.prog.funcs[80]?).bind toFD = _; rw [Tryd.func80]; rfl)
theorem cmp_isNaN__int.f_eq (n1 : Int) : cmp_isNaN__int (AV.int .i64 n1) = (some (AV.bool (!decide ((n1 : Int) = n1)))) :=
  (run80 _).trans (by kernel_rfl)

/-! internal/bytealg.CompareString: function 81 -/
noncomputable def d81 : FD := ⟨(Tryd.f81.body).getD .skip, Tryd.f81.results.toList, 8⟩
theorem run81 (l : List AV) : ωκ S 81 l = runM τ (fun _ => none) (ωκ S) [4] lpκ d81.code (look (argEnv 0 l)) (retV τ d81.rs) :=
  ωκ_run S 81 l d81 rfl (by show (Tryd.prog.funcs[81]?).bind toFD = _; rw [Tryd.func81]; rfl)
theorem internal_bytealg_CompareString.f_eq (s1 : List UInt8) (s2 : List UInt8) : internal_bytealg_CompareString (AV.str s1) (AV.str s2) = ((internal_bytealg_abigen_runtime_cmpstring (AV.str s1) (AV.str s2)).bind fun r3 => asI .i64 r3 fun n4 => some (AV.int .i64 n4)) :=
  (run81 _).trans (by kernel_rfl)
end Go.Proofs.YtffojfcinkihnaaDoor.Abs
