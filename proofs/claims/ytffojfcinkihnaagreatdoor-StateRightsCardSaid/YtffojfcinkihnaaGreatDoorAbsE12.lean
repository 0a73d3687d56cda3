/- What the code comes to, function by function (printed by gen.py). -/
import Derived.Test.YtffojfcinkihnaaGreatDoorAbsT
set_option linter.unusedVariables false
set_option linter.unusedSimpArgs false
set_option linter.unusedSectionVars false
set_option linter.deprecated false
set_option linter.unnecessarySimpa false
namespace Go.Proofs.YtffojfcinkihnaaGreatDoor.Abs
set_option linter.unusedVariables false
set_option maxRecDepth 100000

/-! slices.BinarySearchFunc[[]treillage/api.Field,treillage/api.Field,string]: function 198 -/
noncomputable def d198 : FD := ⟨(Tryz.f198.body).getD .skip, Tryz.f198.results.toList, 49⟩
theorem run198 (l : List AV) : ωκ S 198 l = runM τ ann198 (ωκ S) [6, 7] lpκ d198.code (look (argEnv 0 l)) (retV τ d198.rs) :=
  ωκ_run S 198 l d198 rfl (by show (Tryz.prog.funcs[198]?).bind toFD = _; rw [Tryz.func198]; rfl)
noncomputable def slices_BinarySearchFunc__Field.l0 (a0 a1 a2 a8 a9 a10 : AV) : Option AV := loopAt S 198 d198 [1, 1, 1, 0, 0] (look [(0, a0), (1, a1), (2, a2), (8, a8), (9, a9), (10, a10)])
theorem slices_BinarySearchFunc__Field.f_eq (l1 : List (List AV)) (s2 : List UInt8) (f3 : Nat) (c4 : List AV) : slices_BinarySearchFunc__Field (AV.sl 2 l1) (AV.str s2) (AV.fn f3 c4) = (slices_BinarySearchFunc__Field.l0 (AV.sl 2 l1) (AV.str s2) (AV.fn f3 c4) (AV.int .i64 (List.length l1 : Int)) (AV.int .i64 0) (AV.int .i64 (List.length l1 : Int))) :=
  (run198 _).trans (by kernel_rfl)
theorem slices_BinarySearchFunc__Field.l0_eq (l1 : List (List AV)) (s2 : List UInt8) (f3 : Nat) (c4 : List AV) (n5 : Int) (n6 : Int) (n7 : Int) : slices_BinarySearchFunc__Field.l0 (AV.sl 2 l1) (AV.str s2) (AV.fn f3 c4) (AV.int .i64 n5) (AV.int .i64 n6) (AV.int .i64 n7) = (ifB (decide ((n6 : Int) < n7)) (guardK (decide ((0 : Int) ≤ 1)) <| idx l1 (w64 (Int.fdiv (IntKind.wrap .u64 (w64 (n6 + n7))) (2 ^ (min (1 : Int).toNat (IntKind.bits .u64))))) fun c8 => (ωκ S f3 ([AV.agg 2 c8, AV.str s2] ++ c4)).bind fun r9 => asI .i64 r9 fun n10 => ifB (decide ((n10 : Int) < 0)) (slices_BinarySearchFunc__Field.l0 (AV.sl 2 l1) (AV.str s2) (AV.fn f3 c4) (AV.int .i64 n5) (AV.int .i64 (w64 ((w64 (Int.fdiv (IntKind.wrap .u64 (w64 (n6 + n7))) (2 ^ (min (1 : Int).toNat (IntKind.bits .u64))))) + 1))) (AV.int .i64 n7)) (slices_BinarySearchFunc__Field.l0 (AV.sl 2 l1) (AV.str s2) (AV.fn f3 c4) (AV.int .i64 n5) (AV.int .i64 n6) (AV.int .i64 (w64 (Int.fdiv (IntKind.wrap .u64 (w64 (n6 + n7))) (2 ^ (min (1 : Int).toNat (IntKind.bits .u64)))))))) ((ifB (decide ((n6 : Int) < n5)) (idx l1 n6 fun c12 => (ωκ S f3 ([AV.agg 2 c12, AV.str s2] ++ c4)).bind fun r13 => asI .i64 r13 fun n14 => some (decide ((n14 : Int) = 0))) (some false) : Option Bool).bind fun b11 => some (.tup [AV.int .i64 n6, AV.bool b11]))) :=
  (loopAt_eq S 198 d198 [1, 1, 1, 0, 0] _).trans (by kernel_rfl)

/-! treillage/lat.find$1: function 199 -/
noncomputable def d199 : FD := ⟨(Tryz.f199.body).getD .skip, Tryz.f199.results.toList, 15⟩
theorem run199 (l : List AV) : ωκ S 199 l = runM τ (fun _ => none) (ωκ S) [4] lpκ d199.code (look (argEnv 0 l)) (retV τ d199.rs) :=
  ωκ_run S 199 l d199 rfl (by show (Tryz.prog.funcs[199]?).bind toFD = _; rw [Tryz.func199]; rfl)
theorem lat_find_1.f_eq (c1 : List AV) (s2 : List UInt8) : lat_find_1 (AV.agg 2 c1) (AV.str s2) = (getC c1 0 fun a3 => asS a3 fun s4 => ifB (bytesLt s4 s2) (some (AV.int .i64 (-1))) (getC c1 0 fun a5 => asS a5 fun s6 => ifB (!(bytesLt s6 s2 || decide ((s6 : List UInt8) = s2))) (some (AV.int .i64 1)) (some (AV.int .i64 0)))) :=
  (run199 _).trans (by kernel_rfl)

/-! slices.ContainsFunc[[]treillage/api.Term,treillage/api.Term]: function 200 -/
noncomputable def d200 : FD := ⟨(Tryz.f200.body).getD .skip, Tryz.f200.results.toList, 9⟩
theorem run200 (l : List AV) : ωκ S 200 l = runM τ (fun _ => none) (ωκ S) [4] lpκ d200.code (look (argEnv 0 l)) (retV τ d200.rs) :=
  ωκ_run S 200 l d200 rfl (by show (Tryz.prog.funcs[200]?).bind toFD = _; rw [Tryz.func200]; rfl)
theorem slices_ContainsFunc__Term.f_eq (l1 : List (List AV)) (f2 : Nat) (c3 : List AV) : slices_ContainsFunc__Term (AV.sl 8 l1) (AV.fn f2 c3) = ((slices_IndexFunc__Term (AV.sl 8 l1) (AV.fn f2 c3)).bind fun r4 => asI .i64 r4 fun n5 => some (AV.bool (decide ((0 : Int) ≤ n5)))) :=
  (run200 _).trans (by kernel_rfl)

/-! treillage/lat.under$1: function 201 -/
noncomputable def d201 : FD := ⟨(Tryz.f201.body).getD .skip, Tryz.f201.results.toList, 7⟩
theorem run201 (l : List AV) : ωκ S 201 l = runM τ (fun _ => none) (ωκ S) [3] lpκ d201.code (look (argEnv 0 l)) (retV τ d201.rs) :=
  ωκ_run S 201 l d201 rfl (by show (Tryz.prog.funcs[201]?).bind toFD = _; rw [Tryz.func201]; rfl)
theorem lat_under_1.f_eq (c1 : List AV) (c2 : List AV) : lat_under_1 (AV.agg 8 c1) (AV.eptr 8 c2 0) = ((lat_below (AV.agg 8 c2) (AV.agg 8 c1)).bind fun r3 => asB r3 fun b4 => some (AV.bool b4)) :=
  (run201 _).trans (by kernel_rfl)

/-! slices.nextPowerOfTwo: function 211 -/
noncomputable def d211 : FD := ⟨(Tryz.f211.body).getD .skip, Tryz.f211.results.toList, 7⟩
theorem run211 (l : List AV) : ωκ S 211 l = runM τ (fun _ => none) (ωκ S) [2] lpκ d211.code (look (argEnv 0 l)) (retV τ d211.rs) :=
  ωκ_run S 211 l d211 rfl (by show (Tryz.prog.funcs[211]?).bind toFD = _; rw [Tryz.func211]; rfl)
theorem slices_nextPowerOfTwo.f_eq (n1 : Int) : slices_nextPowerOfTwo (AV.int .i64 n1) = ((math_bits_Len (AV.int .u64 (IntKind.wrap .u64 (n1)))).bind fun r2 => asI .i64 r2 fun n3 => guardK (decide ((0 : Int) ≤ n3)) <| some (AV.int .u64 (IntKind.wrap .u64 (1 * 2 ^ (min (n3 : Int).toNat (IntKind.bits .u64)))))) :=
  (run211 _).trans (by kernel_rfl)

/-! slices.IndexFunc[[]treillage/api.Term,treillage/api.Term]: function 215 -/
noncomputable def d215 : FD := ⟨(Tryz.f215.body).getD .skip, Tryz.f215.results.toList, 19⟩
theorem run215 (l : List AV) : ωκ S 215 l = runM τ ann215 (ωκ S) [4] lpκ d215.code (look (argEnv 0 l)) (retV τ d215.rs) :=
  ωκ_run S 215 l d215 rfl (by show (Tryz.prog.funcs[215]?).bind toFD = _; rw [Tryz.func215]; rfl)
noncomputable def slices_IndexFunc__Term.l0 (a0 a1 a7 a8 : AV) : Option AV := loopAt S 215 d215 [1, 0, 1, 0] (look [(0, a0), (1, a1), (7, a7), (8, a8)])
theorem slices_IndexFunc__Term.f_eq (l1 : List (List AV)) (f2 : Nat) (c3 : List AV) : slices_IndexFunc__Term (AV.sl 8 l1) (AV.fn f2 c3) = (slices_IndexFunc__Term.l0 (AV.sl 8 l1) (AV.fn f2 c3) (AV.int .i64 (List.length l1 : Int)) (AV.int .i64 0)) :=
  (run215 _).trans (by kernel_rfl)
theorem slices_IndexFunc__Term.l0_eq (l1 : List (List AV)) (f2 : Nat) (c3 : List AV) (n4 : Int) (n5 : Int) : slices_IndexFunc__Term.l0 (AV.sl 8 l1) (AV.fn f2 c3) (AV.int .i64 n4) (AV.int .i64 n5) = (ifB (decide ((n5 : Int) < n4)) (idx l1 n5 fun c6 => (ωκ S f2 ([AV.agg 8 c6] ++ c3)).bind fun r7 => asB r7 fun b8 => ifB b8 (some (AV.int .i64 n5)) (slices_IndexFunc__Term.l0 (AV.sl 8 l1) (AV.fn f2 c3) (AV.int .i64 n4) (AV.int .i64 (w64 (n5 + 1))))) (some (AV.int .i64 (-1)))) :=
  (loopAt_eq S 215 d215 [1, 0, 1, 0] _).trans (by kernel_rfl)
end Go.Proofs.YtffojfcinkihnaaGreatDoor.Abs
