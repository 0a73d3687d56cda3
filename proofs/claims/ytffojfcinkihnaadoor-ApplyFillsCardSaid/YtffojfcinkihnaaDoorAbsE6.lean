/- What the code comes to, function by function (printed by gen.py). -/
import Derived.Test.YtffojfcinkihnaaDoorAbsT
set_option linter.unusedVariables false
set_option linter.unusedSimpArgs false
set_option linter.unusedSectionVars false
set_option linter.deprecated false
set_option linter.unnecessarySimpa false
namespace Go.Proofs.YtffojfcinkihnaaDoor.Abs
set_option linter.unusedVariables false
set_option maxRecDepth 100000

/-! treillage/rank.Compare: function 82 -/
noncomputable def d82 : FD := ⟨(Tryd.f82.body).getD .skip, Tryd.f82.results.toList, 10⟩
theorem run82 (l : List AV) : ωκ S 82 l = runM τ (fun _ => none) (ωκ S) [4] lpκ d82.code (look (argEnv 0 l)) (retV τ d82.rs) :=
  ωκ_run S 82 l d82 rfl (by show (Tryd.prog.funcs[82]?).bind toFD = _; rw [Tryd.func82]; rfl)
theorem rank_Compare.f_eq (c1 : List AV) (c2 : List AV) : rank_Compare (AV.agg 1 c1) (AV.agg 1 c2) = (getC c1 0 fun a3 => asL 8 a3 fun l4 => getC c2 0 fun a5 => asL 8 a5 fun l6 => (rank_lists__Term (AV.sl 8 l4) (AV.sl 8 l6) (AV.fn 57 [])).bind fun r7 => asI .i64 r7 fun n8 => some (AV.int .i64 n8)) :=
  (run82 _).trans (by kernel_rfl)

/-! treillage/scalar.Meet: function 83 -/
noncomputable def d83 : FD := ⟨(Tryd.f83.body).getD .skip, Tryd.f83.results.toList, 82⟩
theorem run83 (l : List AV) : ωκ S 83 l = runM τ ann83 (ωκ S) [5] lpκ d83.code (look (argEnv 0 l)) (retV τ d83.rs) :=
  ωκ_run S 83 l d83 rfl (by show (Tryd.prog.funcs[83]?).bind toFD = _; rw [Tryd.func83]; rfl)
noncomputable def scalar_Meet.j0 (a2 a3 a4 a6 : AV) : Option AV := joinAt S 83 d83 [1, 1, 1] (look [(2, a2), (3, a3), (4, a4), (6, a6)])
theorem scalar_Meet.f_eq (c1 : List AV) (c2 : List AV) : scalar_Meet (AV.agg 8 c1) (AV.agg 8 c2) = ((scalar_Right (AV.agg 8 c1)).bind fun r3 => asB r3 fun b4 => (ifB (!b4) (some true) ((scalar_Right (AV.agg 8 c2)).bind fun r6 => asB r6 fun b7 => some (!b7)) : Option Bool).bind fun b5 => (ifB b5 (some true) (getC c1 0 fun a9 => asI .i64 a9 fun n10 => getC c2 0 fun a11 => asI .i64 a11 fun n12 => some (!decide ((n10 : Int) = n12))) : Option Bool).bind fun b8 => ifB b8 (some (.tup [AV.agg 8 [AV.int .i64 0, AV.int .i64 0, AV.int .i64 0, AV.str [], AV.bool false, AV.bool false, AV.bool false, AV.sl 2 []], AV.bool false])) (getC c1 0 fun a13 => asI .i64 a13 fun n14 => getC c1 1 fun a15 => asI .i64 a15 fun n16 => getC c2 1 fun a17 => asI .i64 a17 fun n18 => getC c1 2 fun a19 => asI .i64 a19 fun n20 => getC c2 2 fun a21 => asI .i64 a21 fun n22 => getC c1 4 fun a23 => asB a23 fun b24 => (ifB b24 (getC c2 4 fun a26 => asB a26 fun b27 => some b27) (some false) : Option Bool).bind fun b25 => ifB (decide ((min (n20 : Int) n22 : Int) < (max (n16 : Int) n18))) (some (.tup [AV.agg 8 [AV.int .i64 0, AV.int .i64 0, AV.int .i64 0, AV.str [], AV.bool false, AV.bool false, AV.bool false, AV.sl 2 []], AV.bool false])) (getC c1 4 fun a28 => asB a28 fun b29 => ifB b29 (getC c2 3 fun a30 => asS a30 fun s31 => scalar_Meet.j0 (AV.boxv 8 c1 []) (AV.boxv 8 c2 []) (AV.boxv 8 [AV.int .i64 0, AV.int .i64 0, AV.int .i64 0, AV.str [], AV.bool false, AV.bool false, AV.bool false, AV.sl 2 []] [(7, AV.own 2 [])]) (AV.boxv 8 [AV.int .i64 n14, AV.int .i64 (max (n16 : Int) n18), AV.int .i64 (min (n20 : Int) n22), AV.str s31, AV.bool b25, AV.bool false, AV.bool false, AV.sl 2 []] [])) (getC c2 4 fun a32 => asB a32 fun b33 => (ifB b33 (some true) (getC c1 3 fun a35 => asS a35 fun s36 => getC c2 3 fun a37 => asS a37 fun s38 => some (decide ((s36 : List UInt8) = s38))) : Option Bool).bind fun b34 => ifB b34 (getC c1 3 fun a39 => asS a39 fun s40 => scalar_Meet.j0 (AV.boxv 8 c1 []) (AV.boxv 8 c2 []) (AV.boxv 8 [AV.int .i64 0, AV.int .i64 0, AV.int .i64 0, AV.str [], AV.bool false, AV.bool false, AV.bool false, AV.sl 2 []] [(7, AV.own 2 [])]) (AV.boxv 8 [AV.int .i64 n14, AV.int .i64 (max (n16 : Int) n18), AV.int .i64 (min (n20 : Int) n22), AV.str s40, AV.bool b25, AV.bool false, AV.bool false, AV.sl 2 []] [])) (some (.tup [AV.agg 8 [AV.int .i64 0, AV.int .i64 0, AV.int .i64 0, AV.str [], AV.bool false, AV.bool false, AV.bool false, AV.sl 2 []], AV.bool false])))))) :=
  (run83 _).trans (by kernel_rfl)
theorem scalar_Meet.j0_eq (c1 : List AV) (c2 : List AV) (n3 : Int) (n4 : Int) (n5 : Int) (s6 : List UInt8) (l7 : List (List AV)) (l8 : List (List AV)) (n9 : Int) (n10 : Int) (n11 : Int) (s12 : List UInt8) (b13 : Bool) (l14 : List (List AV)) : scalar_Meet.j0 (AV.boxv 8 c1 []) (AV.boxv 8 c2 []) (AV.boxv 8 [AV.int .i64 n3, AV.int .i64 n4, AV.int .i64 n5, AV.str s6, AV.bool false, AV.bool false, AV.bool false, AV.sl 2 l7] [(7, AV.own 2 l8)]) (AV.boxv 8 [AV.int .i64 n9, AV.int .i64 n10, AV.int .i64 n11, AV.str s12, AV.bool b13, AV.bool false, AV.bool false, AV.sl 2 l14] []) = (getC c1 5 fun a15 => asB a15 fun b16 => (ifB b16 (some true) (getC c2 5 fun a18 => asB a18 fun b19 => some b19) : Option Bool).bind fun b17 => (ifB b17 ((scalar_one (AV.agg 8 [AV.int .i64 n9, AV.int .i64 n10, AV.int .i64 n11, AV.str s12, AV.bool b13, AV.bool false, AV.bool false, AV.sl 2 l14])).bind fun r21 => asB r21 fun b22 => some (!b22)) (some false) : Option Bool).bind fun b20 => some (.tup [AV.agg 8 [AV.int .i64 n9, AV.int .i64 n10, AV.int .i64 n11, AV.str s12, AV.bool b13, AV.bool b20, AV.bool false, AV.sl 2 l14], AV.bool true])) :=
  (joinAt_eq S 83 d83 [1, 1, 1] _).trans (by kernel_rfl)

/-! treillage/scalar.Same: function 84 -/
noncomputable def d84 : FD := ⟨(Tryd.f84.body).getD .skip, Tryd.f84.results.toList, 53⟩
theorem run84 (l : List AV) : ωκ S 84 l = runM τ (fun _ => none) (ωκ S) [4] lpκ d84.code (look (argEnv 0 l)) (retV τ d84.rs) :=
  ωκ_run S 84 l d84 rfl (by show (Tryd.prog.funcs[84]?).bind toFD = _; rw [Tryd.func84]; rfl)
theorem scalar_Same.f_eq (c1 : List AV) (c2 : List AV) : scalar_Same (AV.agg 8 c1) (AV.agg 8 c2) = ((scalar_Right (AV.agg 8 c1)).bind fun r3 => asB r3 fun b4 => (ifB b4 ((scalar_Right (AV.agg 8 c2)).bind fun r6 => asB r6 fun b7 => some b7) (some false) : Option Bool).bind fun b5 => (ifB b5 (getC c1 0 fun a9 => asI .i64 a9 fun n10 => getC c2 0 fun a11 => asI .i64 a11 fun n12 => some (decide ((n10 : Int) = n12))) (some false) : Option Bool).bind fun b8 => (ifB b8 (getC c1 1 fun a14 => asI .i64 a14 fun n15 => getC c2 1 fun a16 => asI .i64 a16 fun n17 => some (decide ((n15 : Int) = n17))) (some false) : Option Bool).bind fun b13 => (ifB b13 (getC c1 2 fun a19 => asI .i64 a19 fun n20 => getC c2 2 fun a21 => asI .i64 a21 fun n22 => some (decide ((n20 : Int) = n22))) (some false) : Option Bool).bind fun b18 => (ifB b18 (getC c1 3 fun a24 => asS a24 fun s25 => getC c2 3 fun a26 => asS a26 fun s27 => some (decide ((s25 : List UInt8) = s27))) (some false) : Option Bool).bind fun b23 => (ifB b23 (getC c1 4 fun a29 => asB a29 fun b30 => getC c2 4 fun a31 => asB a31 fun b32 => some (b30 == b32)) (some false) : Option Bool).bind fun b28 => (ifB b28 (getC c1 5 fun a34 => asB a34 fun b35 => getC c2 5 fun a36 => asB a36 fun b37 => some (b35 == b37)) (some false) : Option Bool).bind fun b33 => some (AV.bool b33)) :=
  (run84 _).trans (by kernel_rfl)

/-! treillage/lat.lacks$1: function 85 -/
noncomputable def d85 : FD := ⟨(Tryd.f85.body).getD .skip, Tryd.f85.results.toList, 10⟩
theorem run85 (l : List AV) : ωκ S 85 l = runM τ (fun _ => none) (ωκ S) [3] lpκ d85.code (look (argEnv 0 l)) (retV τ d85.rs) :=
  ωκ_run S 85 l d85 rfl (by show (Tryd.prog.funcs[85]?).bind toFD = _; rw [Tryd.func85]; rfl)
theorem lat_lacks_1.f_eq (c1 : List AV) (c2 : List AV) : lat_lacks_1 (AV.agg 2 c1) (AV.eptr 8 c2 0) = (getC c2 7 fun a3 => asL 2 a3 fun l4 => getC c1 0 fun a5 => asS a5 fun s6 => (lat_find (AV.sl 2 l4) (AV.str s6)).bind fun r7 => asI .i64 r7 fun n8 => some (AV.bool (decide ((n8 : Int) < 0)))) :=
  (run85 _).trans (by kernel_rfl)

/-! slices.BinarySearchFunc[[]treillage/api.Field,treillage/api.Field,string]: function 86 -/
noncomputable def d86 : FD := ⟨(Tryd.f86.body).getD .skip, Tryd.f86.results.toList, 49⟩
theorem run86 (l : List AV) : ωκ S 86 l = runM τ ann86 (ωκ S) [6, 7] lpκ d86.code (look (argEnv 0 l)) (retV τ d86.rs) :=
  ωκ_run S 86 l d86 rfl (by show (Tryd.prog.funcs[86]?).bind toFD = _; rw [Tryd.func86]; rfl)
noncomputable def slices_BinarySearchFunc__Field.l0 (a0 a1 a2 a8 a9 a10 : AV) : Option AV := loopAt S 86 d86 [1, 1, 1, 0, 0] (look [(0, a0), (1, a1), (2, a2), (8, a8), (9, a9), (10, a10)])
theorem slices_BinarySearchFunc__Field.f_eq (l1 : List (List AV)) (s2 : List UInt8) (f3 : Nat) (c4 : List AV) : slices_BinarySearchFunc__Field (AV.sl 2 l1) (AV.str s2) (AV.fn f3 c4) = (slices_BinarySearchFunc__Field.l0 (AV.sl 2 l1) (AV.str s2) (AV.fn f3 c4) (AV.int .i64 (List.length l1 : Int)) (AV.int .i64 0) (AV.int .i64 (List.length l1 : Int))) :=
  (run86 _).trans (by kernel_rfl)
theorem slices_BinarySearchFunc__Field.l0_eq (l1 : List (List AV)) (s2 : List UInt8) (f3 : Nat) (c4 : List AV) (n5 : Int) (n6 : Int) (n7 : Int) : slices_BinarySearchFunc__Field.l0 (AV.sl 2 l1) (AV.str s2) (AV.fn f3 c4) (AV.int .i64 n5) (AV.int .i64 n6) (AV.int .i64 n7) = (ifB (decide ((n6 : Int) < n7)) (guardK (decide ((0 : Int) ≤ 1)) <| idx l1 (w64 (Int.fdiv (IntKind.wrap .u64 (w64 (n6 + n7))) (2 ^ (min (1 : Int).toNat (IntKind.bits .u64))))) fun c8 => (ωκ S f3 ([AV.agg 2 c8, AV.str s2] ++ c4)).bind fun r9 => asI .i64 r9 fun n10 => ifB (decide ((n10 : Int) < 0)) (slices_BinarySearchFunc__Field.l0 (AV.sl 2 l1) (AV.str s2) (AV.fn f3 c4) (AV.int .i64 n5) (AV.int .i64 (w64 ((w64 (Int.fdiv (IntKind.wrap .u64 (w64 (n6 + n7))) (2 ^ (min (1 : Int).toNat (IntKind.bits .u64))))) + 1))) (AV.int .i64 n7)) (slices_BinarySearchFunc__Field.l0 (AV.sl 2 l1) (AV.str s2) (AV.fn f3 c4) (AV.int .i64 n5) (AV.int .i64 n6) (AV.int .i64 (w64 (Int.fdiv (IntKind.wrap .u64 (w64 (n6 + n7))) (2 ^ (min (1 : Int).toNat (IntKind.bits .u64)))))))) ((ifB (decide ((n6 : Int) < n5)) (idx l1 n6 fun c12 => (ωκ S f3 ([AV.agg 2 c12, AV.str s2] ++ c4)).bind fun r13 => asI .i64 r13 fun n14 => some (decide ((n14 : Int) = 0))) (some false) : Option Bool).bind fun b11 => some (.tup [AV.int .i64 n6, AV.bool b11]))) :=
  (loopAt_eq S 86 d86 [1, 1, 1, 0, 0] _).trans (by kernel_rfl)

/-! treillage/lat.find$1: function 87 -/
noncomputable def d87 : FD := ⟨(Tryd.f87.body).getD .skip, Tryd.f87.results.toList, 15⟩
theorem run87 (l : List AV) : ωκ S 87 l = runM τ (fun _ => none) (ωκ S) [4] lpκ d87.code (look (argEnv 0 l)) (retV τ d87.rs) :=
  ωκ_run S 87 l d87 rfl (by show (Tryd.prog.funcs[87]?).bind toFD = _; rw [Tryd.func87]; rfl)
theorem lat_find_1.f_eq (c1 : List AV) (s2 : List UInt8) : lat_find_1 (AV.agg 2 c1) (AV.str s2) = (getC c1 0 fun a3 => asS a3 fun s4 => ifB (bytesLt s4 s2) (some (AV.int .i64 (-1))) (getC c1 0 fun a5 => asS a5 fun s6 => ifB (!(bytesLt s6 s2 || decide ((s6 : List UInt8) = s2))) (some (AV.int .i64 1)) (some (AV.int .i64 0)))) :=
  (run87 _).trans (by kernel_rfl)

/-! slices.ContainsFunc[[]treillage/api.Term,treillage/api.Term]: function 88 -/
noncomputable def d88 : FD := ⟨(Tryd.f88.body).getD .skip, Tryd.f88.results.toList, 9⟩
theorem run88 (l : List AV) : ωκ S 88 l = runM τ (fun _ => none) (ωκ S) [4] lpκ d88.code (look (argEnv 0 l)) (retV τ d88.rs) :=
  ωκ_run S 88 l d88 rfl (by show (Tryd.prog.funcs[88]?).bind toFD = _; rw [Tryd.func88]; rfl)
theorem slices_ContainsFunc__Term.f_eq (l1 : List (List AV)) (f2 : Nat) (c3 : List AV) : slices_ContainsFunc__Term (AV.sl 8 l1) (AV.fn f2 c3) = ((slices_IndexFunc__Term (AV.sl 8 l1) (AV.fn f2 c3)).bind fun r4 => asI .i64 r4 fun n5 => some (AV.bool (decide ((0 : Int) ≤ n5)))) :=
  (run88 _).trans (by kernel_rfl)

/-! treillage/lat.under$1: function 89 -/
noncomputable def d89 : FD := ⟨(Tryd.f89.body).getD .skip, Tryd.f89.results.toList, 7⟩
theorem run89 (l : List AV) : ωκ S 89 l = runM τ (fun _ => none) (ωκ S) [3] lpκ d89.code (look (argEnv 0 l)) (retV τ d89.rs) :=
  ωκ_run S 89 l d89 rfl (by show (Tryd.prog.funcs[89]?).bind toFD = _; rw [Tryd.func89]; rfl)
theorem lat_under_1.f_eq (c1 : List AV) (c2 : List AV) : lat_under_1 (AV.agg 8 c1) (AV.eptr 8 c2 0) = ((lat_below (AV.agg 8 c2) (AV.agg 8 c1)).bind fun r3 => asB r3 fun b4 => some (AV.bool b4)) :=
  (run89 _).trans (by kernel_rfl)

/-! treillage/treillageref02.Word: function 90 -/
noncomputable def d90 : FD := ⟨(Tryd.f90.body).getD .skip, Tryd.f90.results.toList, 22⟩
theorem run90 (l : List AV) : ωκ S 90 l = runM τ (fun _ => none) (ωκ S) [2] lpκ d90.code (look (argEnv 0 l)) (retV τ d90.rs) :=
  ωκ_run S 90 l d90 rfl (by show (Tryd.prog.funcs[90]?).bind toFD = _; rw [Tryd.func90]; rfl)
theorem ref02_Word.f_eq (s1 : List UInt8) : ref02_Word (AV.str s1) = (ifB (decide ((s1 : List UInt8) = [97, 110, 121])) (some (AV.int .i64 1)) (ifB (decide ((s1 : List UInt8) = [98, 111, 111, 108])) (some (AV.int .i64 2)) (ifB (decide ((s1 : List UInt8) = [99, 111, 109, 112, 117, 116, 101, 100])) (some (AV.int .i64 3)) (ifB (decide ((s1 : List UInt8) = [102, 97, 108, 115, 101])) (some (AV.int .i64 4)) (ifB (decide ((s1 : List UInt8) = [105, 110, 116])) (some (AV.int .i64 5)) (ifB (decide ((s1 : List UInt8) = [110, 111, 110, 101])) (some (AV.int .i64 6)) (ifB (decide ((s1 : List UInt8) = [114, 101, 115, 111, 117, 114, 99, 101])) (some (AV.int .i64 7)) (ifB (decide ((s1 : List UInt8) = [115, 116, 114, 105, 110, 103])) (some (AV.int .i64 8)) (ifB (decide ((s1 : List UInt8) = [116, 114, 117, 101])) (some (AV.int .i64 9)) (some (AV.int .i64 0))))))))))) :=
  (run90 _).trans (by kernel_rfl)

/-! treillage/name.small: function 92 -/
noncomputable def d92 : FD := ⟨(Tryd.f92.body).getD .skip, Tryd.f92.results.toList, 9⟩
theorem run92 (l : List AV) : ωκ S 92 l = runM τ (fun _ => none) (ωκ S) [2] lpκ d92.code (look (argEnv 0 l)) (retV τ d92.rs) :=
  ωκ_run S 92 l d92 rfl (by show (Tryd.prog.funcs[92]?).bind toFD = _; rw [Tryd.func92]; rfl)
theorem name_small.f_eq (n1 : Int) : name_small (AV.int .i32 n1) = ((ifB (decide ((97 : Int) ≤ n1)) (some (decide ((n1 : Int) ≤ 122))) (some false) : Option Bool).bind fun b2 => some (AV.bool b2)) :=
  (run92 _).trans (by kernel_rfl)

/-! treillage/rank.lists[treillage/api.Term]: function 94 -/
noncomputable def d94 : FD := ⟨(Tryd.f94.body).getD .skip, Tryd.f94.results.toList, 36⟩
theorem run94 (l : List AV) : ωκ S 94 l = runM τ ann94 (ωκ S) [6] lpκ d94.code (look (argEnv 0 l)) (retV τ d94.rs) :=
  ωκ_run S 94 l d94 rfl (by show (Tryd.prog.funcs[94]?).bind toFD = _; rw [Tryd.func94]; rfl)
noncomputable def rank_lists__Term.l0 (a0 a1 a2 a13 a14 : AV) : Option AV := loopAt S 94 d94 [1, 0, 1, 0] (look [(0, a0), (1, a1), (2, a2), (13, a13), (14, a14)])
theorem rank_lists__Term.f_eq (l1 : List (List AV)) (l2 : List (List AV)) (f3 : Nat) (c4 : List AV) : rank_lists__Term (AV.sl 8 l1) (AV.sl 8 l2) (AV.fn f3 c4) = (rank_lists__Term.l0 (AV.sl 8 l1) (AV.sl 8 l2) (AV.fn f3 c4) (AV.int .i64 (min ((List.length l1 : Int) : Int) (List.length l2 : Int))) (AV.int .i64 0)) :=
  (run94 _).trans (by kernel_rfl)
theorem rank_lists__Term.l0_eq (l1 : List (List AV)) (l2 : List (List AV)) (f3 : Nat) (c4 : List AV) (n5 : Int) (n6 : Int) : rank_lists__Term.l0 (AV.sl 8 l1) (AV.sl 8 l2) (AV.fn f3 c4) (AV.int .i64 n5) (AV.int .i64 n6) = (ifB (decide ((n6 : Int) < n5)) (idx l1 n6 fun c7 => idx l2 n6 fun c8 => (ωκ S f3 ([AV.agg 8 c7, AV.agg 8 c8] ++ c4)).bind fun r9 => asI .i64 r9 fun n10 => ifB (!decide ((n10 : Int) = 0)) (some (AV.int .i64 n10)) (rank_lists__Term.l0 (AV.sl 8 l1) (AV.sl 8 l2) (AV.fn f3 c4) (AV.int .i64 n5) (AV.int .i64 (w64 (n6 + 1))))) ((cmp_Compare__int (AV.int .i64 (List.length l1 : Int)) (AV.int .i64 (List.length l2 : Int))).bind fun r11 => asI .i64 r11 fun n12 => some (AV.int .i64 n12))) :=
  (loopAt_eq S 94 d94 [1, 0, 1, 0] _).trans (by kernel_rfl)

/-! slices.IndexFunc[[]treillage/api.Term,treillage/api.Term]: function 95 -/
noncomputable def d95 : FD := ⟨(Tryd.f95.body).getD .skip, Tryd.f95.results.toList, 19⟩
theorem run95 (l : List AV) : ωκ S 95 l = runM τ ann95 (ωκ S) [4] lpκ d95.code (look (argEnv 0 l)) (retV τ d95.rs) :=
  ωκ_run S 95 l d95 rfl (by show (Tryd.prog.funcs[95]?).bind toFD = _; rw [Tryd.func95]; rfl)
noncomputable def slices_IndexFunc__Term.l0 (a0 a1 a7 a8 : AV) : Option AV := loopAt S 95 d95 [1, 0, 1, 0] (look [(0, a0), (1, a1), (7, a7), (8, a8)])
theorem slices_IndexFunc__Term.f_eq (l1 : List (List AV)) (f2 : Nat) (c3 : List AV) : slices_IndexFunc__Term (AV.sl 8 l1) (AV.fn f2 c3) = (slices_IndexFunc__Term.l0 (AV.sl 8 l1) (AV.fn f2 c3) (AV.int .i64 (List.length l1 : Int)) (AV.int .i64 0)) :=
  (run95 _).trans (by kernel_rfl)
theorem slices_IndexFunc__Term.l0_eq (l1 : List (List AV)) (f2 : Nat) (c3 : List AV) (n4 : Int) (n5 : Int) : slices_IndexFunc__Term.l0 (AV.sl 8 l1) (AV.fn f2 c3) (AV.int .i64 n4) (AV.int .i64 n5) = (ifB (decide ((n5 : Int) < n4)) (idx l1 n5 fun c6 => (ωκ S f2 ([AV.agg 8 c6] ++ c3)).bind fun r7 => asB r7 fun b8 => ifB b8 (some (AV.int .i64 n5)) (slices_IndexFunc__Term.l0 (AV.sl 8 l1) (AV.fn f2 c3) (AV.int .i64 n4) (AV.int .i64 (w64 (n5 + 1))))) (some (AV.int .i64 (-1)))) :=
  (loopAt_eq S 95 d95 [1, 0, 1, 0] _).trans (by kernel_rfl)
end Go.Proofs.YtffojfcinkihnaaDoor.Abs
